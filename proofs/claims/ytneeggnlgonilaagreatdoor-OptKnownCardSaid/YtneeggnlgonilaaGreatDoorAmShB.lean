/- Each step of the abstract machine hands on one result alone: second part. -/
import Derived.Test.YtneeggnlgonilaaGreatDoorAmSh
namespace Go.Am
section
variable {C : Ctx} {h : Heap}

theorem sh_pushSlc (h : Heap) (x : Blk) (f : Nat → AV) : Sh fun K : AV × Heap → Prop => h.pushK x fun b h' => K (f b, h') :=
  sh_bind2 (sh_hpushK h x) fun b h' => sh_pure (f b, h')

theorem sh_convertK (s d : TypeId) (x : AV) : Sh fun K : AV × Heap → Prop => convertK C s d x h fun a b => K (a, b) := by
  unfold convertK
  refine sh_bind (sh_underK C d) fun dd => sh_bind (sh_underK C s) fun ss => ?_
  cases ss
  case int k =>
    cases dd <;> first | exact sh_false | skip
    cases x <;> first | exact sh_false | exact sh_pure (AV.int _ _, h)
  case string =>
    cases dd <;> first | exact sh_false | skip
    · cases x <;> first | exact sh_false | exact sh_pure (AV.str _, h)
    · cases x <;> first | exact sh_false | skip
      try dsimp only
      refine sh_bind (sh_underK C _) fun e => ?_
      cases e <;> first | exact sh_false | skip
      rename_i k
      cases k <;> first | exact sh_false | exact sh_pushSlc h _ fun b => AV.slc b 1 0 _
  case slice e =>
    cases dd <;> first | exact sh_false | skip
    cases x <;> first | exact sh_false | skip
    · try dsimp only
      refine sh_bind (sh_underK C _) fun e => ?_
      cases e <;> first | exact sh_false | skip
      rename_i k
      cases k <;> first | exact sh_false | exact sh_pure (AV.str _, h)
    · try dsimp only
      refine sh_bind (sh_underK C _) fun e => ?_
      cases e <;> first | exact sh_false | skip
      rename_i k
      cases k <;> first | exact sh_false | skip
      try dsimp only
      refine sh_bind (sh_hgetK _ _) fun blk => ?_
      cases blk <;> first | exact sh_false | skip
      · exact sh_assert (sh_bind (sh_takeK _ _ _) fun r => sh_pure (AV.str _, h))
      · rename_i cols
        match cols with
        | [] => exact sh_false
        | [.int .u8 g] => exact sh_assert (sh_pure (AV.str _, h))
        | [.int .i8 g] | [.int .i16 g] | [.int .i32 g] | [.int .i64 g] | [.int .u16 g] | [.int .u32 g] | [.int .u64 g] => exact sh_false
        | [.bool g] => exact sh_false
        | [.str g] => exact sh_false
        | a :: b :: c => cases a <;> first | exact sh_false | (rename_i k _; cases k <;> exact sh_false)
  all_goals exact sh_false

theorem sh_srcK (z : Nat) (x : AV) : Sh fun K => srcK z x h K := by
  cases x <;> first | exact sh_false | exact sh_pure _ | exact sh_assert (sh_pure _) | skip
  simp only [srcK]
  refine sh_assert (sh_bind (sh_hgetK _ _) fun blk => ?_)
  cases blk <;> first | exact sh_false | exact sh_bind (sh_takeK _ _ _) fun r => sh_pure (Src.cells _ r) | exact sh_assert (sh_pure _)

theorem sh_joinCols : ∀ (n o : Nat) (cs : List Col) (o' : Nat) (cs' : List Col), Sh fun K => joinCols n o cs o' cs' K
  | _, _, [], _, [] => sh_pure []
  | _, _, [], _, _ :: _ => sh_false
  | n, o, a :: r, o', [] => by cases a <;> exact sh_false
  | n, o, a :: r, o', b :: r' => by
    cases a <;> cases b <;> first | exact sh_false | skip
    · simp only [joinCols]; exact sh_assert (sh_bind (sh_joinCols n o r o' r') fun cs => sh_pure (Col.int _ _ :: cs))
    · simp only [joinCols]; exact sh_bind (sh_joinCols n o r o' r') fun cs => sh_pure (Col.bool _ :: cs)
    · simp only [joinCols]; exact sh_bind (sh_joinCols n o r o' r') fun cs => sh_pure (Col.str _ :: cs)

theorem sh_addOne : ∀ (n : Nat) (cs : List Col) (vs : List AV), Sh fun K => addOne n cs vs K
  | _, [], [] => sh_pure []
  | _, [], _ :: _ => sh_false
  | n, a :: r, [] => by cases a <;> exact sh_false
  | n, a :: r, b :: r' => by
    cases a <;> cases b <;> first | exact sh_false | skip
    · simp only [addOne]; exact sh_assert (sh_bind (sh_addOne n r r') fun cs => sh_pure (Col.int _ _ :: cs))
    · simp only [addOne]; exact sh_bind (sh_addOne n r r') fun cs => sh_pure (Col.bool _ :: cs)
    · simp only [addOne]; exact sh_bind (sh_addOne n r r') fun cs => sh_pure (Col.str _ :: cs)

theorem sh_addCells : ∀ (m n z : Nat) (cols : List Col) (cs : List AV), Sh fun K => addCells m n z cols cs K
  | 0, _, _, _, _ => sh_pure _
  | m + 1, n, z, cols, cs => by
    simp only [addCells]
    exact sh_bind (sh_takeK _ _ _) fun r => sh_bind (sh_addOne _ _ _) fun c' => sh_bind (sh_takeK _ _ _) fun cs' => sh_addCells m _ _ _ _

theorem sh_shiftK (o : Nat) (c : Col) : Sh (c.shiftK o) := by
  cases o with
  | zero => exact sh_pure _
  | succ o => cases c <;> exact sh_pure _

theorem sh_freshAppend (bytes z : Nat) (src : Src) (nn : AV) : Sh fun K : AV × Heap → Prop => freshAppend h bytes z src nn fun a b => K (a, b) := by
  cases src with
  | none => exact sh_pure (nn, h)
  | cells n cs =>
    cases n with
    | zero => exact sh_pure (nn, h)
    | succ n => exact sh_assert (sh_pushSlc h _ fun b => AV.slc b z 0 (n + 1))
  | row n o cols => exact sh_cond (sh_pure (nn, h)) (sh_assert (sh_bind (sh_mapK (fun c => sh_shiftK o c) cols) fun cols' => sh_pushSlc h _ fun b => AV.slc b z 0 n))

theorem sh_setPush (h : Heap) (b : Nat) (x : Blk) (f : Nat → AV) : Sh fun K : AV × Heap → Prop => h.setK b .dead fun h1 => h1.pushK x fun b' h' => K (f b', h') :=
  sh_bind (sh_hsetK _ _ _) fun h1 => sh_pushSlc h1 x f

theorem sh_appendK (argTypes : Array TypeId) (s x : AV) : Sh fun K : AV × Heap → Prop => appendK C argTypes s x h fun a b => K (a, b) := by
  unfold appendK
  refine sh_bind (sh_optK _) fun st => sh_bind (sh_optK _) fun xt => sh_bind (sh_underK C _) fun xd => sh_assert (sh_bind (sh_underK C _) fun d => ?_)
  cases d <;> first | exact sh_false | skip
  try dsimp only
  refine sh_bind (sh_infoK _ _) fun ie => sh_bind (sh_zeroK _ _) fun zv => sh_bind (sh_cellsK _) fun zc => sh_assert (sh_bind (sh_srcK _ _) fun src => ?_)
  cases s <;> first | exact sh_false | exact sh_freshAppend _ _ _ _ | skip
  rename_i b z o n
  cases o <;> first | exact sh_false | skip
  try dsimp only
  refine sh_assert ?_
  cases src with
  | none => exact sh_pure (AV.slc b z 0 n, h)
  | cells m cs =>
    cases m with
    | zero => exact sh_pure (AV.slc b z 0 n, h)
    | succ m =>
      try dsimp only
      refine sh_assert (sh_bind (sh_hgetK _ _) fun blk => ?_)
      cases blk <;> first | exact sh_false | skip
      · rename_i wr _ _ _
        cases wr <;> first | exact sh_false | skip
        exact sh_assert (sh_bind (sh_takeK _ _ _) fun l => sh_bind (sh_appK _ _) fun all => sh_setPush h b _ fun b' => AV.slc b' z 0 _)
      · rename_i wr _ _ cols
        cases wr <;> first | exact sh_false | skip
        exact sh_bind (m := fun K => addCells (_ + 1) n z cols cs K) (sh_addCells _ _ _ _ _) fun cols' => sh_setPush h b _ fun b' => AV.slc b' z 0 _
  | row m o' cols' =>
    try dsimp only
    refine sh_assert (sh_bind (sh_hgetK _ _) fun blk => ?_)
    cases blk <;> first | exact sh_false | skip
    · rename_i wr _ _ cs
      cases wr <;> first | exact sh_false | skip
      cases cs with
      | nil => exact sh_assert (sh_bind (sh_mapK (fun c => sh_shiftK o' c) cols') fun cs => sh_setPush h b _ fun b' => AV.slc b' z 0 _)
      | cons a r =>
        cases a <;> first | exact sh_false | skip
        refine sh_assert (sh_bind (sh_takeK _ _ _) fun l => ?_)
        split
        · exact sh_assert (sh_setPush h b _ fun b' => AV.slc b' z 0 _)
        · exact sh_false
    · rename_i wr _ _ _
      cases wr <;> first | exact sh_false | skip
      exact sh_bind (sh_joinCols _ _ _ _ _) fun cols' => sh_setPush h b _ fun b' => AV.slc b' z 0 _

theorem sh_lenK (argTypes : Array TypeId) (x : AV) : Sh fun K => lenK C argTypes x h K := by
  unfold lenK
  refine sh_bind (sh_optK _) fun t => sh_bind (sh_underK C _) fun d => ?_
  cases d <;> first | exact sh_false | skip
  all_goals
    cases x <;> first | exact sh_false | exact sh_pure _ | skip
  rename_i b
  show Sh fun K : AV → Prop => h.getK b fun | .mp es => K (.int .i64 es.length) | _ => False
  refine sh_bind (sh_hgetK _ _) fun blk => ?_
  cases blk <;> first | exact sh_false | exact sh_pure _

theorem sh_minMaxFrom (mx : Bool) (k : IntKind) : ∀ (l : List AV) (a : Int), Sh fun K => minMaxFrom mx k a l K
  | [], a => sh_pure _
  | x :: r, a => by
    cases x <;> first | exact sh_false | skip
    simp only [minMaxFrom]
    exact sh_assert (sh_cond (sh_minMaxFrom mx k r _) (sh_minMaxFrom mx k r _))

theorem sh_minMaxK (mx : Bool) (l : List AV) : Sh fun K => minMaxK mx l K := by
  cases l with
  | nil => exact sh_false
  | cons x r => cases x <;> first | exact sh_false | exact sh_minMaxFrom _ _ _ _

theorem sh_copyCols (o m : Nat) : ∀ (cs : List Col) (o' : Nat) (cs' : List Col), Sh fun K => copyCols o m cs o' cs' K
  | [], _, [] => sh_pure []
  | [], _, _ :: _ => sh_false
  | a :: r, o', [] => by cases a <;> exact sh_false
  | a :: r, o', b :: r' => by
    cases a <;> cases b <;> first | exact sh_false | skip
    · simp only [copyCols]; exact sh_assert (sh_bind (sh_copyCols o m r o' r') fun cs => sh_pure (Col.int _ _ :: cs))
    · simp only [copyCols]; exact sh_bind (sh_copyCols o m r o' r') fun cs => sh_pure (Col.bool _ :: cs)
    · simp only [copyCols]; exact sh_bind (sh_copyCols o m r o' r') fun cs => sh_pure (Col.str _ :: cs)

theorem sh_setV (h : Heap) (b : Nat) (x : Blk) (v : AV) : Sh fun K : AV × Heap → Prop => h.setK b x fun h' => K (v, h') := sh_bind (sh_hsetK _ _ _) fun h1 => sh_pure (v, h1)

theorem sh_copyK (argTypes : Array TypeId) (d x : AV) : Sh fun K : AV × Heap → Prop => copyK C argTypes d x h fun a b => K (a, b) := by
  unfold copyK
  refine sh_bind (sh_optK _) fun t => sh_bind (sh_underK C _) fun dd => ?_
  cases dd <;> first | exact sh_false | skip
  try dsimp only
  refine sh_bind (sh_infoK _ _) fun ie => sh_bind (sh_srcK _ _) fun src => ?_
  cases d <;> first | exact sh_false | exact sh_pure (AV.int _ _, h) | skip
  try dsimp only
  refine sh_assert ?_
  cases src with
  | none => exact sh_pure (AV.int _ _, h)
  | cells m cs =>
    try dsimp only
    refine sh_bind (sh_hgetK _ _) fun blk => ?_
    cases blk <;> first | exact sh_false | skip
    rename_i wr _ _ _
    cases wr <;> first | exact sh_false | skip
    exact sh_assert (sh_bind (sh_takeK _ _ _) fun cs' => sh_bind (sh_putK _ _ _) fun new => sh_setV h _ _ _)
  | row m o' cols' =>
    try dsimp only
    refine sh_bind (sh_hgetK _ _) fun blk => ?_
    cases blk <;> first | exact sh_false | skip
    rename_i wr _ _ _
    cases wr <;> first | exact sh_false | skip
    exact sh_assert (sh_bind (sh_copyCols _ _ _ _ _) fun cs => sh_setV h _ _ _)

theorem sh_makeSliceK (t : TypeId) (l c : AV) : Sh fun K : AV × Heap → Prop => makeSliceK C t l c h fun a b => K (a, b) := by
  unfold makeSliceK
  cases l <;> first | exact sh_false | skip
  rename_i k n
  cases k <;> first | exact sh_false | skip
  cases c <;> first | exact sh_false | skip
  rename_i k n
  cases k <;> first | exact sh_false | skip
  try dsimp only
  refine sh_bind (sh_underK C _) fun dd => ?_
  cases dd <;> first | exact sh_false | skip
  exact sh_bind (sh_infoK _ _) fun ie => sh_assert (sh_bind (sh_zeroK _ _) fun zv => sh_bind (sh_cellsK _) fun z => sh_assert
    (sh_cond (sh_bind (sh_colsOfZero _) fun cols => sh_pushSlc h _ fun b => AV.slc b _ 0 _) (sh_bind (sh_replicateA _ _) fun cs => sh_pushSlc h _ fun b => AV.slc b _ 0 _)))

theorem sh_onH {f : (AV → Prop) → Prop} (hf : Sh f) (h : Heap) : Sh fun K : AV × Heap → Prop => f fun v => K (v, h) := sh_bind hf fun v => sh_pure (v, h)

theorem sh_builtinK (b : Builtin) (argTypes : Array TypeId) (args : List AV) : Sh fun K : AV × Heap → Prop => builtinK C b argTypes args h fun a b => K (a, b) := by
  unfold builtinK
  split
  · exact sh_appendK _ _ _
  · exact sh_copyK _ _ _
  · exact sh_onH (sh_lenK _ _) h
  · exact sh_onH (sh_minMaxK _ _) h
  · exact sh_onH (sh_minMaxK _ _) h
  · exact sh_false

theorem sh_buildK (t : TypeId) (ps : List (Nat × AV)) : Sh fun K => buildK C t ps K := by
  unfold buildK
  refine sh_bind (sh_zeroK _ _) fun zv => sh_bind (sh_cellsK _) fun z => sh_bind (sh_underK C _) fun d => ?_
  cases d <;> first | exact sh_false | skip
  · exact sh_bind (sh_infoK _ _) fun ie => sh_bind (sh_fillK _ _ _) fun cs => sh_pure (AV.agg cs)
  · exact sh_assert (sh_bind (sh_fillK _ _ _) fun cs => sh_pure (AV.agg cs))

theorem sh_buildSliceK (t : TypeId) (n : Nat) (ps : List (Nat × AV)) : Sh fun K : AV × Heap → Prop => buildSliceK C t n ps h fun a b => K (a, b) := by
  unfold buildSliceK
  refine sh_bind (sh_underK C _) fun d => ?_
  cases d <;> first | exact sh_false | skip
  exact sh_bind (sh_infoK _ _) fun ie => sh_assert (sh_bind (sh_zeroK _ _) fun zv => sh_bind (sh_cellsK _) fun z => sh_assert (sh_bind (sh_replicateA _ _) fun cs0 => sh_bind (sh_fillK _ _ _) fun cs => sh_pushSlc h _ fun b => AV.slc b _ 0 n))

theorem sh_fieldAddrK (t : TypeId) (x : AV) (f : Nat) : Sh fun K => fieldAddrK C t x f K := by
  cases x <;> first | exact sh_false | skip
  simp only [fieldAddrK]
  refine sh_bind (sh_underK C _) fun d => ?_
  cases d <;> first | exact sh_false | skip
  exact sh_bind (sh_optK _) fun fd => sh_bind (sh_infoK _ _) fun inf => sh_assert (sh_pure _)

theorem sh_fieldK (t : TypeId) (x : AV) (f : Nat) : Sh fun K => fieldK C t x f K := by
  cases x <;> first | exact sh_false | skip
  simp only [fieldK]
  refine sh_bind (sh_underK C _) fun d => ?_
  cases d <;> first | exact sh_false | skip
  exact sh_bind (sh_optK _) fun fd => sh_partA _ _ _

theorem sh_slice3K (t : TypeId) (x : AV) (lo : Option AV) (hi mx : AV) : Sh fun K => opK.slice3K C t x lo hi mx K := by
  unfold opK.slice3K
  split
  · refine sh_bind (sh_underK C _) fun d => ?_
    cases d <;> first | exact sh_false | exact sh_bind (sh_infoK _ _) fun _ => sh_pure _
  · refine sh_bind (sh_underK C _) fun d => ?_
    cases d <;> first | exact sh_false | exact sh_bind (sh_infoK _ _) fun _ => sh_pure _
  · refine sh_bind (sh_underK C _) fun d => ?_
    cases d <;> first | exact sh_false | exact sh_bind (sh_infoK _ _) fun _ => sh_pure _
  · exact sh_false
end

/-- What is called hands on one result alone. -/
structure ShE (E : Env) : Prop where
  call : ∀ f args h, Sh2 fun K => E.call f args h K fun _ _ => False
  round : ∀ l args h, Sh2 fun K => E.round l args h K

abbrev noKP : KR := fun _ _ => False

section
variable {C : Ctx} {E : Env} {h : Heap}
theorem sh_applyK (hE : ShE E) (f : AV) (vs : List AV) : Sh fun K : AV × Heap → Prop => applyK E f vs h (fun a b => K (a, b)) noKP := by
  unfold applyK
  split
  · exact sh_bind (sh_appK _ _) fun a => sh_bind (sh_appK _ _) fun args => sh_to2 (hE.call _ _ _)
  · exact sh_to2 (hE.round _ _ _)
  · exact sh_false

theorem sh_rho (tm : List (Nat × AV)) (x : Operand) : Sh fun K => rhoOf C tm x K := by
  cases x
  · exact sh_getK _ _
  · exact sh_optK _
  · exact show Sh (fun K : AV → Prop => getK C.glob _ fun b => K (AV.ptr b 0 0 0)) from sh_bind (sh_getK _ _) fun b => sh_pure (AV.ptr b 0 0 0)
  · exact sh_pure _

theorem sh_oK {ρ : Rho} (hρ : ∀ x, Sh (ρ x)) (o : Option Operand) : Sh fun K => opK.oK ρ o K := by
  cases o with
  | none => exact sh_pure _
  | some x => exact show Sh (fun K : Option AV → Prop => ρ x fun v => K (some v)) from sh_bind (hρ x) fun v => sh_pure (some v)

theorem sh_rowOrCells (blk : Blk) (b : Nat) (h' : Heap) : Sh fun K : AV × Heap → Prop => opK.rowOrCells blk b h' fun a b => K (a, b) := by
  cases blk <;> exact sh_pure (_, h')

theorem sh_parts {ρ : Rho} (hρ : ∀ x, Sh (ρ x)) (l : List (Nat × Operand)) : Sh fun K => mapK (fun (p : Nat × Operand) k => ρ p.2 fun x => k (p.1, x)) l K :=
  sh_mapK (fun p => sh_bind (hρ p.2) fun x => sh_pure (p.1, x)) l

theorem sh_keyEq (a b : AV) : Sh fun K => keyEq a b K := by
  cases a <;> cases b <;> first | exact sh_false | exact sh_pure _ | exact sh_assert (sh_pure _)

theorem sh_findK {α : Type} {key : AV} {f : AV → (α → Prop) → Prop} {g : (α → Prop) → Prop} (hf : ∀ v, Sh (f v)) (hg : Sh g) : ∀ es : List (AV × AV), Sh fun K => findK key es (fun v => f v K) (g K)
  | [] => hg
  | (k', v) :: r => by
    simp only [findK]
    exact sh_bind (sh_keyEq _ _) fun b => sh_cond (hf v) (sh_findK hf hg r)

theorem sh_mapSetK (key v : AV) : ∀ es : List (AV × AV), Sh fun K => mapSetK key v es K
  | [] => sh_pure _
  | (k', x) :: r => by
    simp only [mapSetK]
    exact sh_bind (sh_keyEq _ _) fun b => sh_cond (sh_pure _) (sh_bind (sh_mapSetK key v r) fun r' => sh_pure _)

theorem sh_plainKey {α : Type} {t : TypeId} {key : AV} {f : (α → Prop) → Prop} (hf : Sh f) : Sh fun K => plainKey C t key (f K) := by
  unfold plainKey
  refine sh_bind (sh_underK C _) fun d => ?_
  cases d <;> cases key <;> first | exact sh_false | exact hf

theorem sh_lookupK (t : TypeId) (m key : AV) (ok : Bool) : Sh fun K => lookupK C t m key ok h K := by
  unfold lookupK
  refine sh_bind (sh_underK C _) fun d => ?_
  cases d <;> first | exact sh_false | skip
  try dsimp only
  have hout : ∀ v b, Sh fun K : AV → Prop => @cond Prop ok (K (.tup [v, .bool b])) (K v) := fun v b => sh_cond (sh_pure _) (sh_pure _)
  have hz : ∀ et, Sh fun K : AV → Prop => zeroK C et fun z => @cond Prop ok (K (.tup [z, .bool false])) (K z) := fun et => sh_bind (sh_zeroK _ _) fun z => hout z false
  refine sh_plainKey ?_
  cases m <;> first | exact sh_false | exact hz _ | skip
  refine sh_bind (sh_hgetK _ _) fun blk => ?_
  cases blk <;> first | exact sh_false | skip
  · exact sh_findK (fun v => hout v true) (hz _) _
  · cases key <;> first | exact sh_false | exact sh_assert (sh_cond (hout _ _) (hz _))

theorem sh_mapPutK (t : TypeId) (m key v : AV) : Sh fun K => mapPutK C t m key v h K := by
  unfold mapPutK
  refine sh_bind (sh_underK C _) fun d => ?_
  cases d <;> first | exact sh_false | skip
  try dsimp only
  refine sh_plainKey ?_
  cases m <;> first | exact sh_false | skip
  refine sh_bind (sh_hgetK _ _) fun blk => ?_
  cases blk <;> first | exact sh_false | skip
  · exact sh_bind (sh_mapSetK _ _ _) fun es' => sh_hsetK _ _ _
  · cases key <;> first | exact sh_false | skip
    cases v <;> first | exact sh_false | exact sh_assert (sh_hsetK _ _ _)

theorem sh_opK (hE : ShE E) (o : Oper) {ρ : Rho} (hρ : ∀ x, Sh (ρ x)) : Sh2 fun K => opK C E o ρ h K noKP := by
  refine sh_of2 ?_
  show Sh fun K : AV × Heap → Prop => opK C E o ρ h (fun a b => K (a, b)) noKP
  unfold opK
  cases o.op <;> dsimp only <;> try exact sh_false
  case move x => exact sh_onH (hρ x) h
  case assign x => exact sh_onH (hρ x) h
  case pick c a b =>
    refine sh_bind (hρ c) fun v => ?_
    cases v <;> first | exact sh_false | exact sh_cond (sh_onH (hρ a) h) (sh_onH (hρ b) h)
  case alloc t => exact sh_bind (sh_zeroK _ _) fun z => sh_bind (sh_cellsK _) fun cs => sh_bind (sh_mkVarK _ _) fun blk => sh_bind2 (sh_hpushK _ _) fun b h' => sh_rowOrCells _ _ _
  case box t x => exact sh_bind (hρ x) fun x => sh_bind (sh_cellsK _) fun cs => sh_bind (sh_infoK _ _) fun inf => sh_assert (sh_bind (sh_mkVarK _ _) fun blk => sh_bind2 (sh_hpushK _ _) fun b h' => sh_rowOrCells _ _ _)
  case build t ps => exact sh_bind (sh_parts hρ _) fun ps => sh_onH (sh_buildK _ _) h
  case buildSlice t n ps => exact sh_bind (sh_parts hρ _) fun ps => sh_buildSliceK _ _ _
  case load t a => exact sh_bind (hρ a) fun p => sh_onH (sh_loadK _ _) h
  case store t a x => exact sh_bind (hρ a) fun p => sh_bind (hρ x) fun x => sh_bind (sh_storeK _ _ _) fun h' => sh_pure (undefA, h')
  case nilCheck x =>
    refine sh_bind (hρ x) fun v => ?_
    cases v <;> first | exact sh_false | exact sh_pure (_, h) | skip
    rename_i fn _ _
    cases fn <;> first | exact sh_false | exact sh_pure (_, h)
  case binOp op t x y _ => exact sh_bind (hρ x) fun x => sh_bind (hρ y) fun y => sh_onH (sh_binA _ _ _ _ _) h
  case unOp op t x => exact sh_bind (hρ x) fun x => sh_onH (sh_unA _ _) h
  case convert s d x => exact sh_bind (hρ x) fun x => sh_convertK _ _ _
  case makeInterface t x =>
    refine sh_bind (hρ x) fun x => sh_bind (sh_underK C _) fun d => ?_
    cases d <;> first | exact sh_false | exact sh_pure (_, h)
  case makeFunc fn a b =>
    have hm : Sh fun K : AV × Heap → Prop => mapK ρ a.toList fun a => mapK ρ b.toList fun b => K (AV.func fn a b, h) := sh_bind (sh_mapK hρ _) fun a => sh_bind (sh_mapK hρ _) fun b => sh_pure (AV.func fn a b, h)
    cases fn <;> first | exact hm | exact sh_false
  case makeMap t r =>
    cases r with
    | none => exact sh_bind2 (sh_hpushK _ _) fun b h' => sh_pure (AV.mapr b, h')
    | some r =>
      refine sh_bind (hρ r) fun v => ?_
      cases v <;> first | exact sh_false | skip
      refine sh_bind (sh_underK C _) fun d => ?_
      cases d <;> first | exact sh_false | exact sh_bind2 (sh_hpushK _ _) fun b h' => sh_pure (AV.mapr b, h')
  case lookup t m k ok => exact sh_bind (hρ m) fun m => sh_bind (hρ k) fun k => sh_onH (sh_lookupK _ _ _ _) h
  case insert t m k x => exact sh_bind (hρ m) fun m => sh_bind (hρ k) fun k => sh_bind (hρ x) fun x => sh_bind (sh_mapPutK _ _ _ _) fun h' => sh_pure (undefA, h')
  case mapUpdate t m k x => exact sh_bind (hρ m) fun m => sh_bind (hρ k) fun k => sh_bind (hρ x) fun x => sh_bind (sh_mapPutK _ _ _ _) fun h' => sh_pure (undefA, h')
  case makeSlice t l c => exact sh_bind (hρ l) fun l => sh_bind (hρ c) fun c => sh_makeSliceK _ _ _
  case slice t x lo hi mx =>
    cases mx with
    | none => exact sh_bind (hρ x) fun x => sh_bind (sh_oK hρ _) fun lo => sh_bind (sh_oK hρ _) fun hi => sh_to2 (sh_sliceK _ _ _ _)
    | some mx =>
      cases hi with
      | none => exact sh_false
      | some hi => exact sh_bind (hρ x) fun x => sh_bind (sh_oK hρ _) fun lo => sh_bind (hρ _) fun hi => sh_bind (hρ _) fun mx => sh_onH (sh_slice3K _ _ _ _ _) h
  case fieldAddr t x f => exact sh_bind (hρ x) fun x => sh_onH (sh_fieldAddrK _ _ _) h
  case field t x f => exact sh_bind (hρ x) fun x => sh_onH (sh_fieldK _ _ _) h
  case indexAddr t x i => exact sh_bind (hρ x) fun x => sh_bind (hρ i) fun i => sh_onH (sh_indexAddrK _ _ _) h
  case index t x i => exact sh_bind (hρ x) fun x => sh_bind (hρ i) fun i => sh_onH (sh_indexK _ _ _) h
  case typeAssert x _ at_ ok =>
    refine sh_bind (hρ x) fun xv => ?_
    cases xv <;> first | exact sh_false | skip
    · try dsimp only
      refine sh_bind (sh_underK C _) fun d => ?_
      have hm : ∀ (t' : TypeId) (y : AV), Sh fun K : AV × Heap → Prop => @cond Prop (Nat.beq t' at_) (@cond Prop ok (K (.tup [y, .bool true], h)) (K (y, h))) (@cond Prop ok (zeroK C at_ fun z => K (.tup [z, .bool false], h)) False) := fun t' y =>
        sh_cond (sh_cond (sh_pure (AV.tup [y, .bool true], h)) (sh_pure (y, h))) (sh_cond (sh_bind (sh_zeroK _ _) fun z => sh_pure (AV.tup [z, .bool false], h)) sh_false)
      cases d <;> first | exact sh_false | exact hm _ _
    · exact sh_bind (sh_underK C _) fun _ => sh_cond (sh_bind (sh_zeroK _ _) fun z => sh_pure (AV.tup [z, .bool false], h)) sh_false
  case extract t i =>
    refine sh_bind (hρ t) fun v => ?_
    cases v <;> first | exact sh_false | exact sh_onH (sh_nthK _ _) h
  case call c =>
    cases c.callee with
    | builtin b => exact sh_bind (sh_mapK hρ _) fun vs => sh_builtinK _ _ _
    | value f => exact sh_bind (hρ f) fun f => sh_bind (sh_mapK hρ _) fun vs => sh_applyK hE _ _
    | invoke r m => exact sh_false
  case panic x =>
    refine sh_bind (hρ x) fun v => ?_
    cases v <;> exact sh_false
end
end Go.Am
