/- Each step of the abstract machine hands on one result alone. -/
import Derived.Test.YtneeggnlgonilaaGreatDoorAmOp
namespace Go.Am

def Sh {α : Type} (m : (α → Prop) → Prop) : Prop := ∀ K, m K → ∃ a, K a ∧ ∀ K' : α → Prop, K' a → m K'
def Sh2 {α β : Type} (m : (α → β → Prop) → Prop) : Prop := ∀ K, m K → ∃ a b, K a b ∧ ∀ K' : α → β → Prop, K' a b → m K'
abbrev Uncur {α β : Type} (m : (α → β → Prop) → Prop) : ((α × β) → Prop) → Prop := fun K => m fun a b => K (a, b)

section tools
variable {α β γ : Type}
theorem sh_pure (a : α) : Sh (fun K => K a) := fun _ h => ⟨a, h, fun _ h => h⟩
theorem sh_pure2 (a : α) (b : β) : Sh2 (fun K => K a b) := fun _ h => ⟨a, b, h, fun _ h => h⟩
theorem sh_false : Sh (fun _ : α → Prop => False) := fun _ h => h.elim
theorem sh_false2 : Sh2 (fun _ : α → β → Prop => False) := fun _ h => h.elim
theorem sh_bind {m : (β → Prop) → Prop} {f : β → (α → Prop) → Prop} (hm : Sh m) (hf : ∀ b, Sh (f b)) : Sh (fun K => m fun b => f b K) := fun K h => by
  obtain ⟨b, hb, h1⟩ := hm _ h
  obtain ⟨a, ha, h2⟩ := hf b _ hb
  exact ⟨a, ha, fun K' hk => h1 _ (h2 _ hk)⟩
theorem sh_bind2 {m : (β → γ → Prop) → Prop} {f : β → γ → (α → Prop) → Prop} (hm : Sh2 m) (hf : ∀ b c, Sh (f b c)) : Sh (fun K => m fun b c => f b c K) := fun K h => by
  obtain ⟨b, c, hb, h1⟩ := hm _ h
  obtain ⟨a, ha, h2⟩ := hf b c _ hb
  exact ⟨a, ha, fun K' hk => h1 _ (h2 _ hk)⟩
theorem sh_of2 {m : (α → β → Prop) → Prop} (h : Sh (Uncur m)) : Sh2 m := fun K hk => by
  obtain ⟨⟨a, b⟩, h1, h2⟩ := h (fun p => K p.1 p.2) hk
  exact ⟨a, b, h1, fun K' hk' => h2 (fun p => K' p.1 p.2) hk'⟩
theorem sh_to2 {m : (α → β → Prop) → Prop} (h : Sh2 m) : Sh (Uncur m) := fun K hk => by
  obtain ⟨a, b, h1, h2⟩ := h _ hk
  exact ⟨(a, b), h1, fun K' hk' => h2 _ hk'⟩
theorem sh_assert {b : Bool} {f : (α → Prop) → Prop} (hf : Sh f) : Sh (fun K => assertB b (f K)) := by
  cases b
  · exact sh_false
  · exact hf
theorem sh_cond {b : Bool} {f g : (α → Prop) → Prop} (hf : Sh f) (hg : Sh g) : Sh (fun K => @cond Prop b (f K) (g K)) := by
  cases b
  · exact hg
  · exact hf

theorem sh_nthK : ∀ (l : List α) (n : Nat), Sh (nthK l n)
  | [], _ => sh_false
  | x :: _, 0 => sh_pure x
  | _ :: xs, n + 1 => sh_nthK xs n
theorem sh_idxK (n : Nat) : ∀ (i : Nat) (l : List α), Sh2 (idxK n i l)
  | _, [] => sh_false2
  | i, x :: xs => by
    show Sh2 fun k => @cond Prop (Nat.beq n i) (k i x) (idxK n (i + 1) xs k)
    cases Nat.beq n i
    · exact sh_idxK n (i + 1) xs
    · exact sh_pure2 _ _
theorem sh_getK : ∀ (l : List (Nat × α)) (b : Nat), Sh (getK l b)
  | [], _ => sh_false
  | (i, v) :: r, j => sh_cond (sh_pure v) (sh_getK r j)
theorem sh_updK : ∀ (l : List (Nat × α)) (b : Nat) (v : α), Sh (updK l b v)
  | [], _, _ => sh_false
  | (i, x) :: r, j, v => sh_cond (sh_pure ((i, v) :: r)) (sh_bind (sh_updK r j v) fun r' => sh_pure ((i, x) :: r'))
theorem sh_appK : ∀ (l r : List α), Sh (appK l r)
  | [], r => sh_pure r
  | x :: xs, r => show Sh (fun k => appK xs r fun r' => k (x :: r')) from sh_bind (sh_appK xs r) fun r' => sh_pure (x :: r')
theorem sh_takeK : ∀ (l : List α) (j n : Nat), Sh (takeK l j n) := fun l j n K h => by
  rw [takeK_iff] at h
  exact ⟨_, h.2, fun K' hk => takeK_iff.2 ⟨h.1, hk⟩⟩
theorem sh_putK : ∀ (l : List α) (j : Nat) (vs : List α), Sh (putK l j vs) := fun l j n K h => by
  rw [putK_iff] at h
  exact ⟨_, h.2, fun K' hk => putK_iff.2 ⟨h.1, hk⟩⟩
theorem sh_optK : ∀ (o : Option α), Sh (optK o)
  | some x => sh_pure x
  | none => sh_false
theorem sh_mapK {f : α → (β → Prop) → Prop} (hf : ∀ x, Sh (f x)) : ∀ l : List α, Sh (mapK f l)
  | [] => sh_pure []
  | x :: xs => show Sh (fun k => f x fun y => mapK f xs fun r => k (y :: r)) from sh_bind (hf x) fun y => sh_bind (sh_mapK hf xs) fun r => sh_pure (y :: r)
theorem sh_lenN : ∀ (l : List α) (n : Nat), Sh (lenN l n)
  | [], n => sh_pure n
  | _ :: r, n => sh_lenN r (n + 1)
end tools

theorem sh_cellsK (v : AV) : Sh (cellsK v) := by cases v <;> exact sh_pure _
theorem sh_infoK (C : Ctx) (t : TypeId) : Sh (infoK C t) := sh_optK _
theorem sh_underK (C : Ctx) (t : TypeId) : Sh (underK C t) := sh_optK _
theorem sh_zeroK (C : Ctx) (t : TypeId) : Sh (zeroK C t) := show Sh (fun k => infoK C t fun i => optK i.zero fun z => optK (ofVal z) k) from sh_bind (sh_infoK C t) fun _ => sh_bind (sh_optK _) fun _ => sh_optK _
theorem sh_hgetK (h : Heap) (b : Nat) : Sh (h.getK b) := sh_getK _ _
theorem sh_hsetK (h : Heap) (b : Nat) (x : Blk) : Sh (h.setK b x) := by
  show Sh fun k : Heap → Prop => updK h.bl b x fun bl' => k ⟨h.nx, bl'⟩
  exact sh_bind (sh_updK _ _ _) fun r => sh_pure (⟨h.nx, r⟩ : Heap)
theorem sh_hpushK (h : Heap) (x : Blk) : Sh2 (h.pushK x) := sh_pure2 _ _

section
variable {C : Ctx} {h : Heap}

theorem sh_atK (c : Col) (i : Nat) : Sh (c.atK i) := by cases c <;> exact sh_pure _
theorem sh_setAt (c : Col) (i : Nat) (v : AV) : Sh (c.setAt i v) := by
  cases c <;> cases v <;> first | exact sh_false | exact sh_assert (sh_pure _) | exact sh_pure _
theorem sh_colsPut : ∀ (cols : List Col) (i j : Nat) (vs : List AV), Sh (fun K => colsPut cols i j vs K)
  | cs, i, 0, [] => by cases cs <;> exact sh_pure _
  | [], i, j + 1, [] => sh_false
  | c :: cs, i, j + 1, [] => by simp only [colsPut]; exact sh_bind (sh_colsPut cs i j []) fun r => sh_pure (c :: r)
  | [], i, j, v :: vs => by cases j <;> exact sh_false
  | c :: cs, i, 0, v :: vs => by simp only [colsPut]; exact sh_bind (sh_setAt c i v) fun c' => sh_bind (sh_colsPut cs i 0 vs) fun r => sh_pure (c' :: r)
  | c :: cs, i, j + 1, v :: vs => by simp only [colsPut]; exact sh_bind (sh_colsPut cs i j (v :: vs)) fun r => sh_pure (c :: r)

theorem sh_loadK (t : TypeId) (p : AV) : Sh (fun K => loadK C t p h K) := by
  cases p <;> first | exact sh_false | skip
  simp only [loadK]
  refine sh_bind (sh_infoK _ _) fun _ => sh_bind (sh_underK _ _) fun _ => sh_bind (sh_hgetK _ _) fun blk => ?_
  cases blk <;> dsimp only
  all_goals first | exact sh_false | skip
  · exact sh_cond (sh_bind (sh_takeK _ _ _) fun r => sh_pure (AV.agg r)) (sh_nthK _ _)
  · exact sh_assert (sh_cond (sh_bind (sh_takeK _ _ _) fun r => sh_bind (sh_mapK (fun c => sh_atK c _) r) fun r => sh_pure (AV.agg r)) (sh_bind (sh_nthK _ _) fun c => sh_atK c _))

theorem sh_storeK (t : TypeId) (p v : AV) : Sh (fun K => storeK C t p v h K) := by
  cases p <;> first | exact sh_false | skip
  simp only [storeK]
  refine sh_bind (sh_infoK _ _) fun _ => sh_bind (sh_cellsK _) fun vs => sh_assert (sh_bind (sh_hgetK _ _) fun blk => ?_)
  cases blk with
  | cells wr z cap cs =>
    cases wr with
    | false => exact sh_false
    | true => exact sh_bind (sh_putK _ _ _) fun _ => sh_hsetK _ _ _
  | row wr cap n cols =>
    cases wr with
    | false => exact sh_false
    | true => exact sh_assert (sh_bind (sh_colsPut _ _ _ _) fun _ => sh_hsetK _ _ _)
  | _ => exact sh_false

theorem sh_mkVarK (t : TypeId) (cs : List AV) : Sh (fun K => mkVarK C t cs K) := by
  simp only [mkVarK]
  refine sh_bind (sh_underK _ _) fun d => ?_
  cases d
  case array n e =>
    refine sh_bind (sh_infoK _ _) fun ie => sh_cond ?_ (sh_assert (sh_pure _))
    cases cs with
    | nil => exact sh_false
    | cons c cs => cases c <;> first | exact sh_false | exact sh_assert (sh_pure _)
  all_goals exact sh_bind (sh_lenN _ _) fun n => sh_pure _

theorem sh_partA (t : TypeId) (cs : List AV) (off : Nat) : Sh (fun K => partA C t cs off K) := by
  simp only [partA]
  exact sh_bind (sh_infoK _ _) fun _ => sh_bind (sh_underK _ _) fun _ => sh_cond (sh_bind (sh_takeK _ _ _) fun r => sh_pure (AV.agg r)) (sh_nthK _ _)

theorem sh_fieldsEq {eq : EqT} (heq : ∀ t x y, Sh (eq t x y)) : ∀ (fs : List Field) (xs ys : List AV), Sh (fun K => fieldsEq C eq fs xs ys K)
  | [], _, _ => sh_pure true
  | f :: fs, xs, ys => by
    simp only [fieldsEq]
    refine sh_assert (sh_bind (sh_partA _ _ _) fun x => sh_bind (sh_partA _ _ _) fun y => sh_bind (heq _ _ _) fun b => ?_)
    cases fs with
    | nil => exact sh_pure b
    | cons g gs => exact sh_bind (sh_fieldsEq heq (g :: gs) xs ys) fun r => sh_pure (b && r)

theorem sh_eqA : ∀ (d : Nat) (t : TypeId) (x y : AV), Sh (fun K => eqA C d t x y K)
  | 0, _, _, _ => sh_false
  | d + 1, t, x, y => by
    have ih := fun t x y => sh_eqA d t x y
    cases x <;> cases y <;> first
      | exact sh_false
      | (simp only [eqA]
         refine sh_bind (sh_underK C t) fun dd => ?_
         cases dd <;> first
          | exact sh_false
          | exact sh_pure _
          | exact sh_assert (sh_pure _)
          | exact sh_assert (sh_fieldsEq ih _ _ _)
          | exact sh_cond (sh_bind (sh_infoK _ _) fun i => sh_assert (ih _ _ _)) (sh_pure _))

theorem sh_binA (op : BinOp) (cst : Bool) (t : TypeId) (x y : AV) : Sh (fun K => binA C op cst t x y K) := by
  have he := sh_eqA (C := C) 40
  cases op <;> cases x <;> cases y <;> first
    | exact sh_false
    | exact sh_assert (sh_pure _)
    | exact sh_assert (sh_assert (sh_pure _))
    | exact sh_pure _
    | exact sh_assert sh_false
    | exact sh_assert (sh_bind (he _ _ _) fun b => sh_pure (AV.bool b))
    | exact sh_assert (sh_bind (he _ _ _) fun b => sh_pure (AV.bool (!b)))

theorem sh_unA (op : UnOp) (x : AV) : Sh (fun K => unA op x K) := by
  cases op <;> cases x <;> first | exact sh_false | exact sh_pure _

theorem sh_fillK (place : Nat → Option (Nat × Nat)) : ∀ (ps : List (Nat × AV)) (cs : List AV), Sh (fun K => fillK place ps cs K)
  | [], cs => sh_pure cs
  | (i, v) :: r, cs => by
    simp only [fillK]
    exact sh_bind (sh_optK _) fun p => sh_bind (sh_cellsK _) fun vs => sh_assert (sh_bind (sh_putK _ _ _) fun cs' => sh_fillK place r cs')

theorem sh_replicateA {α : Type} (cs : List α) : ∀ n, Sh (fun K => replicateA cs n K)
  | 0 => sh_pure []
  | n + 1 => by simp only [replicateA]; exact sh_bind (sh_replicateA cs n) fun r => sh_appK _ _

theorem sh_colsOfZero : ∀ l : List AV, Sh (fun K => colsOfZero l K)
  | [] => sh_pure []
  | x :: r => by
    cases x <;> first | exact sh_false | (simp only [colsOfZero]; exact sh_bind (sh_colsOfZero r) fun cs => sh_pure _)

theorem sh_bnd (n : Nat) (lo hi : Option AV) : Sh2 (sliceK.bnd n lo hi) := by
  cases lo with
  | none =>
    cases hi with
    | none => exact sh_pure2 _ _
    | some b => cases b <;> first | exact sh_false2 | exact sh_of2 (sh_assert (sh_pure _))
  | some a =>
    cases hi with
    | none => cases a <;> first | exact sh_false2 | exact sh_of2 (sh_assert (sh_pure _))
    | some b => cases a <;> cases b <;> first | exact sh_false2 | exact sh_of2 (sh_assert (sh_assert (sh_pure _)))

theorem sh_sliceK (t : TypeId) (x : AV) (lo hi : Option AV) : Sh2 (fun K => sliceK C t x lo hi h K) := by
  refine sh_of2 ?_
  show Sh fun K : AV × Heap → Prop => sliceK C t x lo hi h fun a b => K (a, b)
  unfold sliceK
  refine sh_bind (sh_underK C t) fun d => ?_
  cases d
  case string =>
    cases x <;> first | exact sh_false | exact sh_bind2 (sh_bnd _ _ _) fun l u => sh_pure (AV.str _, h)
  case slice e =>
    cases x <;> first
      | exact sh_false
      | exact sh_bind2 (sh_bnd _ _ _) fun l u => sh_bind (sh_infoK _ _) fun _ => sh_pure (_, h)
      | exact sh_bind (sh_infoK _ _) fun _ => sh_assert (sh_bind2 (sh_bnd _ _ _) fun l u => sh_pure (AV.slc _ _ _ _, h))
  case array n e =>
    cases x <;> first | exact sh_false | skip
    rename_i b i z j
    cases i <;> first | exact sh_false | skip
    cases j <;> first | exact sh_false | skip
    dsimp only
    refine sh_bind (sh_infoK _ _) fun ie => sh_bind (sh_hgetK _ _) fun blk => ?_
    cases blk <;> first | exact sh_false | skip
    · rename_i cap _
      cases cap <;> first | exact sh_false | exact sh_assert (sh_bind2 (sh_bnd _ _ _) fun l u => sh_pure (AV.slc _ _ _ _, h))
    · rename_i cap _ _
      cases cap <;> first | exact sh_false | exact sh_assert (sh_bind2 (sh_bnd _ _ _) fun l u => sh_pure (AV.slc _ _ _ _, h))
  all_goals exact sh_false

theorem sh_indexAddrK (t : TypeId) (x ix : AV) : Sh (fun K => indexAddrK C t x ix h K) := by
  cases x
  case ptr b i z j =>
    cases i
    case zero =>
      cases ix <;> first | exact sh_false | skip
      simp only [indexAddrK]
      refine sh_bind (sh_underK _ _) fun d => ?_
      cases d <;> first | exact sh_false | skip
      refine sh_bind (sh_infoK _ _) fun ie => sh_assert (sh_bind (sh_hgetK _ _) fun blk => ?_)
      cases blk <;> first
        | exact sh_false
        | exact sh_bind2 (sh_idxK _ _ _) fun m _ => sh_pure (AV.ptr _ _ _ _)
        | exact sh_assert (sh_pure _)
    case succ i => cases ix <;> exact sh_false
  case slc b z o n =>
    cases ix <;> first | exact sh_false | skip
    simp only [indexAddrK]
    refine sh_bind (sh_underK _ _) fun d => ?_
    cases d <;> first | exact sh_false | skip
    refine sh_bind (sh_infoK _ _) fun ie => sh_assert (sh_bind (sh_hgetK _ _) fun blk => ?_)
    cases blk <;> first
      | exact sh_false
      | exact sh_bind2 (sh_idxK _ _ _) fun m _ => sh_pure (AV.ptr _ _ _ _)
      | exact sh_pure _
  all_goals exact sh_false

theorem sh_chunkK (e : TypeId) (z : Nat) (cs : List AV) : ∀ n i, Sh (fun K => chunkK C e z cs n i K)
  | 0, _ => sh_pure []
  | n + 1, i => by
    simp only [chunkK]
    exact sh_bind (sh_partA _ _ _) fun x => sh_bind (sh_chunkK e z cs n (i + 1)) fun r => sh_pure (x :: r)

theorem sh_indexK (t : TypeId) (x ix : AV) : Sh (fun K => indexK C t x ix K) := by
  cases x <;> cases ix <;> first | exact sh_false | skip
  all_goals
    simp only [indexK]
    refine sh_bind (sh_underK _ _) fun d => ?_
    cases d <;> first | exact sh_false | exact sh_assert (sh_pure _) | skip
  exact sh_bind (sh_infoK _ _) fun ie => sh_assert (sh_bind (sh_chunkK _ _ _ _ _) fun xs => sh_bind2 (sh_idxK _ _ _) fun _ x => sh_pure x)

end
end Go.Am
