/- A region that draws its order: whatever order comes up. -/
import Derived.Test.YtneeggnlgonilaaGreatDoorAmDrawC
namespace Go.Am
variable {C : Ctx} {E : Env} {w0 : World} {O : Nat → Prop}

def listedS (listed : Array Bool) : Nat → Bool := fun k => listed.getD k false

/-- Of the loud ones, all that are earlier in the text. -/
def Prefix (C : Ctx) (ops : Array Oper) (V : Nat → Bool) : Prop := ∀ i k, loudB C ops i = true → loudB C ops k = true → i < k → V k = true → V i = true

/-- A fresh operation that came up early: its block stands, but is not known yet. -/
structure PendAt (C : Ctx) (ops : Array Oper) (F : Nat → Fact) (H : Nat → Heap) (ws : Nat) (a : Act) (w : World) (x B : Nat) : Prop where
  ge : ws ≤ B
  ex : ∃ o d blk cap len obj, ops[x]? = some o ∧ opKind C o = 2 ∧ o.dst = some d ∧ FreshDoes C o (H (F x).ph) (H ((F x).ph + 1)) (F x).v blk cap len obj ∧
    w.heap[B]? = some obj ∧ a.tmps[d]? = some (.pointer (some ⟨B, 0, none⟩))

/-- 'L': what has come up; 'V': what of it the abstract heap knows. -/
structure DCore (C : Ctx) (w0 : World) (O : Nat → Prop) (ops : Array Oper) (F : Nat → Fact) (H : Nat → Heap) (tm : List (Nat × AV)) (ι0 : Inj) (n0 ws : Nat) (L : Nat → Bool) (pb : Nat → Nat) (a : Act) (w : World) (ι : Inj) (V : Nat → Bool) : Prop where
  down : Down ops V
  pre : Prefix C ops V
  sub : ∀ k, V k = true → L k = true
  ext : Ext ι0 ι n0
  le : n0 ≤ (H (cnt C ops V)).nx
  wsz : ws ≤ w.heap.size
  hr : HR w0 O ι (H (cnt C ops V)) w
  val : ∀ d v, (∀ x, L x = true → V x = false → dstOf ops x ≠ some d) → vals ops F tm V ops.size d = some v → ∃ cv, a.tmps[d]? = some cv ∧ VR ι (H (cnt C ops V)).nx v cv
  pend : ∀ x, L x = true → V x = false → PendAt C ops F H ws a w x (pb x)
  sep : ∀ x y, L x = true → V x = false → L y = true → V y = false → x ≠ y → pb x ≠ pb y
  own : ∀ x, L x = true → V x = false → ∀ b y, lookupB (H (cnt C ops V)).bl b = some y → y.live = true → (ι b).blk ≠ pb x

/-- None of the early ones could be taken in. -/
def Maxi (C : Ctx) (ops : Array Oper) (L V : Nat → Bool) : Prop := ∀ x, L x = true → V x = false → ∃ i, i < x ∧ loudB C ops i = true ∧ V i = false

structure DInv (C : Ctx) (w0 : World) (O : Nat → Prop) (ops : Array Oper) (F : Nat → Fact) (H : Nat → Heap) (tm : List (Nat × AV)) (nt : Nat) (ι0 : Inj) (n0 ws : Nat) (df : List Deferred) (listed : Array Bool) (a : Act) (w : World) : Prop where
  size : listed.size = ops.size
  down : Down ops (listedS listed)
  mem : ∃ ι V pb, DCore C w0 O ops F H tm ι0 n0 ws (listedS listed) pb a w ι V ∧ Maxi C ops (listedS listed) V
  tmps : a.tmps.size = nt
  defers : a.defers = df

theorem listedS_set {listed : Array Bool} {i : Nat} (hi : i < listed.size) : listedS (listed.setIfInBounds i true) = also (listedS listed) i := by
  funext k
  simp only [listedS, also, Array.getD_eq_getD_getElem?, Array.getElem?_setIfInBounds]
  by_cases h : i = k
  · subst h; simp [hi]
  · have : (k == i) = false := by simpa using fun e => h e.symm
    simp [h, this]

theorem unlisted_set {n : Nat} {S : Nat → Bool} {i : Nat} (hi : S i = false) (hlt : i < n) : ((List.range n).filter fun k => !S k).length = ((List.range n).filter fun k => !also S i k).length + 1 := by
  have : ∀ m, ((List.range m).filter fun k => !S k).length = ((List.range m).filter fun k => !also S i k).length + (if i < m then 1 else 0) := by
    intro m
    induction m with
    | zero => simp
    | succ m ih =>
      rw [List.range_succ, List.filter_append, List.filter_append, List.length_append, List.length_append, ih]
      by_cases hm : m = i
      · subst hm
        simp [also, hi]
      · have hb : (m == i) = false := by simpa using hm
        have e : ([m].filter fun k => !also S i k).length = ([m].filter fun k => !S k).length := by simp only [List.filter_cons, List.filter_nil, also, hb, Bool.or_false]
        rw [e]
        by_cases h1 : i < m
        · rw [if_pos h1, if_pos (by omega)]; omega
        · rw [if_neg h1, if_neg (by omega)]; omega
  rw [this n, if_pos hlt]

theorem ready_mem {ops : Array Oper} {listed : Array Bool} {i : Nat} (h : i ∈ Region.ready .any ops listed) (hs : listed.size = ops.size) :
    ∃ o, ops[i]? = some o ∧ i < ops.size ∧ listedS listed i = false ∧ ∀ e ∈ o.after.toList, Region.binds .any e = true → listedS listed e.on = true := by
  unfold Region.ready at h
  simp only [List.mem_filter, List.mem_range, Bool.and_eq_true, Bool.not_eq_true'] at h
  obtain ⟨hlt, h1, h2⟩ := h
  have ho : ops[i]? = some ops[i] := Array.getElem?_eq_getElem hlt
  refine ⟨ops[i], ho, hlt, ?_, fun e he hb => ?_⟩
  · simp only [listedS, Array.getD_eq_getD_getElem?, Array.getElem?_eq_getElem (show i < listed.size from by omega)] at h1 ⊢
    simpa using h1
  · simp only [ho, Option.map_some, Option.getD_some] at h2
    rw [← Array.all_toList] at h2
    have := List.all_eq_true.1 h2 e he
    simp only [hb, Bool.not_true, Bool.false_or] at this
    exact this

theorem ready_some {ops : Array Oper} {listed : Array Bool} (R : DrawR C ops) (hs : listed.size = ops.size) (hr : Region.ready .any ops listed = []) : ∀ n k, k < n → k < ops.size → listedS listed k = true
  | 0, k, hk, _ => by omega
  | n + 1, k, hk, hlt => by
    by_cases hS : listedS listed k = true
    · exact hS
    · exfalso
      have ho : ops[k]? = some ops[k] := Array.getElem?_eq_getElem hlt
      have : k ∈ Region.ready .any ops listed := by
        unfold Region.ready
        simp only [List.mem_filter, List.mem_range, Bool.and_eq_true, Bool.not_eq_true']
        refine ⟨hlt, ?_, ?_⟩
        · simp only [listedS, Array.getD_eq_getD_getElem?, Array.getElem?_eq_getElem (show k < listed.size from by omega)] at hS ⊢
          simpa using hS
        · simp only [ho, Option.map_some, Option.getD_some]
          rw [← Array.all_toList, List.all_eq_true]
          intro e he
          cases hb : Region.binds .any e with
          | false => rfl
          | true =>
            have hlt' := R.edge k _ ho e he hb
            have := ready_some R hs hr n e.on (by omega) (by omega)
            simpa [listedS] using this
      rw [hr] at this
      simp at this

section
variable {nt : Nat} {ops : Array Oper} {F : Nat → Fact} {H : Nat → Heap} {rF : List Rd} {tm : List (Nat × AV)} {ι0 : Inj} {n0 ws : Nat} {L : Nat → Bool} {pb : Nat → Nat} {a : Act} {w : World}

theorem loud_lt {k : Nat} (h : loudB C ops k = true) : k < ops.size := by
  rcases Nat.lt_or_ge k ops.size with h' | h'
  · exact h'
  · simp [loudB, Array.getElem?_eq_none h'] at h

/-- One that came up early is taken in: its turn has come. -/
theorem DCore.promote (R : DrawR C ops) (h0 : (F 0).ph = 0) (hst : ∀ k o, ops[k]? = some o → StepOK C E nt ops F H rF k o) (hL : Down ops L) (hw0 : w0.heap.size ≤ ws) {ι : Inj} {V : Nat → Bool} (I : DCore C w0 O ops F H tm ι0 n0 ws L pb a w ι V) {x : Nat} (hx : L x = true) (hv : V x = false)
    (hall : ∀ i, i < x → loudB C ops i = true → V i = true) : ∃ ι', DCore C w0 O ops F H tm ι0 n0 ws L pb a w ι' (also V x) := by
  obtain ⟨hge, o, d, blk, cap, len, obj, ho, h2, hd, fd, hB, ht⟩ := I.pend x hx hv
  have hlx : loudB C ops x = true := (loudB_iff ho).2 h2
  have hlt := loud_lt hlx
  have hc : cnt C ops V = (F x).ph := by
    rw [cnt_eq, cnt_at h0 hst (i := x) (fun k hk => ?_) ops.size (Nat.le_refl _), Nat.min_eq_right (by omega)]
    constructor
    · intro hk1
      rcases Nat.lt_trichotomy k x with h | h | h
      · exact h
      · subst h; rw [hv] at hk1; cases hk1
      · rw [I.pre x k hlx hk h hk1] at hv; cases hv
    · exact fun h => hall k h hk
  have hc' : cnt C ops (also V x) = (F x).ph + 1 := by rw [cnt_also hv hlt, if_pos hlx, hc]
  have hH : H (cnt C ops (also V x)) = ⟨(H (cnt C ops V)).nx + 1, ((H (cnt C ops V)).nx, blk) :: (H (cnt C ops V)).bl⟩ := by rw [hc', hc]; exact fd.hp
  have hext := newI_ext ι (H (cnt C ops V)).nx ⟨pb x, cap, len⟩
  refine ⟨newI ι (H (cnt C ops V)).nx ⟨pb x, cap, len⟩, ?_, ?_, ?_, ?_, ?_, I.wsz, ?_, ?_, ?_, ?_, ?_⟩
  · intro k o' hk ho' e he hb
    simp only [also, Bool.or_eq_true, beq_iff_eq] at hk ⊢
    rcases hk with hk | hk
    · exact .inl (I.down k o' hk ho' e he hb)
    · subst hk; rw [ho] at ho'; cases ho'
      left
      cases hve : V e.on with
      | true => rfl
      | false =>
        obtain ⟨_, o2, _, _, _, _, _, ho2, h22, _⟩ := I.pend e.on (hL _ _ hx ho e he hb) hve
        rw [hall e.on (R.edge _ _ ho e he hb) ((loudB_iff ho2).2 h22)] at hve; cases hve
  · intro i k hi hk hik hvk
    simp only [also, Bool.or_eq_true, beq_iff_eq] at hvk ⊢
    rcases hvk with hvk | hvk
    · exact .inl (I.pre i k hi hk hik hvk)
    · subst hvk; exact .inl (hall i hik hi)
  · intro k hk
    simp only [also, Bool.or_eq_true, beq_iff_eq] at hk
    rcases hk with hk | hk
    · exact I.sub k hk
    · subst hk; exact hx
  · exact I.ext.trans hext I.le
  · rw [hH]; exact Nat.le_succ_of_le I.le
  · rw [hH]
    exact I.hr.adoptNew blk obj hB (Nat.le_trans hw0 hge) (fd.br _ _ _) (I.own x hx hv)
  · intro d' v hno hvl
    have hlast : dstOf ops x = some d' → ∀ k, x < k → dstOf ops k = some d' → V k = false := fun hdx k hxk hdk => by
      obtain ⟨o', ho', hd'⟩ : ∃ o', ops[k]? = some o' ∧ o'.dst = some d' := by
        unfold dstOf at hdk
        cases hko : ops[k]? with
        | none => simp [hko] at hdk
        | some o' => exact ⟨o', rfl, by simpa [hko] using hdk⟩
      have hxd : o.dst = some d' := by simpa [dstOf, ho] using hdx
      have := R.tmp x o k o' d' ho ho' hd' (by omega) (by simp [hxd])
      rw [if_neg (by omega)] at this
      cases hvk : V k with
      | false => rfl
      | true => rw [down_before R I.down _ k (Nat.lt_succ_self _) hvk x this] at hv; cases hv
    rw [vals_also hv hlast] at hvl
    have hdx : dstOf ops x = some d := by simp [dstOf, ho, hd]
    by_cases he : d = d'
    · subst he
      rw [if_pos ⟨hlt, hdx⟩] at hvl
      cases hvl
      refine ⟨_, ht, ?_⟩
      rw [hH, hc]
      exact fd.vr _ _ _ (Nat.lt_succ_self _) (by simp)
    · rw [if_neg (fun h => he (by rw [hdx] at h; exact Option.some.inj h.2))] at hvl
      obtain ⟨cv, h1, h2⟩ := I.val d' v (fun y hy hvy => by
        by_cases hyx : y = x
        · subst hyx; rw [hdx]; exact fun h => he (Option.some.inj h)
        · exact hno y hy (by simp [also, hvy, hyx])) hvl
      exact ⟨cv, h1, by rw [hH]; exact h2.mono hext (Nat.le_succ _)⟩
  · intro y hy hvy
    simp only [also, Bool.or_eq_false_iff] at hvy
    exact I.pend y hy hvy.1
  · intro y z hy hvy hz hvz hne
    simp only [also, Bool.or_eq_false_iff] at hvy hvz
    exact I.sep y z hy hvy.1 hz hvz.1 hne
  · intro y hy hvy b yb hb hl
    simp only [also, Bool.or_eq_false_iff, beq_eq_false_iff_ne] at hvy
    rw [hH] at hb
    simp only [lookupB] at hb
    split at hb
    · rename_i e
      subst e
      rw [newI_same]
      exact I.sep x y hx hv hy hvy.1 (fun h => hvy.2 h.symm)
    · rw [hext b (I.hr.blk b yb hb).1]
      exact I.own y hy hvy.1 b yb hb hl

theorem promote_all (R : DrawR C ops) (h0 : (F 0).ph = 0) (hst : ∀ k o, ops[k]? = some o → StepOK C E nt ops F H rF k o) (hL : Down ops L) (hw0 : w0.heap.size ≤ ws) : ∀ (n : Nat) {ι : Inj} {V : Nat → Bool}, ((List.range ops.size).filter fun k => !V k).length = n → DCore C w0 O ops F H tm ι0 n0 ws L pb a w ι V →
    ∃ ι' V', DCore C w0 O ops F H tm ι0 n0 ws L pb a w ι' V' ∧ Maxi C ops L V' := by
  intro n
  induction n using Nat.strongRecOn with
  | _ n ih =>
    intro ι V hn I
    by_cases hm : Maxi C ops L V
    · exact ⟨ι, V, I, hm⟩
    · simp only [Maxi, Classical.not_forall] at hm
      obtain ⟨x, hx, hv, hno⟩ := hm
      have hall : ∀ i, i < x → loudB C ops i = true → V i = true := fun i hi hl => by
        cases hvi : V i with
        | true => rfl
        | false => exact absurd ⟨i, hi, hl, hvi⟩ hno
      obtain ⟨ι', I'⟩ := I.promote R h0 hst hL hw0 hx hv hall
      obtain ⟨_, o, _, _, _, _, _, ho, h2, _⟩ := I.pend x hx hv
      have := unlisted_set hv (loud_lt ((loudB_iff ho).2 h2))
      exact ih _ (by omega) rfl I'

theorem first_out {V : Nat → Bool} : ∀ (m : Nat), loudB C ops m = true → V m = false → ∃ m', m' ≤ m ∧ loudB C ops m' = true ∧ V m' = false ∧ ∀ i, i < m' → loudB C ops i = true → V i = true := by
  intro m
  induction m using Nat.strongRecOn with
  | _ m ih =>
    intro hl hv
    by_cases h : ∃ i, i < m ∧ loudB C ops i = true ∧ V i = false
    · obtain ⟨i, h1, h2, h3⟩ := h
      obtain ⟨m', g1, g2⟩ := ih i h1 h2 h3
      exact ⟨m', by omega, g2⟩
    · refine ⟨m, Nat.le_refl _, hl, hv, fun i hi hli => ?_⟩
      cases hvi : V i with
      | true => rfl
      | false => exact absurd ⟨i, hi, hli, hvi⟩ h

/-- One that came up early waits for one that has not come up. -/
theorem waits_for (R : DrawR C ops) (hL : Down ops L) {ι : Inj} {V : Nat → Bool} (I : DCore C w0 O ops F H tm ι0 n0 ws L pb a w ι V) (hm : Maxi C ops L V) {j : Nat} (hj : L j = true) (hv : V j = false) :
    ∃ m, m < j ∧ loudB C ops m = true ∧ L m = false ∧ (¬ ((Region.before ops).getD j 0).testBit m = true) ∧ ∀ r, ((Region.before ops).getD r 0).testBit j = true → ((Region.before ops).getD r 0).testBit m = true := by
  obtain ⟨_, o, _, _, _, _, _, ho, h2, _⟩ := I.pend j hj hv
  obtain ⟨m1, hm1, hl1, hv1⟩ := hm j hj hv
  obtain ⟨m, hmm, hlm, hvm, hall⟩ := first_out m1 hl1 hv1
  have hLm : L m = false := by
    cases hLm : L m with
    | false => rfl
    | true =>
      obtain ⟨i, g1, g2, g3⟩ := hm m hLm hvm
      rw [hall i g1 g2] at g3; cases g3
  obtain ⟨om, hom⟩ : ∃ om, ops[m]? = some om := ⟨_, Array.getElem?_eq_getElem (loud_lt hlm)⟩
  have hnb : ¬ ((Region.before ops).getD j 0).testBit m = true := fun h => by
    rw [down_before R hL _ j (Nat.lt_succ_self _) hj m h] at hLm; cases hLm
  refine ⟨m, by omega, hlm, hLm, hnb, ?_⟩
  rcases R.loud m j om o hom ho ((loudB_iff hom).1 hlm) h2 (by omega) with h | ⟨_, h⟩
  · exact absurd h hnb
  · exact h

/-- What an operation waits on is known. -/
theorem known_of (R : DrawR C ops) (hL : Down ops L) {ι : Inj} {V : Nat → Bool} (I : DCore C w0 O ops F H tm ι0 n0 ws L pb a w ι V) (hm : Maxi C ops L V) {i j : Nat} (hi : ∀ j, ((Region.before ops).getD i 0).testBit j = true → L j = true)
    (hj : ((Region.before ops).getD i 0).testBit j = true) : V j = true := by
  cases hv : V j with
  | true => rfl
  | false =>
    obtain ⟨m, _, _, hLm, _, hr⟩ := waits_for R hL I hm (hi j hj) hv
    rw [hi m (hr i hj)] at hLm; cases hLm
end


theorem mem_of_lookup {α : Type} : ∀ {l : List (Nat × α)} {b : Nat} {x : α}, lookupB l b = some x → (b, x) ∈ l
  | [], b, x, h => by simp [lookupB] at h
  | (i, y) :: r, b, x, h => by
    simp only [lookupB] at h
    split at h
    · rename_i e; subst e; cases h; simp
    · exact List.mem_cons_of_mem _ (mem_of_lookup h)
theorem liveAt_iff : ∀ {l : List (Nat × Blk)} {b : Nat}, liveAt l b = true → ∃ y, lookupB l b = some y ∧ y.live = true
  | [], b, h => by simp [liveAt] at h
  | (i, y) :: r, b, h => by
    simp only [liveAt] at h
    simp only [lookupB]
    cases hb : Nat.beq i b with
    | true =>
      rw [hb, cond_true] at h
      rw [if_pos (Nat.eq_of_beq_eq_true hb)]
      exact ⟨y, rfl, h⟩
    | false =>
      rw [hb, cond_false] at h
      rw [if_neg (fun e => by subst e; simp [Nat.beq_refl] at hb)]
      exact liveAt_iff h

/-- Either all loud ones are ordered, or what may not be written was there at first. -/
def LateOK (C : Ctx) (ops : Array Oper) (h : Heap) (hs : List Heap) : Prop :=
  (∀ i j, loudB C ops i = true → loudB C ops j = true → i < j → ((Region.before ops).getD j 0).testBit i = true) ∨
  ∀ g ∈ hs, ∀ b y, lookupB g.bl b = some y → y.live = true → y.wr = true ∨ ∃ y', lookupB h.bl b = some y' ∧ y'.live = true

theorem lateOK_of {ops : Array Oper} {h : Heap} {hs : List Heap} (hk : (!lateB C ops || hsOk h hs) = true) : LateOK C ops h hs := by
  simp only [Bool.or_eq_true, Bool.not_eq_true'] at hk
  rcases hk with hk | hk
  · left
    intro i j hi hj hij
    have hli : i ∈ loudOf C ops := by
      obtain ⟨o, ho⟩ : ∃ o, ops[i]? = some o := ⟨_, Array.getElem?_eq_getElem (loud_lt hi)⟩
      exact mem_loudOf.2 ⟨o, ho, (loudB_iff ho).1 hi⟩
    have hlj : j ∈ loudOf C ops := by
      obtain ⟨o, ho⟩ : ∃ o, ops[j]? = some o := ⟨_, Array.getElem?_eq_getElem (loud_lt hj)⟩
      exact mem_loudOf.2 ⟨o, ho, (loudB_iff ho).1 hj⟩
    unfold lateB at hk
    simp only [List.any_eq_false] at hk
    have := hk i hli
    simp only [List.any_eq_true, not_exists, not_and] at this
    have := this j hlj
    simp only [Bool.and_eq_true, Bool.not_eq_true', not_and, Bool.not_eq_false] at this
    exact this (show Nat.ble (i + 1) j = true from Nat.ble_eq ▸ hij)
  · right
    intro g hg b y hb hl
    unfold hsOk at hk
    have := List.all_eq_true.1 (List.all_eq_true.1 hk g hg) (b, y) (mem_of_lookup hb)
    simp only [hl, Bool.not_true, Bool.or_false, Bool.or_eq_true] at this
    rcases this with h1 | h1
    · exact .inl h1
    · exact .inr (liveAt_iff h1)

theorem draw_sound (hE : EnvOK C E) {nt : Nat} {ops : Array Oper} {F : Nat → Fact} {H : Nat → Heap} {sF : RSt} {tm : List (Nat × AV)} {h : Heap} {r : Option Nat} {Q : Exit → Act → World → Prop} {ι0 : Inj} {df : List Deferred} {ws : Nat}
    (R : DrawR C ops) (T : Traced C E nt ops 0 tm h [] [h] 0 F H sF) (hlate : LateOK C ops h sF.hs) (hw0 : w0.heap.size ≤ ws)
    (hst : ∀ rd ∈ sF.rds, ∀ (k : Nat) hp, sF.hs.reverse[k]? = some hp → ((loudOf C ops).filter fun l => ((Region.before ops).getD rd.j 0).testBit l).length ≤ k → k ≤ ((loudOf C ops).filter fun l => !((Region.before ops).getD l 0).testBit rd.j).length → k ≠ rd.ph → rd.chk C E hp)
    (G : GlobOK C ι0 h.nx) (hA : ∀ b y, lookupB h.bl b = some y → y.live = true → b < h.nx ∧ (ι0 b).blk < ws)
    (hQ : ∀ ι' a' w', Ext ι0 ι' h.nx → h.nx ≤ sF.h.nx → HR w0 O ι' sF.h w' → TR ι' sF.h.nx sF.tm nt a'.tmps → a'.defers = df → Q .normal a' w') :
    ∀ (fuel : Nat) (listed : Array Bool) (a : Act) (w : World), DInv C w0 O ops F H tm nt ι0 h.nx ws df listed a w → ((List.range ops.size).filter fun k => !listedS listed k).length = fuel →
      wpAnyIn (Fw r) 0 C.P .any ops Q fuel listed a w := by
  have stp : ∀ k o, ops[k]? = some o → StepOK C E nt ops F H sF.rds k o := fun k o ho => T.step k o (Nat.zero_le _) ho
  have lt_of : ∀ {d k : Nat}, dstOf ops k = some d → k < ops.size := fun {d k} hd => by
    rcases Nat.lt_or_ge k ops.size with h | h
    · exact h
    · simp [dstOf, Array.getElem?_eq_none h] at hd
  have hsAt : ∀ s, s ≤ sF.ph → sF.hs.reverse[s]? = some (H s) := fun s hs => by
    by_cases h0 : s = 0
    · subst h0; rw [T.hs0 0 (Nat.le_refl _), T.h0]; rfl
    · exact T.hs1 s (by omega) hs
  have cnt_le : ∀ V : Nat → Bool, cnt C ops V ≤ sF.ph := fun V => by
    have hall : cnt C ops (fun _ => true) = sF.ph := by
      rw [cnt_eq, cnt_at T.ph0 stp (i := ops.size) (fun k hk => by simp [loud_lt hk]) ops.size (Nat.le_refl _), Nat.min_self, T.phF]
    rw [← hall]
    exact filter_len_le fun _ _ _ => rfl
  have fin : ∀ (listed : Array Bool) (a : Act) (w : World), DInv C w0 O ops F H tm nt ι0 h.nx ws df listed a w → (∀ k, k < ops.size → listedS listed k = true) → Q .normal a w := by
    intro listed a w I hall
    obtain ⟨ι, V, pb, M, hm⟩ := I.mem
    have hV : ∀ k, k < ops.size → V k = true := fun k hk => by
      cases hv : V k with
      | true => rfl
      | false =>
        obtain ⟨m, hmk, _, hLm, _⟩ := waits_for R I.down M hm (hall k hk) hv
        rw [hall m (by omega)] at hLm; cases hLm
    have hc : cnt C ops V = sF.ph := by
      rw [cnt_eq, cnt_at T.ph0 stp (i := ops.size) (fun k hk => by simp [hV k (loud_lt hk), loud_lt hk]) ops.size (Nat.le_refl _), Nat.min_self, T.phF]
    have hr := M.hr
    have hn := M.le
    have hv := M.val
    rw [hc, T.hF] at hn hr hv
    refine hQ ι a w M.ext hn hr ⟨I.tmps, fun d v hd => ?_⟩ I.defers
    refine hv d v (fun x hx hvx hdx => by rw [hV x (lt_of hdx)] at hvx; cases hvx) ?_
    rw [vals_at T.tm0 stp (i := ops.size) (fun k hk => by simp [hV k (lt_of hk), lt_of hk]) ops.size (Nat.le_refl _), Nat.min_self, ← T.tmF d]
    exact hd
  intro fuel
  induction fuel with
  | zero =>
    intro listed a w I hf
    have hall : ∀ k, k < ops.size → listedS listed k = true := fun k hk => by
      have := List.filter_eq_nil_iff.1 (List.length_eq_zero_iff.1 hf) k (List.mem_range.2 hk)
      simpa using this
    refine ⟨?_, fin listed a w I hall⟩
    cases hr : Region.ready .any ops listed with
    | nil => rfl
    | cons i rs =>
      obtain ⟨o, _, hlt, hS, _⟩ := ready_mem (i := i) (by rw [hr]; simp) I.size
      rw [hall i hlt] at hS; cases hS
  | succ fuel ih =>
    intro listed a w I hf
    refine ⟨fun hr => ?_, fun i hi => ?_⟩
    · exact fin listed a w I fun k hk => ready_some R I.size hr _ k (Nat.lt_succ_self _) hk
    · obtain ⟨o, ho, hlt, hS, hready⟩ := ready_mem hi I.size
      have st := stp i o ho
      obtain ⟨ι, V, pb, M, hm⟩ := I.mem
      have hbL : ∀ j, ((Region.before ops).getD i 0).testBit j = true → listedS listed j = true := fun j hj => ready_before R I.down ho hready hj
      have hb : ∀ j, ((Region.before ops).getD i 0).testBit j = true → V j = true := fun j hj => known_of R I.down M hm hbL hj
      have hbL' : ∀ j, ((Region.before ops).getD j 0).testBit i = true → listedS listed j = false := fun j hj => by
        cases hs : listedS listed j with
        | false => rfl
        | true => rw [down_before R I.down _ j (Nat.lt_succ_self _) hs i hj] at hS; cases hS
      have hb' : ∀ j, ((Region.before ops).getD j 0).testBit i = true → V j = false := fun j hj => by
        cases hv : V j with
        | false => rfl
        | true => have := M.sub j hv; rw [hbL' j hj] at this; cases this
      have hVi : V i = false := by
        cases hv : V i with
        | false => rfl
        | true => have := M.sub i hv; rw [hS] at this; cases this
      have hSet := listedS_set (listed := listed) (i := i) (by rw [I.size]; exact hlt)
      have hfuel : ((List.range ops.size).filter fun k => !listedS (listed.setIfInBounds i true) k).length = fuel := by
        rw [hSet]
        have := unlisted_set hS hlt
        omega
      have hdownL : Down ops (listedS (listed.setIfInBounds i true)) := by
        rw [hSet]
        intro k o' hk ho' e he' hb''
        simp only [also, Bool.or_eq_true, beq_iff_eq] at hk ⊢
        rcases hk with hk | hk
        · exact .inl (I.down k o' hk ho' e he' hb'')
        · subst hk; rw [ho] at ho'; cases ho'
          exact .inl (hready e he' hb'')
      -- a temporary that this one names is not an early one's
      have hnp : ∀ d ∈ guardTmp ops o ++ (o.dst.toList ++ namesOf o), ∀ x, listedS listed x = true → V x = false → dstOf ops x ≠ some d := by
        intro d hd x hx hvx hdx
        obtain ⟨ox, hox, hdx'⟩ : ∃ o', ops[x]? = some o' ∧ o'.dst = some d := by
          unfold dstOf at hdx
          cases ho' : ops[x]? with
          | none => simp [ho'] at hdx
          | some o' => exact ⟨o', rfl, by simpa [ho'] using hdx⟩
        have hxi : x ≠ i := fun e => by subst e; rw [hS] at hx; cases hx
        have := R.tmp i o x ox d ho hox hdx' hxi hd
        split at this
        · rw [hb x this] at hvx; cases hvx
        · rw [hbL' x this] at hx; cases hx
      have hown : ∀ x, listedS listed x = true → V x = false → ¬ Own ι (H (cnt C ops V)) (pb x) := by
        rintro x hx hvx ⟨b, y, hb1, hw1, he1⟩
        exact M.own x hx hvx b y hb1 (by cases y <;> simp_all [Blk.wr, Blk.live]) he1.symm
      have hputd : ∀ d cv, (∀ d', o.dst = some d' → d' ≠ d) → (a.put o.dst cv).tmps[d]? = a.tmps[d]? := by
        intro d cv hne
        cases hdo : o.dst with
        | none => simp [Act.put]
        | some d' =>
          have : d' ≠ d := hne d' hdo
          simp only [Act.put, Array.getElem?_setIfInBounds, if_neg this]
      by_cases hearly : loudB C ops i = true ∧ ∃ l, l < i ∧ loudB C ops l = true ∧ V l = false
      · -- it comes up early
        obtain ⟨hli, l, hlt2, hll, hvl⟩ := hearly
        have h2 := (loudB_iff ho).1 hli
        have hfresh : freshB o = true := by
          obtain ⟨m, hmm, hlm, hvm, hall⟩ := first_out l hll hvl
          have hLm : listedS listed m = false := by
            cases hLm : listedS listed m with
            | false => rfl
            | true =>
              obtain ⟨q, g1, g2, g3⟩ := hm m hLm hvm
              rw [hall q g1 g2] at g3; cases g3
          obtain ⟨om, hom⟩ : ∃ om, ops[m]? = some om := ⟨_, Array.getElem?_eq_getElem (loud_lt hlm)⟩
          rcases R.loud m i om o hom ho ((loudB_iff hom).1 hlm) h2 (by omega) with hx | ⟨hx, _⟩
          · rw [hbL m hx] at hLm; cases hLm
          · exact hx
        have hg : o.guard = none ∧ ∃ d, o.dst = some d := by
          unfold freshB at hfresh
          split at hfresh
          · simp only [Bool.and_eq_true, Option.isNone_iff_eq_none, Option.isSome_iff_exists] at hfresh
            exact hfresh
          · cases hfresh
        obtain ⟨hg, d, hd⟩ := hg
        have hrun : (F i).run = true := by
          have := st.want
          unfold WantA at this
          rw [hg] at this
          exact this
        obtain ⟨tm', hle, hk⟩ := st.loud hrun h2
        obtain ⟨blk, cap, len, obj, fd⟩ := fresh_does hfresh hk
        have hwant : Region.wanted o (yielded ops a.tmps) = true := by simp [Region.wanted, hg]
        have hnd : ∀ c, o.op ≠ .defer c := fun c e => by
          unfold freshB at hfresh; rw [e] at hfresh; cases hfresh
        unfold wpOpIn
        simp only [ho, hwant, if_true]
        refine ⟨fun _ _ => trivial, ?_⟩
        rw [Oper.semAt_eq _ _ _ hnd, fd.run, Oper.uponIn_value]
        have hpush : ∀ k, k < w.heap.size → (w.heap.push obj)[k]? = w.heap[k]? := fun k hk => by
          simp only [Array.getElem?_push]; rw [if_neg (by omega)]
        have hpt : ∀ x, listedS listed x = true → V x = false → x ≠ i := fun x hx _ e => by subst e; rw [hS] at hx; cases hx
        refine ih _ _ _ ⟨by simp [I.size], hdownL, ⟨ι, V, fun k => if k = i then w.heap.size else pb k, ?_, ?_⟩, ?_, by rw [put_defers, I.defers]⟩ hfuel
        · rw [hSet]
          refine ⟨M.down, M.pre, fun k hk => by simp [also, M.sub k hk], M.ext, M.le, by simp; have := M.wsz; omega, ?_, ?_, ?_, ?_, ?_⟩
          · refine ⟨M.hr.os, M.hr.tape, M.hr.output, by simp; have := M.hr.size; omega, fun k hk hO => ?_, fun b x hbx => ⟨(M.hr.blk b x hbx).1, fun hl => ?_, (M.hr.blk b x hbx).2.2⟩, M.hr.inj⟩
            · have := M.hr.size
              show (w.heap.push obj)[k]? = _
              rw [hpush k (by omega)]; exact M.hr.old k hk hO
            · obtain ⟨o', h1, h2'⟩ := (M.hr.blk b x hbx).2.1 hl
              exact ⟨o', by show (w.heap.push obj)[_]? = _; rw [hpush _ (heap_lt h1)]; exact h1, h2'⟩
          · intro d' v hno hvv
            have hne : d ≠ d' := fun e => by
              subst e
              exact hno i (by simp [also]) hVi (by simp [dstOf, ho, hd])
            obtain ⟨cv, h1, h2'⟩ := M.val d' v (fun x hx hvx => hno x (by simp [also, hx]) hvx) hvv
            exact ⟨cv, by rw [hputd d' _ (fun d'' hd'' => by rw [hd] at hd''; cases hd''; exact hne)]; exact h1, h2'⟩
          · intro x hx hvx
            simp only [also, Bool.or_eq_true, beq_iff_eq] at hx
            rcases hx with hx | hx
            · have hxi := hpt x hx hvx
              rw [if_neg hxi]
              obtain ⟨hge, ox, dx, bx, cx, lx, obx, q1, q2, q3, q4, q5, q6⟩ := M.pend x hx hvx
              refine ⟨hge, ox, dx, bx, cx, lx, obx, q1, q2, q3, q4, ?_, ?_⟩
              · show (w.heap.push obj)[_]? = _
                rw [hpush _ (heap_lt q5)]; exact q5
              · rw [hputd dx _ (fun d' hd' e => by
                  subst e
                  exact hnp d' (by simp [hd']) x hx hvx (by simp [dstOf, q1, q3]))]
                exact q6
            · subst hx
              rw [if_pos rfl]
              refine ⟨M.wsz, o, d, blk, cap, len, obj, ho, h2, hd, fd, by simp, ?_⟩
              have hdlt := st.dst d hd
              simp [Act.put, hd, I.tmps, hdlt]
          · intro x y hx hvx hy hvy hne
            simp only [also, Bool.or_eq_true, beq_iff_eq] at hx hy
            have hlt' : ∀ z, listedS listed z = true → V z = false → pb z < w.heap.size := fun z hz hvz => by
              obtain ⟨_, _, _, _, _, _, _, _, _, _, _, q5, _⟩ := M.pend z hz hvz
              exact heap_lt q5
            rcases hx with hx | hx <;> rcases hy with hy | hy
            · rw [if_neg (hpt x hx hvx), if_neg (hpt y hy hvy)]; exact M.sep x y hx hvx hy hvy hne
            · subst hy; rw [if_neg (hpt x hx hvx), if_pos rfl]; have := hlt' x hx hvx; omega
            · subst hx; rw [if_neg (hpt y hy hvy), if_pos rfl]; have := hlt' y hy hvy; omega
            · exact absurd (hx.trans hy.symm) hne
          · intro x hx hvx b y hb1 hl1
            simp only [also, Bool.or_eq_true, beq_iff_eq] at hx
            rcases hx with hx | hx
            · rw [if_neg (hpt x hx hvx)]; exact M.own x hx hvx b y hb1 hl1
            · subst hx
              rw [if_pos rfl]
              obtain ⟨o', h1, _⟩ := M.hr.get hb1 hl1
              have := heap_lt h1
              omega
        · rw [hSet]
          intro x hx hvx
          simp only [also, Bool.or_eq_true, beq_iff_eq] at hx
          rcases hx with hx | hx
          · exact hm x hx hvx
          · subst hx; exact ⟨l, hlt2, hll, hvl⟩
        · simp [Act.put, hd, I.tmps]
      · -- its turn
        have hlall : loudB C ops i = true → ∀ l, l < i → loudB C ops l = true → V l = true := fun hli l hl hll => by
          cases hv : V l with
          | true => rfl
          | false => exact absurd ⟨hli, l, hl, hll, hv⟩ hearly
        have hname : ∀ d ∈ guardTmp ops o ++ (o.dst.toList ++ namesOf o), ∀ k, dstOf ops k = some d → (V k = true ↔ k < i) := by
          intro d hd k hk
          have hk' : ∃ o', ops[k]? = some o' ∧ o'.dst = some d := by
            unfold dstOf at hk
            cases ho' : ops[k]? with
            | none => simp [ho'] at hk
            | some o' => exact ⟨o', rfl, by simpa [ho'] using hk⟩
          obtain ⟨o', ho', hd'⟩ := hk'
          by_cases hki : k = i
          · subst hki; simp [hVi]
          · have := R.tmp i o k o' d ho ho' hd' hki hd
            split at this
            · rename_i hlt'; simp [hb k this, hlt']
            · rename_i hlt'; simp [hb' k this, hlt']
        have hval : ∀ d ∈ guardTmp ops o ++ (o.dst.toList ++ namesOf o), vals ops F tm V ops.size d = lookupB (F i).tm d := by
          intro d hd
          rw [vals_at T.tm0 stp (hname d hd) ops.size (Nat.le_refl _), Nat.min_eq_right (by omega)]
        have hG : GlobOK C ι (H (cnt C ops V)).nx := G.mono M.ext M.le
        have htm : ∀ d ∈ guardTmp ops o ++ (o.dst.toList ++ namesOf o), ∀ v, lookupB (F i).tm d = some v → ∃ cv, a.tmps[d]? = some cv ∧ VR ι (H (cnt C ops V)).nx v cv := fun d hd v hl => M.val d v (hnp d hd) (by rw [hval d hd]; exact hl)
        have hρ : ∀ tm', LEq (F i).tm tm' → ∀ x ∈ o.op.operands, RhoR ι (H (cnt C ops V)).nx (rhoOf C tm') a.eval x := by
          intro tm' hle x hx k hk
          cases x with
          | tmp t =>
            simp only [rhoOf, getK_iff] at hk
            obtain ⟨v, hl, hk⟩ := hk
            obtain ⟨cv, h1, h2⟩ := htm t (by
              simp only [List.mem_append]
              refine .inr (.inr ?_)
              simp only [namesOf, List.mem_filterMap]
              exact ⟨.tmp t, by simpa using hx, rfl⟩) v (by rw [← hle t]; exact hl)
            exact ⟨v, hk, by simpa [Act.eval, Array.getD_eq_getD_getElem?, h1] using h2⟩
          | const c => exact rho_ok (tm := []) (nt := a.tmps.size) ⟨rfl, fun i v h => by simp [lookupB] at h⟩ hG (.const c) k hk
          | global g => exact rho_ok (tm := []) (nt := a.tmps.size) ⟨rfl, fun i v h => by simp [lookupB] at h⟩ hG (.global g) k hk
          | func f => exact rho_ok (tm := []) (nt := a.tmps.size) ⟨rfl, fun i v h => by simp [lookupB] at h⟩ hG (.func f) k hk
        have hwant : Region.wanted o (yielded ops a.tmps) = (F i).run := wanted_ofR st.want fun d hd v hl => htm d (by simp [hd]) v hl
        have hdownV : Down ops (also V i) := by
          intro k o' hk ho' e he' hb''
          simp only [also, Bool.or_eq_true, beq_iff_eq] at hk ⊢
          rcases hk with hk | hk
          · exact .inl (M.down k o' hk ho' e he' hb'')
          · subst hk; rw [ho] at ho'; cases ho'
            exact .inl (hb e.on (R.bit _ _ ho e he' hb''))
        have hcnt := cnt_also (C := C) hVi hlt
        have hlast : ∀ d, dstOf ops i = some d → ∀ k, i < k → dstOf ops k = some d → V k = false := fun d hd k hik hk => by
          have hd' : d ∈ guardTmp ops o ++ (o.dst.toList ++ namesOf o) := by
            have : o.dst = some d := by simpa [dstOf, ho] using hd
            simp [this]
          cases hs : V k with
          | false => rfl
          | true => exact absurd ((hname d hd' k hk).1 hs) (by omega)
        have hvals : ∀ d, vals ops F tm (also V i) ops.size d = if o.dst = some d then some (F i).v else vals ops F tm V ops.size d := by
          intro d
          rw [vals_also hVi (hlast d)]
          have : dstOf ops i = o.dst := by simp [dstOf, ho]
          rw [this]
          simp [hlt]
        have hpre : Prefix C ops (also V i) := by
          intro p k hp hk hpk hvk
          simp only [also, Bool.or_eq_true, beq_iff_eq] at hvk ⊢
          rcases hvk with hvk | hvk
          · exact .inl (M.pre p k hp hk hpk hvk)
          · subst hvk; exact .inl (hlall hk p hpk hp)
        -- the next state
        have next : ∀ (ι' : Inj) (cv : Value) (w' : World), Ext ι ι' (H (cnt C ops V)).nx → (H (cnt C ops V)).nx ≤ (H (cnt C ops (also V i))).nx →
            HR w (Own ι (H (cnt C ops V))) ι' (H (cnt C ops (also V i))) w' → VR ι' (H (cnt C ops (also V i))).nx (F i).v cv →
            wpAnyIn (Fw r) 0 C.P .any ops Q fuel (listed.setIfInBounds i true) (a.put o.dst cv) w' := by
          intro ι' cv w' he' hn' hr' hvr
          have hpt : ∀ x, also (listedS listed) i x = true → also V i x = false → x ≠ i ∧ listedS listed x = true ∧ V x = false := fun x hx hvx => by
            simp only [also, Bool.or_eq_true, beq_iff_eq, Bool.or_eq_false_iff, beq_eq_false_iff_ne] at hx hvx
            exact ⟨hvx.2, hx.resolve_right hvx.2, hvx.1⟩
          have hstand : ∀ x, listedS listed x = true → V x = false → w'.heap[pb x]? = w.heap[pb x]? := fun x hx hvx => by
            obtain ⟨_, _, _, _, _, _, _, _, _, _, _, q5, _⟩ := M.pend x hx hvx
            exact hr'.old _ (heap_lt q5) (hown x hx hvx)
          have I' : DCore C w0 O ops F H tm ι0 h.nx ws (also (listedS listed) i) pb (a.put o.dst cv) w' ι' (also V i) := by
            refine ⟨hdownV, hpre, fun k hk => ?_, M.ext.trans he' M.le, Nat.le_trans M.le hn', Nat.le_trans M.wsz hr'.size, M.hr.back hr', ?_, ?_, ?_, ?_⟩
            · simp only [also, Bool.or_eq_true, beq_iff_eq] at hk ⊢
              exact hk.imp (M.sub k) id
            · intro d v hno hd
              rw [hvals d] at hd
              split at hd
              · rename_i hdst
                cases hd
                refine ⟨cv, ?_, hvr⟩
                have hdlt := st.dst d hdst
                simp [Act.put, hdst, I.tmps, hdlt]
              · rename_i hdst
                obtain ⟨c, h1, h2⟩ := M.val d v (fun x hx hvx => by
                  by_cases hxi : x = i
                  · subst hxi; rw [hS] at hx; cases hx
                  · exact hno x (by simp [also, hx]) (by simp [also, hvx, hxi])) hd
                exact ⟨c, by rw [hputd d _ (fun d' hd' e => hdst (by rw [hd', e]))]; exact h1, h2.mono he' hn'⟩
            · intro x hx hvx
              obtain ⟨hxi, hx, hvx⟩ := hpt x hx hvx
              obtain ⟨hge, ox, dx, bx, cx, lx, obx, q1, q2, q3, q4, q5, q6⟩ := M.pend x hx hvx
              refine ⟨hge, ox, dx, bx, cx, lx, obx, q1, q2, q3, q4, by rw [hstand x hx hvx]; exact q5, ?_⟩
              rw [hputd dx _ (fun d' hd' e => by
                subst e
                exact hnp d' (by simp [hd']) x hx hvx (by simp [dstOf, q1, q3]))]
              exact q6
            · intro x y hx hvx hy hvy hne
              obtain ⟨_, hx, hvx⟩ := hpt x hx hvx
              obtain ⟨_, hy, hvy⟩ := hpt y hy hvy
              exact M.sep x y hx hvx hy hvy hne
            · intro x hx hvx b y hb1 hl1
              obtain ⟨_, hx, hvx⟩ := hpt x hx hvx
              obtain ⟨hge, _, _, _, _, _, _, _, _, _, _, q5, _⟩ := M.pend x hx hvx
              have hsz := heap_lt q5
              rcases hlate with hl | hl
              · obtain ⟨m, hmx, hlm, _, hnb, _⟩ := waits_for R I.down M hm hx hvx
                obtain ⟨_, ox, _, _, _, _, _, q1, q2, _⟩ := M.pend x hx hvx
                exact absurd (hl m x hlm ((loudB_iff q1).2 q2) hmx) hnb
              · have hmem : H (cnt C ops (also V i)) ∈ sF.hs := by
                  have := List.mem_of_getElem? (hsAt _ (cnt_le (also V i)))
                  simpa using this
                rcases hl _ hmem b y hb1 hl1 with hw1 | ⟨y', hy', hly'⟩
                · rcases (hr'.blk b y hb1).2.2 hw1 with g1 | ⟨b2, y2, g1, g2, g3⟩
                  · omega
                  · rw [g3]; exact M.own x hx hvx b2 y2 g1 (by cases y2 <;> simp_all [Blk.wr, Blk.live])
                · obtain ⟨g1, g2⟩ := hA b y' hy' hly'
                  rw [he' b (Nat.lt_of_lt_of_le g1 M.le), M.ext b g1]
                  omega
          obtain ⟨ι2, V2, M2, hm2⟩ := promote_all R T.ph0 stp (by rw [← hSet]; exact hdownL) hw0 _ rfl I'
          exact ih _ _ _ ⟨by simp [I.size], hdownL, ⟨ι2, V2, pb, by rw [hSet]; exact M2, by rw [hSet]; exact hm2⟩, by cases hdo : o.dst <;> simp [Act.put, I.tmps], by rw [put_defers, I.defers]⟩ hfuel
        have hphase : opKind C o = 2 → cnt C ops V = (F i).ph := by
          intro h2
          have hli := (loudB_iff ho).2 h2
          rw [cnt_eq, cnt_at T.ph0 stp (i := i) (fun k hk => ?_) ops.size (Nat.le_refl _), Nat.min_eq_right (by omega)]
          constructor
          · intro hk1
            rcases Nat.lt_trichotomy k i with h | h | h
            · exact h
            · subst h; rw [hVi] at hk1; cases hk1
            · rw [M.pre i k hli hk h hk1] at hVi; cases hVi
          · exact fun h => hlall hli k h hk
        have hLB : loudB C ops i = true ↔ opKind C o = 2 := loudB_iff ho
        have hc2 : opKind C o = 2 → cnt C ops (also V i) = (F i).ph + 1 := fun h2 => by
          rw [hcnt, if_pos (hLB.2 h2), hphase h2]
        have hc1 : opKind C o ≠ 2 → cnt C ops (also V i) = cnt C ops V := fun h2 => by
          rw [hcnt, if_neg (fun h => h2 (hLB.1 h))]; rfl
        have hs := M.hr.self
        unfold wpOpIn
        simp only [ho, hwant]
        cases hrun : (F i).run with
        | false =>
          simp only [Bool.false_eq_true, if_false]
          refine ⟨fun _ _ => trivial, ?_⟩
          obtain ⟨hvu, hhp⟩ := st.skip hrun
          have hh : H (cnt C ops (also V i)) = H (cnt C ops V) := by
            by_cases h2 : opKind C o = 2
            · rw [hc2 h2, hphase h2, ← hhp, st.ph, if_pos h2]
            · rw [hc1 h2]
          refine next ι undef w (Ext.refl _ _) (by rw [hh]; exact Nat.le_refl _) (by rw [hh]; exact hs) ?_
          rw [hvu]
          exact ⟨#[], rfl, rfl⟩
        | true =>
          simp only [if_true]
          by_cases h2 : opKind C o = 2
          · obtain ⟨tm', hle, hk⟩ := st.loud hrun h2
            rw [← hphase h2] at hk
            refine op_wpInR hE hk hs (hρ tm' hle) hG ?_ (fun cv w' hd => by obtain ⟨_, _, _, hf, _⟩ := hd; exact hf.elim)
            rintro cv w' ⟨ι', h', v, ⟨rfl, rfl⟩, he', hn', hr', hvr⟩
            have e : H (cnt C ops (also V i)) = H (cnt C ops V + 1) := by rw [hc2 h2, hphase h2]
            exact next ι' cv w' he' (by rw [e]; exact hn') (by rw [e]; exact hr') (by rw [e]; exact hvr)
          · obtain ⟨tm', hle, hk, hrd⟩ := st.quiet hrun h2
            have hk' : opK C E o (rhoOf C tm') (H (cnt C ops V)) (fun v _ => v = (F i).v) noKP := by
              have hle2 := opKind_le (C := C) o
              by_cases hk0 : opKind C o = 0
              · exact opK_quiet hk0 hk
              · have hk1 : opKind C o = 1 := by omega
                by_cases hp : cnt C ops V = (F i).ph
                · rw [hp]; exact hk
                · have hin := hst _ (hrd hk1) (cnt C ops V) (H (cnt C ops V)) (hsAt _ (cnt_le V)) ?_ ?_ hp
                  · exact hin
                  · exact filter_len_le fun l _ hl => hb l hl
                  · refine filter_len_le fun l _ hl => ?_
                    cases hx : ((Region.before ops).getD l 0).testBit i with
                    | false => simp [hx]
                    | true => rw [hb' l hx] at hl; cases hl
            refine op_wpInR hE (opK_keep h2 hk') hs (hρ tm' hle) hG ?_ (fun cv w' hd => by obtain ⟨_, _, _, hf, _⟩ := hd; exact hf.elim)
            rintro cv w' ⟨ι', h', v, ⟨rfl, rfl⟩, he', hn', hr', hvr⟩
            have e : H (cnt C ops (also V i)) = H (cnt C ops V) := by rw [hc1 h2]
            exact next ι' cv w' he' (by rw [e]; exact Nat.le_refl _) (by rw [e]; exact hr') (by rw [e]; exact hvr)
end Go.Am
