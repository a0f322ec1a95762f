/- A region that draws its order: what it must be, and what follows for the order in which the operations come up. -/
import Derived.Test.YtneeggnlgonilaaGreatDoorAmDrawA
import Derived.OrdersIn
namespace Go.Am
variable {C : Ctx} {E : Env}

/-! ### What comes before what -/
theorem testBit_fold {acc : Array Nat} {k : Nat} : ∀ {l : List Edge} {s : Nat}, (l.foldl (fun s e => if Region.binds .any e then s ||| 2 ^ e.on ||| acc.getD e.on 0 else s) s).testBit k = true →
    s.testBit k = true ∨ ∃ e ∈ l, Region.binds .any e = true ∧ (e.on = k ∨ (acc.getD e.on 0).testBit k = true)
  | [], s, h => .inl h
  | e :: l, s, h => by
    simp only [List.foldl_cons] at h
    rcases testBit_fold h with h1 | ⟨e', he', h2⟩
    · split at h1
      · rename_i hb
        simp only [Nat.testBit_or, Bool.or_eq_true, Nat.testBit_two_pow, decide_eq_true_eq] at h1
        rcases h1 with (h1 | h1) | h1
        · exact .inl h1
        · exact .inr ⟨e, by simp, hb, .inl h1⟩
        · exact .inr ⟨e, by simp, hb, .inr h1⟩
      · exact .inl h1
    · exact .inr ⟨e', by simp [he'], h2⟩

theorem before_step {ops : Array Oper} : (Region.before ops).size = ops.size ∧ ∀ i k, ((Region.before ops).getD i 0).testBit k = true →
    ∃ o e, ops[i]? = some o ∧ e ∈ o.after.toList ∧ Region.binds .any e = true ∧ (e.on = k ∨ ((Region.before ops).getD e.on 0).testBit k = true) := by
  unfold Region.before
  refine Array.foldl_induction (motive := fun i (acc : Array Nat) => acc.size = i ∧ ∀ j k, (acc.getD j 0).testBit k = true → ∃ o e, ops[j]? = some o ∧ e ∈ o.after.toList ∧ Region.binds .any e = true ∧ (e.on = k ∨ (acc.getD e.on 0).testBit k = true)) ?_ ?_
  · exact ⟨rfl, fun j k h => by simp at h⟩
  · rintro i acc ⟨hs, ih⟩
    refine ⟨by simp [hs], fun j k h => ?_⟩
    have hget : ∀ m, m < acc.size → (acc.push ((ops[i].after).foldl (fun s e => if Region.binds .any e then s ||| 2 ^ e.on ||| acc.getD e.on 0 else s) 0)).getD m 0 = acc.getD m 0 := fun m hm => by
      simp only [Array.getD_eq_getD_getElem?, Array.getElem?_push]
      rw [if_neg (by omega)]
    have hup : ∀ m, (acc.getD m 0).testBit k = true → ((acc.push ((ops[i].after).foldl (fun s e => if Region.binds .any e then s ||| 2 ^ e.on ||| acc.getD e.on 0 else s) 0)).getD m 0).testBit k = true := fun m hm => by
      rcases Nat.lt_or_ge m acc.size with h | h
      · rw [hget m h]; exact hm
      · simp [Array.getD_eq_getD_getElem?, Array.getElem?_eq_none h] at hm
    rcases Nat.lt_trichotomy j acc.size with hj | hj | hj
    · rw [hget j hj] at h
      obtain ⟨o, e, h1, h2, h3, h4⟩ := ih j k h
      exact ⟨o, e, h1, h2, h3, h4.imp id (hup _)⟩
    · subst hj
      have e0 : (acc.push ((ops[i].after).foldl (fun s e => if Region.binds .any e then s ||| 2 ^ e.on ||| acc.getD e.on 0 else s) 0)).getD acc.size 0 = (ops[i].after).foldl (fun s e => if Region.binds .any e then s ||| 2 ^ e.on ||| acc.getD e.on 0 else s) 0 := by
        simp [Array.getD_eq_getD_getElem?]
      rw [e0, ← Array.foldl_toList] at h
      rcases testBit_fold h with h1 | ⟨e, he, hb, h2⟩
      · simp at h1
      · refine ⟨ops[i], e, ?_, he, hb, h2.imp id (hup _)⟩
        rw [hs]; simp
    · simp only [Array.getD_eq_getD_getElem?, Array.getElem?_push] at h
      rw [if_neg (by omega), Array.getElem?_eq_none (by omega)] at h
      simp at h

structure DrawR (C : Ctx) (ops : Array Oper) : Prop where
  loud : ∀ i j o o', ops[i]? = some o → ops[j]? = some o' → opKind C o = 2 → opKind C o' = 2 → i < j → ((Region.before ops).getD j 0).testBit i = true ∨
    (freshB o' = true ∧ ∀ r, ((Region.before ops).getD r 0).testBit j = true → ((Region.before ops).getD r 0).testBit i = true)
  bit : ∀ (i : Nat) o, ops[i]? = some o → ∀ e ∈ o.after.toList, Region.binds .any e = true → ((Region.before ops).getD i 0).testBit e.on = true
  edge : ∀ (i : Nat) o, ops[i]? = some o → ∀ e ∈ o.after.toList, Region.binds .any e = true → e.on < i
  tmp : ∀ (i : Nat) o k o' d, ops[i]? = some o → ops[k]? = some o' → o'.dst = some d → k ≠ i → d ∈ guardTmp ops o ++ (o.dst.toList ++ namesOf o) →
    if k < i then ((Region.before ops).getD i 0).testBit k = true else ((Region.before ops).getD k 0).testBit i = true

theorem mem_loudOf {ops : Array Oper} {i : Nat} : i ∈ loudOf C ops ↔ ∃ o, ops[i]? = some o ∧ opKind C o = 2 := by
  unfold loudOf
  simp only [List.mem_filter, List.mem_range]
  constructor
  · rintro ⟨h1, h2⟩
    simp only [Array.getElem?_eq_getElem h1] at h2
    exact ⟨ops[i], by simp [h1], Nat.eq_of_beq_eq_true h2⟩
  · rintro ⟨o, h1, h2⟩
    have hlt : i < ops.size := by
      rcases Nat.lt_or_ge i ops.size with h | h
      · exact h
      · simp [Array.getElem?_eq_none h] at h1
    exact ⟨hlt, by simp [h1, h2]⟩

theorem drawOk_elim {ops : Array Oper} (h : drawOk C ops = true) : DrawR C ops := by
  unfold drawOk at h
  simp only [Bool.and_eq_true, List.all_eq_true, List.mem_range] at h
  obtain ⟨h1, h2⟩ := h
  have lt_of : ∀ {i : Nat} {o : Oper}, ops[i]? = some o → i < ops.size := fun {i o} hi => by
    rcases Nat.lt_or_ge i ops.size with h | h
    · exact h
    · simp [Array.getElem?_eq_none h] at hi
  refine ⟨fun i j o o' hi hj ho ho' hij => ?_, fun i o hi e he hb => ?_, fun i o hi e he hb => ?_, fun i o k o' d hi hk hd hne hm => ?_⟩
  · have := h1 i (mem_loudOf.2 ⟨o, hi, ho⟩) j (mem_loudOf.2 ⟨o', hj, ho'⟩)
    simp only [Bool.or_eq_true] at this
    rcases this with (h | h) | h
    · exact absurd (Nat.le_of_ble_eq_true h) (by omega)
    · exact .inl h
    · simp only [freshAt, hj, Bool.and_eq_true, List.all_eq_true, List.mem_range] at h
      refine .inr ⟨h.1, fun r hr => ?_⟩
      rcases Nat.lt_or_ge r ops.size with hlt | hge
      · have := h.2 r hlt
        simp only [hr, Bool.not_true, Bool.false_or] at this
        exact this
      · have hs := (before_step (ops := ops)).1
        simp [Array.getD_eq_getD_getElem?, Array.getElem?_eq_none (show (Region.before ops).size ≤ r by omega)] at hr
  · have := h2 i (lt_of hi)
    simp only [hi, Bool.and_eq_true, List.all_eq_true] at this
    have := this.1.1 e he
    simp only [hb, Bool.not_true, Bool.false_or, Bool.and_eq_true] at this
    exact this.2
  · have := h2 i (lt_of hi)
    simp only [hi, Bool.and_eq_true, List.all_eq_true] at this
    have := this.1.1 e he
    simp only [hb, Bool.not_true, Bool.false_or, Bool.and_eq_true] at this
    exact Nat.le_of_ble_eq_true (show Nat.ble (e.on + 1) i = true from this.1)
  · have := h2 i (lt_of hi)
    simp only [hi, Bool.and_eq_true, List.all_eq_true] at this
    have := this.2 k (List.mem_range.2 (lt_of hk))
    simp only [hk, hd, Bool.or_eq_true] at this
    rcases this with (h | h) | h
    · exact absurd (Nat.eq_of_beq_eq_true h) hne
    · simp only [Bool.not_eq_true', List.contains_eq_mem, decide_eq_false_iff_not] at h
      exact absurd hm h
    · split at h
      · rename_i hlt; rw [if_pos hlt]; exact h
      · rename_i hlt; rw [if_neg hlt]; exact h

/-- What has come up holds what it waits on. -/
def Down (ops : Array Oper) (S : Nat → Bool) : Prop := ∀ k o, S k = true → ops[k]? = some o → ∀ e ∈ o.after.toList, Region.binds .any e = true → S e.on = true

theorem down_before {ops : Array Oper} {S : Nat → Bool} (R : DrawR C ops) (hD : Down ops S) : ∀ n k, k < n → S k = true → ∀ j, ((Region.before ops).getD k 0).testBit j = true → S j = true
  | 0, k, hk, _, _, _ => by omega
  | n + 1, k, hk, hS, j, hj => by
    obtain ⟨o, e, ho, he, hb, h⟩ := before_step.2 k j hj
    have hon := hD k o hS ho e he hb
    rcases h with h | h
    · rw [← h]; exact hon
    · exact down_before R hD n e.on (by have := R.edge k o ho e he hb; omega) hon j h

theorem ready_before {ops : Array Oper} {S : Nat → Bool} (R : DrawR C ops) (hD : Down ops S) {i : Nat} {o : Oper} (ho : ops[i]? = some o) (hr : ∀ e ∈ o.after.toList, Region.binds .any e = true → S e.on = true)
    {j : Nat} (hj : ((Region.before ops).getD i 0).testBit j = true) : S j = true := by
  obtain ⟨o', e, ho', he, hb, h⟩ := before_step.2 i j hj
  rw [ho] at ho'; cases ho'
  rcases h with h | h
  · rw [← h]; exact hr e he hb
  · exact down_before R hD _ _ (Nat.lt_succ_self _) (hr e he hb) j h

/-! ### the temporaries and the phase, by what has come up -/
def dstOf (ops : Array Oper) (k : Nat) : Option Tmp := (ops[k]?).bind (·.dst)

def vals (ops : Array Oper) (F : Nat → Fact) (tm : List (Nat × AV)) (S : Nat → Bool) : Nat → Nat → Option AV
  | 0, d => lookupB tm d
  | n + 1, d => if S n = true ∧ dstOf ops n = some d then some (F n).v else vals ops F tm S n d

def cnt (C : Ctx) (ops : Array Oper) (S : Nat → Bool) : Nat := ((loudOf C ops).filter S).length

section
variable {nt : Nat} {ops : Array Oper} {F : Nat → Fact} {H : Nat → Heap} {rF : List Rd} {tm : List (Nat × AV)} {S : Nat → Bool}

theorem vals_at (h0 : LEq tm (F 0).tm) (hst : ∀ k o, ops[k]? = some o → StepOK C E nt ops F H rF k o) {i d : Nat} (hS : ∀ k, dstOf ops k = some d → (S k = true ↔ k < i)) : ∀ n, n ≤ ops.size → vals ops F tm S n d = lookupB (F (min n i)).tm d
  | 0, _ => by simp [vals, h0 d]
  | n + 1, hn => by
    have ih := vals_at h0 hst hS n (by omega)
    have ho : ops[n]? = some (ops[n]'(by omega)) := Array.getElem?_eq_getElem (by omega)
    have hs := (hst n _ ho).tm d
    simp only [vals]
    by_cases hd : dstOf ops n = some d
    · have hd' : (ops[n]'(by omega)).dst = some d := by simpa [dstOf, ho] using hd
      by_cases hni : n < i
      · rw [if_pos ⟨(hS n hd).2 hni, hd⟩, show min (n + 1) i = n + 1 from by omega, hs, if_pos hd']
      · rw [if_neg (fun h => hni ((hS n hd).1 h.1)), ih]
        rw [show min (n + 1) i = min n i from by omega]
    · have hd' : ¬ (ops[n]'(by omega)).dst = some d := fun h => hd (by simpa [dstOf, ho] using h)
      rw [if_neg (fun h => hd h.2), ih]
      by_cases hni : n < i
      · rw [show min (n + 1) i = n + 1 from by omega, hs, if_neg hd', show min n i = n from by omega]
      · rw [show min (n + 1) i = min n i from by omega]

def also (S : Nat → Bool) (i : Nat) : Nat → Bool := fun k => S k || k == i

theorem vals_also {i d : Nat} (hi : S i = false) (hlast : dstOf ops i = some d → ∀ k, i < k → dstOf ops k = some d → S k = false) : ∀ n, vals ops F tm (also S i) n d = if i < n ∧ dstOf ops i = some d then some (F i).v else vals ops F tm S n d
  | 0 => by simp [vals]
  | n + 1 => by
    have ih := vals_also hi hlast n
    simp only [vals, also]
    by_cases hni : n = i
    · subst hni
      simp only [beq_self_eq_true, Bool.or_true, true_and, Nat.lt_succ_self]
      split
      · rfl
      · rename_i hd
        rw [ih, if_neg (fun h => hd h.2)]
        simp [hi]
    · have hbe : (n == i) = false := by simpa using hni
      simp only [hbe, Bool.or_false]
      by_cases hd : dstOf ops i = some d
      · by_cases hlt : i < n
        · by_cases hdn : dstOf ops n = some d
          · have := hlast hd n hlt hdn
            simp only [this, Bool.false_eq_true, false_and, if_false]
            rw [ih, if_pos ⟨hlt, hd⟩, if_pos ⟨by omega, hd⟩]
          · rw [if_neg (fun h => hdn h.2), ih, if_pos ⟨hlt, hd⟩, if_pos ⟨by omega, hd⟩]
        · rw [if_neg (show ¬ (i < n + 1 ∧ dstOf ops i = some d) from fun h => by omega)]
          rw [ih, if_neg (show ¬ (i < n ∧ dstOf ops i = some d) from fun h => hlt h.1)]
      · rw [if_neg (show ¬ (i < n + 1 ∧ dstOf ops i = some d) from fun h => hd h.2), ih, if_neg (show ¬ (i < n ∧ dstOf ops i = some d) from fun h => hd h.2)]

def loudB (C : Ctx) (ops : Array Oper) (k : Nat) : Bool := match ops[k]? with | some o => Nat.beq (opKind C o) 2 | none => false
theorem loudB_iff {k : Nat} {o : Oper} (ho : ops[k]? = some o) : loudB C ops k = true ↔ opKind C o = 2 := by
  simp only [loudB, ho]
  exact ⟨Nat.eq_of_beq_eq_true, fun h => by rw [h]; rfl⟩

theorem cnt_range (n : Nat) (S : Nat → Bool) : (((List.range n).filter (loudB C ops)).filter S).length = ((List.range n).filter fun k => loudB C ops k && S k).length := by
  rw [List.filter_filter]
  congr 2
  funext k
  rw [Bool.and_comm]

theorem cnt_at (h0 : (F 0).ph = 0) (hst : ∀ k o, ops[k]? = some o → StepOK C E nt ops F H rF k o) {i : Nat} (hS : ∀ k, loudB C ops k = true → (S k = true ↔ k < i)) : ∀ n, n ≤ ops.size →
    ((List.range n).filter fun k => loudB C ops k && S k).length = (F (min n i)).ph
  | 0, _ => by simp [h0]
  | n + 1, hn => by
    have ih := cnt_at h0 hst hS n (by omega)
    have ho : ops[n]? = some (ops[n]'(by omega)) := Array.getElem?_eq_getElem (by omega)
    have hs := (hst n _ ho).ph
    rw [List.range_succ, List.filter_append, List.length_append, ih]
    by_cases hl : loudB C ops n = true
    · have h2 := (loudB_iff ho).1 hl
      by_cases hni : n < i
      · rw [show min (n + 1) i = n + 1 from by omega, hs, if_pos h2, show min n i = n from by omega]
        simp [hl, (hS n hl).2 hni]
      · have : S n = false := by
          cases h : S n with
          | false => rfl
          | true => exact absurd ((hS n hl).1 h) hni
        rw [show min (n + 1) i = min n i from by omega]
        simp [this]
    · have h2 : opKind C (ops[n]'(by omega)) ≠ 2 := fun h => hl ((loudB_iff ho).2 h)
      have hl' : loudB C ops n = false := by simpa using hl
      simp only [List.filter_cons, hl', Bool.false_and, Bool.false_eq_true, if_false, List.filter_nil, List.length_nil, Nat.add_zero]
      by_cases hni : n < i
      · rw [show min (n + 1) i = n + 1 from by omega, hs, if_neg h2, show min n i = n from by omega]; rfl
      · rw [show min (n + 1) i = min n i from by omega]

theorem cnt_eq (S : Nat → Bool) : cnt C ops S = ((List.range ops.size).filter fun k => loudB C ops k && S k).length := cnt_range ops.size S

theorem filter_len_le {l : List Nat} {p q : Nat → Bool} (h : ∀ x ∈ l, p x = true → q x = true) : (l.filter p).length ≤ (l.filter q).length := by
  induction l with
  | nil => simp
  | cons x xs ih =>
    have ih' := ih fun y hy => h y (by simp [hy])
    simp only [List.filter_cons]
    cases hp : p x with
    | true => rw [h x (by simp) hp]; simpa using ih'
    | false => cases q x <;> simp <;> omega

theorem cnt_also {i : Nat} (hi : S i = false) (hlt : i < ops.size) : cnt C ops (also S i) = cnt C ops S + (if loudB C ops i = true then 1 else 0) := by
  have : ∀ n, ((List.range n).filter fun k => loudB C ops k && also S i k).length = ((List.range n).filter fun k => loudB C ops k && S k).length + (if i < n ∧ loudB C ops i = true then 1 else 0) := by
    intro n
    induction n with
    | zero => simp
    | succ n ih =>
      rw [List.range_succ, List.filter_append, List.filter_append, List.length_append, List.length_append, ih]
      by_cases hni : n = i
      · subst hni
        simp only [Nat.lt_irrefl, false_and, if_false, Nat.lt_succ_self, true_and]
        cases hl : loudB C ops n <;> simp [hl, also, hi]
      · have hbe : (n == i) = false := by simpa using hni
        have : (i < n + 1) ↔ i < n := by omega
        simp only [this]
        have e : ([n].filter fun k => loudB C ops k && also S i k).length = ([n].filter fun k => loudB C ops k && S k).length := by simp only [List.filter_cons, List.filter_nil, also, hbe, Bool.or_false]
        omega
  rw [cnt_eq, cnt_eq, this]
  simp [hlt]
end
end Go.Am
