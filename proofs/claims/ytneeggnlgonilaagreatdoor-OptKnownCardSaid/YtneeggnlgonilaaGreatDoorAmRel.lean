/- The abstract machine's relation to the model's memory, and what follows of it alone. -/
import Derived.Test.YtneeggnlgonilaaGreatDoorAmDef
import Derived.WalkKit
namespace Go.Am

structure BI where
  blk : Nat
  cap : Nat
  len : Nat

abbrev Inj := Nat → BI

/-- A function's name: yield names its loop's record, a block. -/
def frn (ι : Inj) : Fn → Fn
  | .yield l => .yield (ι l).blk
  | f => f
def flt (n : Nat) : Fn → Prop
  | .yield l => l < n
  | _ => True

mutual
def VR (ι : Inj) (n : Nat) : AV → Value → Prop
  | .bool b, v => v = .bool b
  | .int k x, v => v = .int k x
  | .str s, v => v = .string s
  | .nilp, v => v = .pointer none
  | .ptr b i z j, v => b < n ∧ (z = 0 ∨ i < (ι b).len) ∧ v = .pointer (some ⟨(ι b).blk, i * z + j, none⟩)
  | .nils, v => v = .slice none 0 0
  | .emp, v => ∃ a : Addr, a.spot = none ∧ v = .slice (some a) 0 0
  | .slc b z o l, v => b < n ∧ o + l ≤ (ι b).len ∧ (ι b).len ≤ (ι b).cap ∧ ∃ a : Addr, a.spot = none ∧ ((ι b).cap ≤ o ∨ a = ⟨(ι b).blk, o * z, none⟩) ∧ v = .slice (some a) l ((ι b).cap - o)
  | .mapn, v => v = .map none
  | .mapr b, v => b < n ∧ v = .map (some (ι b).blk)
  | .func fn a c, v => ∃ a' c', v = .func (frn ι fn) a' c' ∧ flt n fn ∧ VRs ι n a a'.toList ∧ VRs ι n c c'.toList
  | .nilf, v => v = .nilFunc
  | .iface t x, v => ∃ y, v = .iface t y ∧ VR ι n x y
  | .nili, v => v = .nilIface
  | .agg cs, v => ∃ a, v = .agg a ∧ VRs ι n cs a.toList
  | .tup cs, v => ∃ a, v = .tuple a ∧ VRs ι n cs a.toList
def VRs (ι : Inj) (n : Nat) : List AV → List Value → Prop
  | [], l => l = []
  | x :: xs, l => ∃ y ys, l = y :: ys ∧ VR ι n x y ∧ VRs ι n xs ys
end

def Ext (ι ι' : Inj) (n : Nat) : Prop := ∀ b, b < n → ι' b = ι b

theorem Ext.refl (ι : Inj) (n : Nat) : Ext ι ι n := fun _ _ => rfl
theorem Ext.trans {ι ι' ι'' : Inj} {n n' : Nat} (h : Ext ι ι' n) (h' : Ext ι' ι'' n') (hn : n ≤ n') : Ext ι ι'' n :=
  fun b hb => (h' b (Nat.lt_of_lt_of_le hb hn)).trans (h b hb)

mutual
theorem VR.mono {ι ι' : Inj} {n n' : Nat} (he : Ext ι ι' n) (hn : n ≤ n') : ∀ (x : AV) (v : Value), VR ι n x v → VR ι' n' x v
  | .bool _, _, h | .int .., _, h | .str _, _, h | .nilp, _, h | .nils, _, h | .mapn, _, h | .nilf, _, h | .nili, _, h => h
  | .emp, _, h => h
  | .ptr b i z j, v, h => by
    simp only [VR] at h ⊢
    rw [he b h.1]
    exact ⟨Nat.lt_of_lt_of_le h.1 hn, h.2⟩
  | .slc b z o l, v, h => by
    simp only [VR] at h ⊢
    rw [he b h.1]
    exact ⟨Nat.lt_of_lt_of_le h.1 hn, h.2⟩
  | .mapr b, v, h => by
    simp only [VR] at h ⊢
    rw [he b h.1]
    exact ⟨Nat.lt_of_lt_of_le h.1 hn, h.2⟩
  | .func fn a c, v, h => by
    simp only [VR] at h ⊢
    obtain ⟨a', c', h1, h0, h2, h3⟩ := h
    refine ⟨a', c', ?_, ?_, VRs.mono he hn _ _ h2, VRs.mono he hn _ _ h3⟩
    · rw [h1]
      cases fn <;> simp only [frn]
      rw [he _ h0]
    · cases fn <;> simp only [flt] at h0 ⊢
      exact Nat.lt_of_lt_of_le h0 hn
  | .iface t x, v, h => by
    simp only [VR] at h ⊢
    obtain ⟨y, h1, h2⟩ := h
    exact ⟨y, h1, VR.mono he hn _ _ h2⟩
  | .agg cs, v, h => by
    simp only [VR] at h ⊢
    obtain ⟨y, h1, h2⟩ := h
    exact ⟨y, h1, VRs.mono he hn _ _ h2⟩
  | .tup cs, v, h => by
    simp only [VR] at h ⊢
    obtain ⟨y, h1, h2⟩ := h
    exact ⟨y, h1, VRs.mono he hn _ _ h2⟩
theorem VRs.mono {ι ι' : Inj} {n n' : Nat} (he : Ext ι ι' n) (hn : n ≤ n') : ∀ (x : List AV) (v : List Value), VRs ι n x v → VRs ι' n' x v
  | [], _, h => h
  | x :: xs, _, h => by
    simp only [VRs] at h ⊢
    obtain ⟨y, ys, h1, h2, h3⟩ := h
    exact ⟨y, ys, h1, VR.mono he hn _ _ h2, VRs.mono he hn _ _ h3⟩
end

section lists
variable {ι : Inj} {n : Nat}
theorem VRs.length : ∀ {x : List AV} {v : List Value}, VRs ι n x v → v.length = x.length
  | [], _, h => by simp only [VRs] at h; simp [h]
  | x :: xs, _, h => by
    simp only [VRs] at h
    obtain ⟨y, ys, rfl, _, h3⟩ := h
    simp [VRs.length h3]

theorem VRs.get : ∀ {x : List AV} {v : List Value} {k : Nat} {a : AV}, VRs ι n x v → x[k]? = some a → ∃ y, v[k]? = some y ∧ VR ι n a y
  | [], _, k, a, h, hk => by simp at hk
  | x :: xs, _, 0, a, h, hk => by
    simp only [VRs] at h
    obtain ⟨y, ys, rfl, h2, _⟩ := h
    simp at hk; subst hk
    exact ⟨y, rfl, h2⟩
  | x :: xs, _, k + 1, a, h, hk => by
    simp only [VRs] at h
    obtain ⟨y, ys, rfl, _, h3⟩ := h
    simp at hk
    obtain ⟨z, hz, hv⟩ := VRs.get h3 hk
    exact ⟨z, by simpa using hz, hv⟩

theorem VRs.of_get : ∀ {x : List AV} {v : List Value}, v.length = x.length → (∀ (k : Nat) (a : AV), x[k]? = some a → ∃ y, v[k]? = some y ∧ VR ι n a y) → VRs ι n x v
  | [], [], _, _ => rfl
  | [], _ :: _, h, _ => by simp at h
  | x :: xs, [], h, _ => by simp at h
  | x :: xs, y :: ys, h, hk => by
    simp only [VRs]
    obtain ⟨z, hz, hv⟩ := hk 0 x rfl
    simp at hz; subst hz
    refine ⟨y, ys, rfl, hv, VRs.of_get (by simpa using h) fun k a ha => ?_⟩
    obtain ⟨z, hz, hv⟩ := hk (k + 1) a (by simpa using ha)
    exact ⟨z, by simpa using hz, hv⟩

theorem VRs.append : ∀ {x x' : List AV} {v v' : List Value}, VRs ι n x v → VRs ι n x' v' → VRs ι n (x ++ x') (v ++ v')
  | [], _, _, _, h, h' => by simp only [VRs] at h; subst h; simpa using h'
  | x :: xs, _, _, _, h, h' => by
    simp only [VRs] at h
    obtain ⟨y, ys, rfl, h2, h3⟩ := h
    exact ⟨y, ys ++ _, by simp, h2, VRs.append h3 h'⟩

theorem VRs.take {x : List AV} {v : List Value} (h : VRs ι n x v) (k : Nat) : VRs ι n (x.take k) (v.take k) := by
  refine VRs.of_get (by simp [h.length]) fun j a ha => ?_
  rw [List.getElem?_take] at ha
  split at ha
  · obtain ⟨y, hy, hv⟩ := h.get ha
    exact ⟨y, by rw [List.getElem?_take, if_pos ‹_›, hy], hv⟩
  · simp at ha

theorem VRs.drop {x : List AV} {v : List Value} (h : VRs ι n x v) (k : Nat) : VRs ι n (x.drop k) (v.drop k) := by
  refine VRs.of_get (by simp [h.length]) fun j a ha => ?_
  rw [List.getElem?_drop] at ha
  obtain ⟨y, hy, hv⟩ := h.get ha
  exact ⟨y, by rw [List.getElem?_drop, hy], hv⟩
end lists

/-! ### what the small tools say -/
section tools
variable {α : Type}
theorem assertB_iff {b : Bool} {X : Prop} : assertB b X ↔ b = true ∧ X := by cases b <;> simp [assertB]

theorem nthK_iff : ∀ {l : List α} {n : Nat} {k : α → Prop}, nthK l n k ↔ ∃ x, l[n]? = some x ∧ k x
  | [], n, k => by simp [nthK]
  | x :: xs, 0, k => by simp [nthK]
  | x :: xs, n + 1, k => by simp [nthK, nthK_iff]

theorem idxK_elim {n : Nat} : ∀ {l : List α} {i : Nat} {k : Nat → α → Prop}, idxK n i l k → ∃ j x, l[j]? = some x ∧ n = i + j ∧ k n x
  | [], i, k, h => h.elim
  | x :: xs, i, k, h => by
    simp only [idxK] at h
    cases hb : Nat.beq n i with
    | true =>
      rw [hb] at h
      have : n = i := Nat.eq_of_beq_eq_true hb
      subst this
      exact ⟨0, x, rfl, rfl, h⟩
    | false =>
      rw [hb] at h
      obtain ⟨j, y, hj, rfl, hk⟩ := idxK_elim (k := k) h
      exact ⟨j + 1, y, by simpa using hj, by omega, hk⟩

theorem takeK_iff : ∀ {l : List α} {j n : Nat} {k : List α → Prop}, takeK l j n k ↔ j + n ≤ l.length ∧ k ((l.drop j).take n)
  | l, 0, 0, k => by cases l <;> simp [takeK]
  | [], j + 1, 0, k => by simp [takeK]
  | c :: cs, j + 1, 0, k => by simp [takeK, takeK_iff (l := cs) (j := j) (n := 0)]
  | [], j, n + 1, k => by cases j <;> simp [takeK]
  | c :: cs, 0, n + 1, k => by simp [takeK, takeK_iff (l := cs) (j := 0) (n := n)]
  | c :: cs, j + 1, n + 1, k => by simp [takeK, takeK_iff (l := cs) (j := j) (n := n + 1)]; omega

def putL (l : List α) (j : Nat) (vs : List α) : List α := l.take j ++ vs ++ l.drop (j + vs.length)

theorem putK_iff : ∀ {l : List α} {j : Nat} {vs : List α} {k : List α → Prop}, putK l j vs k ↔ j + vs.length ≤ l.length ∧ k (putL l j vs)
  | l, 0, [], k => by cases l <;> simp [putK, putL]
  | [], j + 1, [], k => by simp [putK]
  | c :: cs, j + 1, [], k => by simp [putK, putK_iff (l := cs) (j := j) (vs := []), putL]
  | [], j, v :: vs, k => by cases j <;> simp [putK]
  | c :: cs, 0, v :: vs, k => by simp [putK, putK_iff (l := cs) (j := 0) (vs := vs), putL]
  | c :: cs, j + 1, v :: vs, k => by
    have h : j + 1 + (v :: vs).length = (j + (v :: vs).length) + 1 := by omega
    simp [putK, putK_iff (l := cs) (j := j) (vs := v :: vs), putL]
    have h1 : j + 1 + (vs.length + 1) ≤ cs.length + 1 ↔ j + (vs.length + 1) ≤ cs.length := by omega
    have h2 : j + 1 + (vs.length + 1) = (j + (vs.length + 1)) + 1 := by omega
    rw [h1, h2]; simp

def lookupB (l : List (Nat × α)) (b : Nat) : Option α := match l with
  | [] => none
  | (i, v) :: r => if i = b then some v else lookupB r b

theorem getK_iff : ∀ {l : List (Nat × α)} {b : Nat} {k : α → Prop}, getK l b k ↔ ∃ x, lookupB l b = some x ∧ k x
  | [], b, k => by simp [getK, lookupB]
  | (i, v) :: r, b, k => by
    simp only [getK, lookupB]
    by_cases h : i = b
    · subst h; simp
    · have hb : Nat.beq i b = false := by
        cases hh : Nat.beq i b with
        | true => exact absurd (Nat.eq_of_beq_eq_true hh) h
        | false => rfl
      simp [hb, h, getK_iff]

def updL (l : List (Nat × α)) (b : Nat) (x : α) : List (Nat × α) := match l with
  | [] => []
  | (i, v) :: r => if i = b then (i, x) :: r else (i, v) :: updL r b x

theorem updK_iff : ∀ {l : List (Nat × α)} {b : Nat} {v : α} {k : List (Nat × α) → Prop}, updK l b v k ↔ (lookupB l b).isSome = true ∧ k (updL l b v)
  | [], b, v, k => by simp [updK, lookupB]
  | (i, x) :: r, b, v, k => by
    simp only [updK, lookupB, updL]
    by_cases h : i = b
    · subst h; simp
    · have hb : Nat.beq i b = false := by
        cases hh : Nat.beq i b with
        | true => exact absurd (Nat.eq_of_beq_eq_true hh) h
        | false => rfl
      simp [hb, h, updK_iff]

theorem lookup_updL : ∀ {l : List (Nat × α)} {b : Nat} {v : α} (_ : (lookupB l b).isSome = true) (c : Nat), lookupB (updL l b v) c = if c = b then some v else lookupB l c
  | [], b, v, h, c => by simp [lookupB] at h
  | (i, x) :: r, b, v, h, c => by
    simp only [updL, lookupB] at h ⊢
    by_cases hi : i = b
    · subst hi
      simp only [if_true, lookupB]
      by_cases hc : i = c
      · subst hc; simp
      · simp [hc, show ¬ c = i from fun h => hc (Eq.symm h)]
    · simp only [hi, if_false] at h ⊢
      simp only [lookupB]
      by_cases hc : i = c
      · subst hc; simp [hi]
      · simp [hc, lookup_updL h c]

theorem appK_iff : ∀ {l l' : List α} {k : List α → Prop}, appK l l' k ↔ k (l ++ l')
  | [], l', k => by simp [appK]
  | x :: xs, l', k => by simp [appK, appK_iff]

theorem optK_iff {o : Option α} {k : α → Prop} : optK o k ↔ ∃ x, o = some x ∧ k x := by cases o <;> simp [optK]

theorem mapK_elim {β : Type} {f : α → (β → Prop) → Prop} {R : α → β → Prop} : ∀ {l : List α} {k : List β → Prop} (_ : ∀ x ∈ l, ∀ Kx, f x Kx → ∃ y, R x y ∧ Kx y), mapK f l k →
    ∃ r : List β, r.length = l.length ∧ (∀ (i : Nat) (x : α), l[i]? = some x → ∃ y, r[i]? = some y ∧ R x y) ∧ k r
  | [], k, _, h => ⟨[], rfl, by simp, h⟩
  | x :: xs, k, hf, h => by
    obtain ⟨y, hy, h⟩ := hf x (by simp) _ h
    obtain ⟨r, hl, hr, hk⟩ := mapK_elim (fun x hx => hf x (by simp [hx])) h
    refine ⟨y :: r, by simp [hl], ?_, hk⟩
    intro i a ha
    cases i with
    | zero => simp at ha; subst ha; exact ⟨y, rfl, hy⟩
    | succ i => simpa using hr i a (by simpa using ha)
end tools

end Go.Am
