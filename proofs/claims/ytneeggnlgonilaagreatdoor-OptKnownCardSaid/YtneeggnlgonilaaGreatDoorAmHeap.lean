/- The abstract heap against the model's memory: what stands, what is laid, what is turned. -/
import Derived.Test.YtneeggnlgonilaaGreatDoorAmRel
namespace Go.Am

def TR (ι : Inj) (n : Nat) (tm : List (Nat × AV)) (nt : Nat) (t : Array Value) : Prop :=
  t.size = nt ∧ ∀ i v, lookupB tm i = some v → ∃ cv, t[i]? = some cv ∧ VR ι n v cv

theorem TR.mono {ι ι' : Inj} {n n' : Nat} (he : Ext ι ι' n) (hn : n ≤ n') {tm : List (Nat × AV)} {nt : Nat} {t : Array Value} (h : TR ι n tm nt t) : TR ι' n' tm nt t :=
  ⟨h.1, fun i v hv => let ⟨cv, h1, h2⟩ := h.2 i v hv; ⟨cv, h1, h2.mono he hn⟩⟩

def Free (fz : Nat × Nat) (k : Nat) : Prop := ¬ (fz.1 ≤ k ∧ k < fz.2)

def Col.val (c : Col) (i : Nat) : Value :=
  match c with
  | .int k g => .int k (g i)
  | .bool g => .bool (g i)
  | .str g => .string (g i)

def ER (ι : Inj) (n : Nat) : List (AV × AV) → List MapEntry → Prop
  | [], l => l = []
  | (k, v) :: r, l => ∃ e es, l = e :: es ∧ VR ι n k e.key ∧ VR ι n v e.val ∧ ER ι n r es

theorem ER.mono {ι ι' : Inj} {n n' : Nat} (he : Ext ι ι' n) (hn : n ≤ n') : ∀ {x : List (AV × AV)} {l : List MapEntry}, ER ι n x l → ER ι' n' x l
  | [], _, h => h
  | (k, v) :: r, _, h => by
    simp only [ER] at h ⊢
    obtain ⟨e, es, h1, h2, h3, h4⟩ := h
    exact ⟨e, es, h1, h2.mono he hn, h3.mono he hn, ER.mono he hn h4⟩

/-- What a map from numbers to numbers holds for one. -/
def findI : List MapEntry → Int → Option Int
  | [], _ => none
  | e :: r, a => match e.key, e.val with
    | .int _ x, .int _ y => if x = a then some y else findI r a
    | _, _ => none
def FR (kd vd : IntKind) (l : List MapEntry) (g : Int → Option Int) : Prop :=
  (∀ e ∈ l, ∃ x y, e.key = .int kd x ∧ e.val = .int vd y) ∧ ∀ a, findI l a = g a

def BR (ι : Inj) (n : Nat) (x : Blk) (bi : BI) (o : Obj) : Prop :=
  match x with
  | .cells wr z cap cs => ∃ arr e fz, o = .cells arr e fz ∧ (∀ (k : Nat) (a : AV), cs[k]? = some a → ∃ y, arr[k]? = some y ∧ VR ι n a y) ∧
      (∀ c, cap = some c → bi.cap = c ∧ bi.len = c) ∧ bi.len ≤ bi.cap ∧ (wr = true → cs.length ≤ bi.cap * z ∧ bi.cap * z ≤ arr.size ∧ ∀ k, k < bi.cap * z → Free fz k)
  | .row wr cap m cols => ∃ arr e fz, o = .cells arr e fz ∧ (∀ i, i < m → ∀ (j : Nat) (c : Col), cols[j]? = some c → arr[i * cols.length + j]? = some (c.val i)) ∧
      (∀ c, cap = some c → bi.cap = c) ∧ bi.len = m ∧ m ≤ bi.cap ∧ (wr = true → bi.cap * cols.length ≤ arr.size ∧ ∀ k, k < bi.cap * cols.length → Free fz k)
  | .loop st pend tm nt ps assign body d => ∃ L : Loop, o = .loop L ∧ L.state = st ∧ L.pending = pend ∧ TR ι n tm nt L.tmps ∧ L.params.toList = ps ∧ L.assign = assign ∧ L.body = body ∧ L.defers = (ι d).blk ∧ d < n
  | .defd shut => o = .deferred (if shut then none else some [])
  | .mp es => ∃ ents clock, o = .map ents clock ∧ ER ι n es ents.toList
  | .mpf kd vd g => ∃ ents clock, o = .map ents clock ∧ FR kd vd ents.toList g
  | .dead => True

theorem BR.mono {ι ι' : Inj} {n n' : Nat} (he : Ext ι ι' n) (hn : n ≤ n') {x : Blk} {bi : BI} {o : Obj} (h : BR ι n x bi o) : BR ι' n' x bi o := by
  cases x with
  | cells wr z cap cs =>
    obtain ⟨arr, e, fz, h1, h2, h3⟩ := h
    exact ⟨arr, e, fz, h1, fun k a ha => let ⟨y, hy, hv⟩ := h2 k a ha; ⟨y, hy, hv.mono he hn⟩, h3⟩
  | row wr cap m cols => exact h
  | loop st pend tm nt ps assign body d =>
    obtain ⟨L, h1, h2, h3, h4, h5, h6, h7, h8, h9⟩ := h
    exact ⟨L, h1, h2, h3, h4.mono he hn, h5, h6, h7, by rw [he d h9]; exact h8, Nat.lt_of_lt_of_le h9 hn⟩
  | defd shut => exact h
  | mp es =>
    obtain ⟨ents, clock, h1, h2⟩ := h
    exact ⟨ents, clock, h1, h2.mono he hn⟩
  | mpf kd vd g => exact h
  | dead => trivial

/-- One world against another: the same but for the block k, which is o. -/
structure Turn (w w' : World) (k : Nat) (o : Obj) : Prop where
  os : w'.os = w.os
  tape : w'.tape = w.tape
  output : w'.output = w.output
  size : w'.heap.size = w.heap.size
  at_ : w'.heap[k]? = some o
  else_ : ∀ j, j ≠ k → w'.heap[j]? = w.heap[j]?

/-- The same, but for draws and new blocks from 'B' on. -/
structure HR (w0 : World) (O : Nat → Prop) (ι : Inj) (h : Heap) (w : World) : Prop where
  os : w.os = w0.os
  tape : w.tape = w0.tape
  output : w.output = w0.output
  size : w0.heap.size ≤ w.heap.size
  old : ∀ k, k < w0.heap.size → ¬ O k → w.heap[k]? = w0.heap[k]?
  blk : ∀ b x, lookupB h.bl b = some x → b < h.nx ∧ (x.live = true → ∃ o, w.heap[(ι b).blk]? = some o ∧ BR ι h.nx x (ι b) o) ∧ (x.wr = true → w0.heap.size ≤ (ι b).blk ∨ O (ι b).blk)
  inj : ∀ b b' x x', lookupB h.bl b = some x → lookupB h.bl b' = some x' → b ≠ b' → x.wr = true → x'.live = true → (ι b).blk ≠ (ι b').blk

section
variable {w0 : World} {O : Nat → Prop} {ι : Inj} {h : Heap} {w : World}

theorem HR.drew (H : HR w0 O ι h w) (d : Nat) : HR w0 O ι h { w with drawn := d } :=
  ⟨H.os, H.tape, H.output, H.size, H.old, H.blk, H.inj⟩

theorem HR.get (H : HR w0 O ι h w) {b : Nat} {x : Blk} (hb : lookupB h.bl b = some x) (hl : x.live = true) : ∃ o, w.heap[(ι b).blk]? = some o ∧ BR ι h.nx x (ι b) o :=
  (H.blk b x hb).2.1 hl

def newI (ι : Inj) (n : Nat) (bi : BI) : Inj := fun b => if b = n then bi else ι b
theorem newI_ext (ι : Inj) (n : Nat) (bi : BI) : Ext ι (newI ι n bi) n := fun b hb => by simp [newI, Nat.ne_of_lt hb]
@[simp] theorem newI_same (ι : Inj) (n : Nat) (bi : BI) : newI ι n bi n = bi := by simp [newI]

theorem heap_lt {w : World} {k : Nat} {o : Obj} (h : w.heap[k]? = some o) : k < w.heap.size := by
  rcases Nat.lt_or_ge k w.heap.size with hk | hk
  · exact hk
  · simp [Array.getElem?_eq_none hk] at h

/-- A new block. -/
theorem HR.push (H : HR w0 O ι h w) (x : Blk) (o : Obj) (cap len : Nat) (hx : BR (newI ι h.nx ⟨w.heap.size, cap, len⟩) (h.nx + 1) x ⟨w.heap.size, cap, len⟩ o) :
    HR w0 O (newI ι h.nx ⟨w.heap.size, cap, len⟩) ⟨h.nx + 1, (h.nx, x) :: h.bl⟩ { w with heap := w.heap.push o } := by
  have hext := newI_ext ι h.nx ⟨w.heap.size, cap, len⟩
  have hold : ∀ b y, lookupB h.bl b = some y → newI ι h.nx ⟨w.heap.size, cap, len⟩ b = ι b := fun b y hb => hext b (H.blk b y hb).1
  refine ⟨H.os, H.tape, H.output, by simp; have := H.size; omega, ?_, ?_, ?_⟩
  · intro k hk hO
    have := H.size
    simp only [Array.getElem?_push]
    rw [if_neg (by omega)]
    exact H.old k hk hO
  · intro b y hb
    simp only [lookupB] at hb
    split at hb
    · rename_i he
      cases hb
      subst he
      refine ⟨by simp, fun _ => ⟨o, by simp, by simpa using hx⟩, fun _ => .inl ?_⟩
      simp; exact H.size
    · have hb' := H.blk b y hb
      refine ⟨by simp; omega, fun hl => ?_, fun hw => ?_⟩
      · obtain ⟨o', h1, h2⟩ := hb'.2.1 hl
        refine ⟨o', ?_, ?_⟩
        · rw [hold b y hb]
          have hlt := heap_lt h1
          simp only [Array.getElem?_push]
          rw [if_neg (by omega)]; exact h1
        · rw [hold b y hb]; exact h2.mono hext (Nat.le_succ _)
      · rw [hold b y hb]; exact hb'.2.2 hw
  · intro b b' y y' hb hb' hne hw hl
    simp only [lookupB] at hb hb'
    split at hb <;> split at hb'
    · rename_i e1 e2; exact absurd (e1.symm.trans e2) hne
    · rename_i e1 e2
      subst e1
      rw [hold b' y' hb', newI_same]
      obtain ⟨o', h1, _⟩ := H.get hb' hl
      have := heap_lt h1
      simp only; omega
    · rename_i e1 e2
      subst e2
      rw [hold b y hb, newI_same]
      have hlv : y.live = true := by cases y <;> simp_all [Blk.wr, Blk.live]
      obtain ⟨o', h1, _⟩ := H.get hb hlv
      have := heap_lt h1
      simp only; omega
    · rw [hold b y hb, hold b' y' hb']
      exact H.inj b b' y y' hb hb' hne hw hl

/-- A block of one's own is turned. -/
theorem HR.set (H : HR w0 O ι h w) {b : Nat} {x x' : Blk} {o : Obj} {w' : World} (hb : lookupB h.bl b = some x) (hw : x.wr = true) (ht : Turn w w' (ι b).blk o) (hx : BR ι h.nx x' (ι b) o) :
    HR w0 O ι ⟨h.nx, updL h.bl b x'⟩ w' := by
  have hlv : x.live = true := by cases x <;> simp_all [Blk.wr, Blk.live]
  have hs : (lookupB h.bl b).isSome = true := by rw [hb]; rfl
  have hb0 := H.blk b x hb
  refine ⟨ht.os.trans H.os, ht.tape.trans H.tape, ht.output.trans H.output, by rw [ht.size]; exact H.size, ?_, ?_, ?_⟩
  · intro k hk hO
    rw [ht.else_ k, H.old k hk hO]
    intro e
    rcases hb0.2.2 hw with h1 | h1
    · omega
    · exact hO (e ▸ h1)
  · intro c y hc
    simp only [lookup_updL hs] at hc
    split at hc
    · rename_i e
      cases hc; subst e
      exact ⟨hb0.1, fun _ => ⟨o, ht.at_, hx⟩, fun _ => hb0.2.2 hw⟩
    · rename_i e
      have hc' := H.blk c y hc
      refine ⟨hc'.1, fun hl => ?_, hc'.2.2⟩
      obtain ⟨o', h1, h2⟩ := hc'.2.1 hl
      exact ⟨o', by rw [ht.else_ _ (H.inj b c x y hb hc (fun h => e h.symm) hw hl).symm]; exact h1, h2⟩
  · intro c c' y y' hc hc' hne hwy hly
    simp only [lookup_updL hs] at hc hc'
    split at hc <;> split at hc'
    · rename_i e1 e2; exact absurd (e1.trans e2.symm) hne
    · rename_i e1 e2
      subst e1
      exact H.inj _ c' x y' hb hc' hne hw hly
    · rename_i e1 e2
      subst e2
      have hly' : y.live = true := by cases y <;> simp_all [Blk.wr, Blk.live]
      exact (H.inj _ c x y hb hc (fun h => e1 h.symm) hw hly').symm
    · exact H.inj c c' y y' hc hc' hne hwy hly

/-- A block is given up. -/
theorem HR.kill (H : HR w0 O ι h w) {b : Nat} (hs : (lookupB h.bl b).isSome = true) : HR w0 O ι ⟨h.nx, updL h.bl b .dead⟩ w := by
  refine ⟨H.os, H.tape, H.output, H.size, H.old, ?_, ?_⟩
  · intro c y hc
    simp only [lookup_updL hs] at hc
    split at hc
    · rename_i e
      cases hc; subst e
      obtain ⟨x, hx⟩ := Option.isSome_iff_exists.1 hs
      exact ⟨(H.blk _ x hx).1, fun hl => by simp [Blk.live] at hl, fun hw => by simp [Blk.wr] at hw⟩
    · exact H.blk c y hc
  · intro c c' y y' hc hc' hne hwy hly
    simp only [lookup_updL hs] at hc hc'
    split at hc
    · cases hc; simp [Blk.wr] at hwy
    · split at hc'
      · cases hc'; simp [Blk.live] at hly
      · exact H.inj c c' y y' hc hc' hne hwy hly

/-- A block of one's own is taken over under a new number, and turned (or not). -/
theorem HR.adopt (H : HR w0 O ι h w) {b : Nat} {x x' : Blk} {o : Obj} {w' : World} (hb : lookupB h.bl b = some x) (hw : x.wr = true) (ht : Turn w w' (ι b).blk o) (cap len : Nat)
    (hx : BR (newI ι h.nx ⟨(ι b).blk, cap, len⟩) (h.nx + 1) x' ⟨(ι b).blk, cap, len⟩ o) :
    HR w0 O (newI ι h.nx ⟨(ι b).blk, cap, len⟩) ⟨h.nx + 1, (h.nx, x') :: updL h.bl b .dead⟩ w' := by
  have hs : (lookupB h.bl b).isSome = true := by rw [hb]; rfl
  have hext := newI_ext ι h.nx ⟨(ι b).blk, cap, len⟩
  have hb0 := H.blk b x hb
  have hold : ∀ c y, lookupB h.bl c = some y → newI ι h.nx ⟨(ι b).blk, cap, len⟩ c = ι c := fun c y hc => hext c (H.blk c y hc).1
  have hlv : x.live = true := by cases x <;> simp_all [Blk.wr, Blk.live]
  refine ⟨ht.os.trans H.os, ht.tape.trans H.tape, ht.output.trans H.output, by rw [ht.size]; exact H.size, ?_, ?_, ?_⟩
  · intro k hk hO
    rw [ht.else_ k, H.old k hk hO]
    intro e
    rcases hb0.2.2 hw with h1 | h1
    · omega
    · exact hO (e ▸ h1)
  · intro c y hc
    simp only [lookupB] at hc
    split at hc
    · rename_i e
      cases hc; subst e
      exact ⟨by simp, fun _ => ⟨o, by simpa using ht.at_, by simpa using hx⟩, fun _ => by simpa using hb0.2.2 hw⟩
    · rename_i e
      rw [lookup_updL hs] at hc
      split at hc
      · rename_i e2
        cases hc; subst e2
        exact ⟨by simp; omega, fun hl => by simp [Blk.live] at hl, fun hw => by simp [Blk.wr] at hw⟩
      · rename_i e2
        have hc' := H.blk c y hc
        refine ⟨by simp; omega, fun hl => ?_, fun hwy => by rw [hold c y hc]; exact hc'.2.2 hwy⟩
        obtain ⟨o', h1, h2⟩ := hc'.2.1 hl
        refine ⟨o', ?_, ?_⟩
        · rw [hold c y hc, ht.else_ _ (H.inj b c x y hb hc (fun h => e2 h.symm) hw hl).symm]; exact h1
        · rw [hold c y hc]; exact h2.mono hext (Nat.le_succ _)
  · intro c c' y y' hc hc' hne hwy hly
    simp only [lookupB] at hc hc'
    have hup : ∀ d z, d ≠ h.nx → lookupB (updL h.bl b .dead) d = some z → z.live = true → d ≠ b ∧ lookupB h.bl d = some z := by
      intro d z _ hd hz
      rw [lookup_updL hs] at hd
      split at hd
      · cases hd; simp [Blk.live] at hz
      · exact ⟨‹_›, hd⟩
    split at hc <;> split at hc'
    · rename_i e1 e2; exact absurd (e1.symm.trans e2) hne
    · rename_i e1 e2
      subst e1
      obtain ⟨h1, h2⟩ := hup c' y' (fun e => e2 e.symm) hc' hly
      rw [hold c' y' h2, newI_same]
      exact H.inj b c' x y' hb h2 (fun e => h1 e.symm) hw hly
    · rename_i e1 e2
      subst e2
      have hly' : y.live = true := by cases y <;> simp_all [Blk.wr, Blk.live]
      obtain ⟨h1, h2⟩ := hup c y (fun e => e1 e.symm) hc hly'
      rw [hold c y h2, newI_same]
      exact (H.inj b c x y hb h2 (fun e => h1 e.symm) hw hly').symm
    · rename_i e1 e2
      have hly' : y.live = true := by cases y <;> simp_all [Blk.wr, Blk.live]
      obtain ⟨h1, h2⟩ := hup c y (fun e => e1 e.symm) hc hly'
      obtain ⟨h3, h4⟩ := hup c' y' (fun e => e2 e.symm) hc' hly
      rw [hold c y h2, hold c' y' h4]
      exact H.inj c c' y y' h2 h4 hne hwy hly
end
end Go.Am
