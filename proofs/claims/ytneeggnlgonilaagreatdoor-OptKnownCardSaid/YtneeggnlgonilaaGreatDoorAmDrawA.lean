/- A region that draws its order: what the abstract machine has found out of it. -/
import Derived.Test.YtneeggnlgonilaaGreatDoorAmFresh
namespace Go.Am
variable {C : Ctx} {E : Env}

theorem opKind_le (o : Oper) : opKind C o ≤ 2 := by
  unfold opKind
  split <;> (try split) <;> simp

structure Fact where
  tm : List (Nat × AV)
  ph : Nat
  run : Bool
  v : AV

structure StepOK (C : Ctx) (E : Env) (nt : Nat) (ops : Array Oper) (F : Nat → Fact) (H : Nat → Heap) (rF : List Rd) (k : Nat) (o : Oper) : Prop where
  want : WantA ops o (F k).tm (F k).run
  tm : ∀ d, lookupB (F (k + 1)).tm d = if o.dst = some d then some (F k).v else lookupB (F k).tm d
  dst : ∀ d, o.dst = some d → d < nt
  ph : (F (k + 1)).ph = (F k).ph + (if opKind C o = 2 then 1 else 0)
  skip : (F k).run = false → (F k).v = undefA ∧ H (F (k + 1)).ph = H (F k).ph
  quiet : (F k).run = true → opKind C o ≠ 2 → ∃ tm', LEq (F k).tm tm' ∧ opK C E o (rhoOf C tm') (H (F k).ph) (fun v _ => v = (F k).v) noKP ∧
    (opKind C o = 1 → (⟨k, o, tm', (F k).v, (F k).ph⟩ : Rd) ∈ rF)
  loud : (F k).run = true → opKind C o = 2 → ∃ tm', LEq (F k).tm tm' ∧ opK C E o (rhoOf C tm') (H (F k).ph) (fun v h' => v = (F k).v ∧ h' = H ((F k).ph + 1)) noKP

theorem StepOK.congr {nt : Nat} {ops : Array Oper} {F F' : Nat → Fact} {H H' : Nat → Heap} {rF : List Rd} {k : Nat} {o : Oper} (s : StepOK C E nt ops F H rF k o)
    (h0 : F' k = F k) (h1 : F' (k + 1) = F (k + 1)) (hH : ∀ s, (F k).ph ≤ s → H' s = H s) (hp : (F k).ph ≤ (F (k + 1)).ph) : StepOK C E nt ops F' H' rF k o := by
  refine ⟨by rw [h0]; exact s.want, by rw [h0, h1]; exact s.tm, s.dst, by rw [h0, h1]; exact s.ph, fun hr => ?_, fun hr hk => ?_, fun hr hk => ?_⟩
  · rw [h0] at hr ⊢
    rw [h1, hH _ hp, hH _ (Nat.le_refl _)]
    exact s.skip hr
  · rw [h0] at hr ⊢
    rw [hH _ (Nat.le_refl _)]
    exact s.quiet hr hk
  · rw [h0] at hr ⊢
    rw [hH _ (Nat.le_refl _), hH _ (Nat.le_succ _)]
    exact s.loud hr hk

theorem WantA.leq {ops : Array Oper} {o : Oper} {tm tm' : List (Nat × AV)} {b : Bool} (hl : LEq tm tm') (hw : WantA ops o tm b) : WantA ops o tm' b := by
  unfold WantA at *
  cases hg : o.guard with
  | none => simpa [hg] using hw
  | some p =>
    simp only [hg] at hw ⊢
    obtain ⟨d, v, h1, h2, h3⟩ := hw
    exact ⟨d, v, h1, by rw [hl d]; exact h2, h3⟩

theorem LEq.trans {a b c : List (Nat × AV)} (h : LEq a b) (h' : LEq b c) : LEq a c := fun d => (h' d).trans (h d)
theorem LEq.symm {a b : List (Nat × AV)} (h : LEq a b) : LEq b a := fun d => (h d).symm

def factAt (i : Nat) (f : Fact) (F : Nat → Fact) : Nat → Fact := fun k => if k = i then f else F k
theorem factAt_self (i : Nat) (f : Fact) (F : Nat → Fact) : factAt i f F i = f := by simp [factAt]
theorem factAt_ne {i k : Nat} (f : Fact) (F : Nat → Fact) (h : k ≠ i) : factAt i f F k = F k := by simp [factAt, h]

structure Traced (C : Ctx) (E : Env) (nt : Nat) (ops : Array Oper) (i : Nat) (tm : List (Nat × AV)) (h : Heap) (rds : List Rd) (hs : List Heap) (ph : Nat) (F : Nat → Fact) (H : Nat → Heap) (sF : RSt) : Prop where
  tm0 : LEq tm (F i).tm
  ph0 : (F i).ph = ph
  h0 : H ph = h
  tmF : LEq (F ops.size).tm sF.tm
  phF : (F ops.size).ph = sF.ph
  hF : H sF.ph = sF.h
  rds : ∀ r ∈ rds, r ∈ sF.rds
  phle : ph ≤ sF.ph
  mono : ∀ k, i ≤ k → ph ≤ (F k).ph ∨ ops.size < k
  hs0 : ∀ s, s ≤ ph → sF.hs.reverse[s]? = hs.reverse[s]?
  hs1 : ∀ s, ph < s → s ≤ sF.ph → sF.hs.reverse[s]? = some (H s)
  step : ∀ k o, i ≤ k → ops[k]? = some o → StepOK C E nt ops F H sF.rds k o

theorem opsK_tr (hE : ShE E) {nt : Nat} {ops : Array Oper} : ∀ (l : List Oper) (i : Nat) (tm : List (Nat × AV)) (h : Heap) (rds : List Rd) (hs : List Heap) (ph : Nat) (K : RSt → Prop),
    (∀ j, l[j]? = ops[i + j]?) → i + l.length = ops.size → hs.length = ph + 1 → opsK C E nt ops true l i ⟨tm, h, rds, hs, ph⟩ K (fun _ _ => False) →
    ∃ F H sF, K sF ∧ Traced C E nt ops i tm h rds hs ph F H sF
  | [], i, tm, h, rds, hs, ph, K, hl, hi, hhs, hk => by
    have hi' : ops.size = i := by simpa using hi.symm
    refine ⟨fun _ => ⟨tm, ph, true, undefA⟩, fun _ => h, _, hk, fun _ => rfl, rfl, rfl, fun _ => rfl, rfl, rfl, fun _ h => h, Nat.le_refl _, fun _ _ => .inl (Nat.le_refl _), fun _ _ => rfl, fun s h1 h2 => by
      have h2 : s ≤ ph := h2
      omega, fun k o hk ho => ?_⟩
    have := hl (k - i)
    rw [show i + (k - i) = k from by omega, ho] at this
    simp at this
  | o :: rest, i, tm, h, rds, hs, ph, K, hl, hi, hhs, hk => by
    have ho : ops[i]? = some o := by have := hl 0; simpa using this.symm
    have hl' : ∀ j, rest[j]? = ops[i + 1 + j]? := fun j => by have := hl (j + 1); rw [show i + 1 + j = i + (j + 1) from by omega]; simpa using this
    have hi' : i + 1 + rest.length = ops.size := by rw [← hi]; simp; omega
    -- how the facts of the rest are taken over, where the phase stays
    have stay : ∀ (tm1 tm' : List (Nat × AV)) (run : Bool) (v : AV) (rds' : List Rd), LEq tm tm1 → (∀ r ∈ rds, r ∈ rds') → (∀ d, lookupB tm' d = if o.dst = some d then some v else lookupB tm1 d) →
        (∀ F H rF, (∀ r ∈ rds', r ∈ rF) → (F i) = ⟨tm1, ph, run, v⟩ → (F (i + 1)).ph = ph → LEq tm' (F (i + 1)).tm → H ph = h → StepOK C E nt ops F H rF i o) →
        opsK C E nt ops true rest (i + 1) ⟨tm', h, rds', hs, ph⟩ K (fun _ _ => False) → ∃ F H sF, K sF ∧ Traced C E nt ops i tm h rds hs ph F H sF := by
      intro tm1 tm' run v rds' hle hrd htm hst hk
      obtain ⟨F, H, sF, hK, T⟩ := opsK_tr hE rest (i + 1) tm' h rds' hs ph K hl' hi' hhs hk
      have hne : ops.size ≠ i := by simp at hi; omega
      refine ⟨factAt i ⟨tm1, ph, run, v⟩ F, H, sF, hK, ⟨by rw [factAt_self]; exact hle, by rw [factAt_self], T.h0, by rw [factAt_ne _ _ hne]; exact T.tmF, by rw [factAt_ne _ _ hne]; exact T.phF, T.hF, fun r hr => T.rds r (hrd r hr), T.phle, ?_, T.hs0, T.hs1, ?_⟩⟩
      · intro k hk
        by_cases he : k = i
        · subst he; rw [factAt_self]; exact .inl (Nat.le_refl _)
        · rw [factAt_ne _ _ he]; exact T.mono k (by omega)
      · intro k o' hk ho'
        by_cases he : k = i
        · subst he
          rw [ho] at ho'; cases ho'
          refine hst _ _ _ T.rds (factAt_self _ _ _) ?_ ?_ T.h0
          · rw [factAt_ne _ _ (by omega)]; exact T.ph0
          · rw [factAt_ne _ _ (by omega)]; exact T.tm0
        · have hs := T.step k o' (by omega) ho'
          refine hs.congr (factAt_ne _ _ he) (factAt_ne _ _ (by omega)) (fun _ _ => rfl) (by rw [hs.ph]; omega)
    -- and where a new phase begins
    have go : ∀ (tm1 tm' : List (Nat × AV)) (run : Bool) (v : AV) (h' : Heap), LEq tm tm1 → (∀ d, lookupB tm' d = if o.dst = some d then some v else lookupB tm1 d) →
        (∀ F H rF, (F i) = ⟨tm1, ph, run, v⟩ → (F (i + 1)).ph = ph + 1 → LEq tm' (F (i + 1)).tm → H ph = h → H (ph + 1) = h' → StepOK C E nt ops F H rF i o) →
        opsK C E nt ops true rest (i + 1) ⟨tm', h', rds, h' :: hs, ph + 1⟩ K (fun _ _ => False) → ∃ F H sF, K sF ∧ Traced C E nt ops i tm h rds hs ph F H sF := by
      intro tm1 tm' run v h' hle htm hst hk
      obtain ⟨F, H, sF, hK, T⟩ := opsK_tr hE rest (i + 1) tm' h' rds (h' :: hs) (ph + 1) K hl' hi' (by simp [hhs]) hk
      have hne : ops.size ≠ i := by simp at hi; omega
      have hple := T.phle
      refine ⟨factAt i ⟨tm1, ph, run, v⟩ F, fun s => if s = ph then h else H s, sF, hK, ⟨by rw [factAt_self]; exact hle, by rw [factAt_self], by simp, by rw [factAt_ne _ _ hne]; exact T.tmF, by rw [factAt_ne _ _ hne]; exact T.phF, ?_, T.rds, by omega, ?_, ?_, ?_, ?_⟩⟩
      · show (if sF.ph = ph then h else H sF.ph) = sF.h
        rw [if_neg (by omega)]; exact T.hF
      · intro k hk
        by_cases he : k = i
        · subst he; rw [factAt_self]; exact .inl (Nat.le_refl _)
        · rw [factAt_ne _ _ he]; exact (T.mono k (by omega)).imp (fun h => by omega) id
      · intro s hs'
        rw [T.hs0 s (by omega)]
        simp only [List.reverse_cons]
        rw [List.getElem?_append_left (by simp [hhs]; omega)]
      · intro s h1 h2
        show sF.hs.reverse[s]? = some (if s = ph then h else H s)
        rw [if_neg (by omega)]
        by_cases he : s = ph + 1
        · subst he
          rw [T.hs0 _ (Nat.le_refl _), T.h0]
          simp only [List.reverse_cons]
          rw [List.getElem?_append_right (by simp [hhs])]
          simp [hhs]
        · exact T.hs1 s (by omega) h2
      · intro k o' hk ho'
        by_cases he : k = i
        · subst he
          rw [ho] at ho'; cases ho'
          refine hst _ _ _ (factAt_self _ _ _) ?_ ?_ (by simp) ?_
          · rw [factAt_ne _ _ (by omega)]; exact T.ph0
          · rw [factAt_ne _ _ (by omega)]; exact T.tm0
          · show (if ph + 1 = ph then h else H (ph + 1)) = h'
            rw [if_neg (by omega)]; exact T.h0
        · have hs := T.step k o' (by omega) ho'
          have hlt : k < ops.size := by
            rcases Nat.lt_or_ge k ops.size with h | h
            · exact h
            · simp [Array.getElem?_eq_none h] at ho'
          have hm := (T.mono k (by omega)).resolve_right (by omega)
          refine hs.congr (factAt_ne _ _ he) (factAt_ne _ _ (by omega)) (fun s hs => ?_) (by rw [hs.ph]; omega)
          show (if s = ph then h else H s) = H s
          rw [if_neg (by omega)]
    simp only [opsK] at hk
    obtain ⟨tm', hle, hk⟩ := guardK_elim hk
    rcases hk with ⟨hw, hk⟩ | ⟨hw, hk⟩
    · have hsh := sh_opK (C := C) (h := h) hE o (ρ := rhoOf C tm') (fun x => sh_rho tm' x)
      obtain ⟨v, h', hk, hop⟩ := hsh _ hk
      obtain ⟨tm2, hk, hlk, hdst, _⟩ := putTm_elim (n := 0) hk
      have hkind := opKind_le (C := C) o
      have key : opKind C o ≠ 2 → ∀ rds', (∀ r ∈ rds, r ∈ rds') → (opKind C o = 1 → (⟨i, o, tm', v, ph⟩ : Rd) ∈ rds') →
          opsK C E nt ops true rest (i + 1) ⟨tm2, h, rds', hs, ph⟩ K (fun _ _ => False) → ∃ F H sF, K sF ∧ Traced C E nt ops i tm h rds hs ph F H sF := by
        intro hne rds' hrd h1 hk
        refine stay tm tm2 true v rds' (fun _ => rfl) hrd (fun d => by rw [hlk d, hle d]) ?_ hk
        intro F H rF hrF hFi hFp hFt hH
        refine ⟨by rw [hFi]; exact hw, fun d => by rw [hFi, hFt d, hlk d, hle d], hdst, by rw [hFp, hFi, if_neg hne]; rfl, fun hr => by rw [hFi] at hr; simp at hr, fun _ _ => ?_, fun _ h2 => absurd h2 hne⟩
        rw [hFi]
        exact ⟨tm', hle, by rw [hH]; exact hop _ rfl, fun hk1 => hrF _ (h1 hk1)⟩
      have h3 : opKind C o = 0 ∨ opKind C o = 1 ∨ opKind C o = 2 := by omega
      rcases h3 with h2 | h2 | h2
      · simp only [h2] at hk
        exact key (by omega) rds (fun _ h => h) (fun h => by omega) hk
      · simp only [h2] at hk
        exact key (by omega) _ (fun r hr => List.mem_cons_of_mem _ hr) (fun _ => List.mem_cons_self) hk
      · simp only [h2] at hk
        refine go tm tm2 true v h' (fun _ => rfl) (fun d => by rw [hlk d, hle d]) ?_ hk
        intro F H rF hFi hFp hFt hH hH1
        refine ⟨by rw [hFi]; exact hw, fun d => by rw [hFi, hFt d, hlk d, hle d], hdst, by rw [hFp, hFi, if_pos h2], fun hr => by rw [hFi] at hr; simp at hr, fun _ h => absurd h2 h, fun _ _ => ?_⟩
        rw [hFi]
        exact ⟨tm', hle, by rw [hH, hH1]; exact hop _ ⟨rfl, rfl⟩⟩
    · obtain ⟨tm2, hk, hlk, hdst, _⟩ := putTm_elim (n := 0) hk
      have hkind := opKind_le (C := C) o
      have key : opKind C o ≠ 2 → opsK C E nt ops true rest (i + 1) ⟨tm2, h, rds, hs, ph⟩ K (fun _ _ => False) → ∃ F H sF, K sF ∧ Traced C E nt ops i tm h rds hs ph F H sF := by
        intro hne hk
        refine stay tm tm2 false undefA rds (fun _ => rfl) (fun _ h => h) (fun d => by rw [hlk d, hle d]) ?_ hk
        intro F H rF hrF hFi hFp hFt hH
        exact ⟨by rw [hFi]; exact hw, fun d => by rw [hFi, hFt d, hlk d, hle d], hdst, by rw [hFp, hFi, if_neg hne]; rfl, fun _ => by rw [hFi, hFp]; exact ⟨rfl, rfl⟩, fun hr => by rw [hFi] at hr; simp at hr, fun hr => by rw [hFi] at hr; simp at hr⟩
      have h3 : opKind C o = 0 ∨ opKind C o = 1 ∨ opKind C o = 2 := by omega
      rcases h3 with h2 | h2 | h2
      · simp only [h2] at hk
        exact key (by omega) hk
      · simp only [h2] at hk
        exact key (by omega) hk
      · simp only [h2] at hk
        refine go tm tm2 false undefA h (fun _ => rfl) (fun d => by rw [hlk d, hle d]) ?_ hk
        intro F H rF hFi hFp hFt hH hH1
        exact ⟨by rw [hFi]; exact hw, fun d => by rw [hFi, hFt d, hlk d, hle d], hdst, by rw [hFp, hFi, if_pos h2], fun _ => by rw [hFi, hFp]; exact ⟨rfl, by rw [hH, hH1]⟩, fun hr => by rw [hFi] at hr; simp at hr, fun hr => by rw [hFi] at hr; simp at hr⟩

mutual
theorem avEq_sound : ∀ (a b : AV), avEq a b = true → a = b
  | .bool a, b, h => by cases b <;> simp_all [avEq]
  | .int k a, b, h => by cases b <;> simp_all [avEq]
  | .str a, b, h => by
    cases b <;> simp_all [avEq]
    rename_i b
    obtain ⟨⟨a⟩⟩ := a
    obtain ⟨⟨b⟩⟩ := b
    simp at h
    rw [h]
  | .nilp, b, h => by cases b <;> simp_all [avEq]
  | .ptr .., b, h => by cases b <;> simp_all [avEq]
  | .nils, b, h => by cases b <;> simp_all [avEq]
  | .emp, b, h => by cases b <;> simp_all [avEq]
  | .slc .., b, h => by cases b <;> simp_all [avEq]
  | .mapn, b, h => by cases b <;> simp_all [avEq]
  | .mapr .., b, h => by cases b <;> simp_all [avEq]
  | .func fn a c, b, h => by
    cases b <;> try (cases fn <;> simp_all [avEq]; done)
    rename_i fn' a' c'
    cases fn <;> cases fn' <;> simp only [avEq, Bool.and_eq_true] at h <;> try (cases h; done)
    obtain ⟨⟨h1, h2⟩, h3⟩ := h
    rw [avEqs_sound _ _ h2, avEqs_sound _ _ h3, Nat.eq_of_beq_eq_true h1]
  | .nilf, b, h => by cases b <;> simp_all [avEq]
  | .iface t v, b, h => by
    cases b <;> try (simp_all [avEq]; done)
    simp only [avEq, Bool.and_eq_true] at h
    rw [avEq_sound _ _ h.2, Nat.eq_of_beq_eq_true h.1]
  | .nili, b, h => by cases b <;> simp_all [avEq]
  | .agg a, b, h => by
    cases b <;> try (simp_all [avEq]; done)
    simp only [avEq] at h
    rw [avEqs_sound _ _ h]
  | .tup a, b, h => by
    cases b <;> try (simp_all [avEq]; done)
    simp only [avEq] at h
    rw [avEqs_sound _ _ h]
theorem avEqs_sound : ∀ (a b : List AV), avEqs a b = true → a = b
  | [], b, h => by cases b <;> simp_all [avEqs]
  | x :: xs, b, h => by
    cases b with
    | nil => simp [avEqs] at h
    | cons y ys =>
      simp only [avEqs, Bool.and_eq_true] at h
      rw [avEq_sound _ _ h.1, avEqs_sound _ _ h.2]
end

theorem eqTest_iff {a b : AV} {X : Prop} (h : eqTest C a b X) : a = b ∧ X := by
  unfold eqTest at h
  cases hc : C.closed with
  | false => simpa [hc] using h
  | true =>
    simp only [hc] at h
    cases hb : avEq a b with
    | true => rw [hb] at h; exact ⟨avEq_sound _ _ hb, h⟩
    | false => rw [hb] at h; exact h.elim

theorem Rd.run_elim (hE : ShE E) {r : Rd} {h : Heap} {X : Prop} (hk : r.run C E h X) : r.chk C E h ∧ X := by
  obtain ⟨j, o, tm, v0, ph⟩ := r
  have hsh := sh_opK (C := C) (h := h) hE o (ρ := rhoOf C tm) (fun x => sh_rho tm x)
  obtain ⟨v, h', h1, h2⟩ := hsh (fun v' _ => eqTest C v' v0 X) hk
  obtain ⟨h3, h4⟩ := eqTest_iff h1
  exact ⟨h2 _ h3, h4⟩

theorem stabPh_elim (hE : ShE E) {r : Rd} {lo hi : Nat} : ∀ {s : Nat} {hs : List Heap} {X : Prop}, stabPh C E r lo hi s hs X → X ∧ ∀ (k : Nat) h, hs[k]? = some h → lo ≤ s + k → s + k ≤ hi → s + k ≠ r.ph → r.chk C E h
  | s, [], X, hk => ⟨hk, fun k h hh => by simp at hh⟩
  | s, h :: hs, X, hk => by
    simp only [stabPh] at hk
    cases hb : (Nat.ble lo s && Nat.ble s hi && !(Nat.beq s r.ph)) with
    | true =>
      rw [hb, cond_true] at hk
      have hk := Rd.run_elim hE hk
      obtain ⟨hX, ih⟩ := stabPh_elim hE hk.2
      refine ⟨hX, fun k h' hh h1 h2 h3 => ?_⟩
      cases k with
      | zero => simp at hh; subst hh; exact hk.1
      | succ k => exact ih k h' (by simpa using hh) (by omega) (by omega) (by omega)
    | false =>
      rw [hb, cond_false] at hk
      obtain ⟨hX, ih⟩ := stabPh_elim hE hk
      refine ⟨hX, fun k h' hh h1 h2 h3 => ?_⟩
      cases k with
      | zero =>
        exfalso
        have e1 : Nat.ble lo s = true := Nat.ble_eq ▸ (by omega : lo ≤ s)
        have e2 : Nat.ble s hi = true := Nat.ble_eq ▸ (by omega : s ≤ hi)
        have e3 : Nat.beq s r.ph = false := by
          cases he : Nat.beq s r.ph with
          | false => rfl
          | true => exact absurd (Nat.eq_of_beq_eq_true he) (by omega)
        simp [e1, e2, e3] at hb
      | succ k => exact ih k h' (by simpa using hh) (by omega) (by omega) (by omega)

theorem stabK_elim (hE : ShE E) {bf : Array Nat} {loud : List Nat} {hs : List Heap} : ∀ {rds : List Rd} {X : Prop}, stabK C E bf loud hs rds X → X ∧ ∀ r ∈ rds, ∀ (k : Nat) h, hs[k]? = some h →
    (loud.filter fun l => (bf.getD r.j 0).testBit l).length ≤ k → k ≤ (loud.filter fun l => !(bf.getD l 0).testBit r.j).length → k ≠ r.ph → r.chk C E h
  | [], X, hk => ⟨hk, fun r hr => by simp at hr⟩
  | r :: rds, X, hk => by
    simp only [stabK] at hk
    obtain ⟨hk, h1⟩ := stabPh_elim hE hk
    obtain ⟨hX, h2⟩ := stabK_elim hE hk
    refine ⟨hX, fun r' hr' k h hh a1 a2 a3 => ?_⟩
    rcases List.mem_cons.1 hr' with rfl | hr'
    · exact h1 k h hh (by simpa using a1) (by simpa using a2) (by simpa using a3)
    · exact h2 r' hr' k h hh a1 a2 a3
end Go.Am
