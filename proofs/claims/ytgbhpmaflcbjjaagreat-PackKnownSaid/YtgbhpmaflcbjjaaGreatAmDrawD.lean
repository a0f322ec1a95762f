/- A region that draws its order: whatever order comes up. -/
import Derived.Test.YtgbhpmaflcbjjaaGreatAmDrawC
namespace Go.Am
variable {C : Ctx} {E : Env} {w0 : World} {O : Nat → Prop}

def listedS (listed : Array Bool) : Nat → Bool := fun k => listed.getD k false

structure DInv (C : Ctx) (w0 : World) (O : Nat → Prop) (ops : Array Oper) (F : Nat → Fact) (H : Nat → Heap) (tm : List (Nat × AV)) (nt : Nat) (ι0 : Inj) (n0 : Nat) (df : List Deferred) (listed : Array Bool) (a : Act) (w : World) : Prop where
  size : listed.size = ops.size
  down : Down ops (listedS listed)
  mem : ∃ ι, Ext ι0 ι n0 ∧ n0 ≤ (H (cnt C ops (listedS listed))).nx ∧ HR w0 O ι (H (cnt C ops (listedS listed))) w ∧
    ∀ d v, vals ops F tm (listedS listed) ops.size d = some v → ∃ cv, a.tmps[d]? = some cv ∧ VR ι (H (cnt C ops (listedS listed))).nx v cv
  tmps : a.tmps.size = nt
  defers : a.defers = df

theorem listedS_set {listed : Array Bool} {i : Nat} (hi : i < listed.size) : listedS (listed.setIfInBounds i true) = also (listedS listed) i := by
  funext k
  simp only [listedS, also, Array.getD_eq_getD_getElem?, Array.getElem?_setIfInBounds]
  by_cases h : i = k
  · subst h; simp [hi]
  · have : (k == i) = false := by simpa using fun e => h e.symm
    simp [h, this]

theorem unlisted_set {n : Nat} {S : Nat → Bool} {i : Nat} (hi : S i = false) (hlt : i < n) : ((List.range n).filter fun k => !S k).length = ((List.range n).filter fun k => !also S i k).length + 1 := by
  have : ∀ m, ((List.range m).filter fun k => !S k).length = ((List.range m).filter fun k => !also S i k).length + (if i < m then 1 else 0) := by
    intro m
    induction m with
    | zero => simp
    | succ m ih =>
      rw [List.range_succ, List.filter_append, List.filter_append, List.length_append, List.length_append, ih]
      by_cases hm : m = i
      · subst hm
        simp [also, hi]
      · have hb : (m == i) = false := by simpa using hm
        have e : ([m].filter fun k => !also S i k).length = ([m].filter fun k => !S k).length := by simp only [List.filter_cons, List.filter_nil, also, hb, Bool.or_false]
        rw [e]
        by_cases h1 : i < m
        · rw [if_pos h1, if_pos (by omega)]; omega
        · rw [if_neg h1, if_neg (by omega)]; omega
  rw [this n, if_pos hlt]

theorem ready_mem {ops : Array Oper} {listed : Array Bool} {i : Nat} (h : i ∈ Region.ready .any ops listed) (hs : listed.size = ops.size) :
    ∃ o, ops[i]? = some o ∧ i < ops.size ∧ listedS listed i = false ∧ ∀ e ∈ o.after.toList, Region.binds .any e = true → listedS listed e.on = true := by
  unfold Region.ready at h
  simp only [List.mem_filter, List.mem_range, Bool.and_eq_true, Bool.not_eq_true'] at h
  obtain ⟨hlt, h1, h2⟩ := h
  have ho : ops[i]? = some ops[i] := Array.getElem?_eq_getElem hlt
  refine ⟨ops[i], ho, hlt, ?_, fun e he hb => ?_⟩
  · simp only [listedS, Array.getD_eq_getD_getElem?, Array.getElem?_eq_getElem (show i < listed.size from by omega)] at h1 ⊢
    simpa using h1
  · simp only [ho, Option.map_some, Option.getD_some] at h2
    rw [← Array.all_toList] at h2
    have := List.all_eq_true.1 h2 e he
    simp only [hb, Bool.not_true, Bool.false_or] at this
    exact this

theorem ready_some {ops : Array Oper} {listed : Array Bool} (R : DrawR C ops) (hs : listed.size = ops.size) (hr : Region.ready .any ops listed = []) : ∀ n k, k < n → k < ops.size → listedS listed k = true
  | 0, k, hk, _ => by omega
  | n + 1, k, hk, hlt => by
    by_cases hS : listedS listed k = true
    · exact hS
    · exfalso
      have ho : ops[k]? = some ops[k] := Array.getElem?_eq_getElem hlt
      have : k ∈ Region.ready .any ops listed := by
        unfold Region.ready
        simp only [List.mem_filter, List.mem_range, Bool.and_eq_true, Bool.not_eq_true']
        refine ⟨hlt, ?_, ?_⟩
        · simp only [listedS, Array.getD_eq_getD_getElem?, Array.getElem?_eq_getElem (show k < listed.size from by omega)] at hS ⊢
          simpa using hS
        · simp only [ho, Option.map_some, Option.getD_some]
          rw [← Array.all_toList, List.all_eq_true]
          intro e he
          cases hb : Region.binds .any e with
          | false => rfl
          | true =>
            have hlt' := R.edge k _ ho e he hb
            have := ready_some R hs hr n e.on (by omega) (by omega)
            simpa [listedS] using this
      rw [hr] at this
      simp at this

theorem draw_sound (hE : EnvOK C E) {nt : Nat} {ops : Array Oper} {F : Nat → Fact} {H : Nat → Heap} {sF : RSt} {tm : List (Nat × AV)} {h : Heap} {r : Option Nat} {Q : Exit → Act → World → Prop} {ι0 : Inj} {df : List Deferred}
    (R : DrawR C ops) (T : Traced C E nt ops 0 tm h [] [h] 0 F H sF)
    (hst : ∀ rd ∈ sF.rds, ∀ (k : Nat) hp, sF.hs.reverse[k]? = some hp → ((loudOf C ops).filter fun l => ((Region.before ops).getD rd.j 0).testBit l).length ≤ k → k ≤ ((loudOf C ops).filter fun l => !((Region.before ops).getD l 0).testBit rd.j).length → k ≠ rd.ph → rd.chk C E hp)
    (G : GlobOK C ι0 h.nx)
    (hQ : ∀ ι' a' w', Ext ι0 ι' h.nx → h.nx ≤ sF.h.nx → HR w0 O ι' sF.h w' → TR ι' sF.h.nx sF.tm nt a'.tmps → a'.defers = df → Q .normal a' w') :
    ∀ (fuel : Nat) (listed : Array Bool) (a : Act) (w : World), DInv C w0 O ops F H tm nt ι0 h.nx df listed a w → ((List.range ops.size).filter fun k => !listedS listed k).length = fuel →
      wpAnyIn (Fw r) 0 C.P .any ops Q fuel listed a w := by
  have fin : ∀ (listed : Array Bool) (a : Act) (w : World), DInv C w0 O ops F H tm nt ι0 h.nx df listed a w → (∀ k, k < ops.size → listedS listed k = true) → Q .normal a w := by
    intro listed a w I hall
    obtain ⟨ι, he, hn, hr, hv⟩ := I.mem
    have hlt : ∀ {k : Nat} {d : Nat}, dstOf ops k = some d → k < ops.size := fun {k d} hd => by
      rcases Nat.lt_or_ge k ops.size with h | h
      · exact h
      · simp [dstOf, Array.getElem?_eq_none h] at hd
    have hc : cnt C ops (listedS listed) = sF.ph := by
      rw [cnt_eq, cnt_at T.ph0 (fun k o ho => T.step k o (Nat.zero_le _) ho) (i := ops.size) (fun k hk => ?_) ops.size (Nat.le_refl _), Nat.min_self, T.phF]
      have : k < ops.size := by
        rcases Nat.lt_or_ge k ops.size with h | h
        · exact h
        · simp [loudB, Array.getElem?_eq_none h] at hk
      simp [hall k this, this]
    rw [hc, T.hF] at hn hr hv
    refine hQ ι a w he hn hr ⟨I.tmps, fun d v hd => ?_⟩ I.defers
    refine hv d v ?_
    rw [vals_at T.tm0 (fun k o ho => T.step k o (Nat.zero_le _) ho) (i := ops.size) (fun k hk => by simp [hall k (hlt hk), hlt hk]) ops.size (Nat.le_refl _), Nat.min_self, ← T.tmF d]
    exact hd
  intro fuel
  induction fuel with
  | zero =>
    intro listed a w I hf
    have hall : ∀ k, k < ops.size → listedS listed k = true := fun k hk => by
      have := List.filter_eq_nil_iff.1 (List.length_eq_zero_iff.1 hf) k (List.mem_range.2 hk)
      simpa using this
    refine ⟨?_, fin listed a w I hall⟩
    cases hr : Region.ready .any ops listed with
    | nil => rfl
    | cons i rs =>
      obtain ⟨o, _, hlt, hS, _⟩ := ready_mem (i := i) (by rw [hr]; simp) I.size
      rw [hall i hlt] at hS; cases hS
  | succ fuel ih =>
    intro listed a w I hf
    refine ⟨fun hr => ?_, fun i hi => ?_⟩
    · exact fin listed a w I fun k hk => ready_some R I.size hr _ k (Nat.lt_succ_self _) hk
    · obtain ⟨o, ho, hlt, hS, hready⟩ := ready_mem hi I.size
      have st := T.step i o (Nat.zero_le _) ho
      obtain ⟨ι, he, hn, hr, hv⟩ := I.mem
      have hb : ∀ j, ((Region.before ops).getD i 0).testBit j = true → listedS listed j = true := fun j hj => ready_before R I.down ho hready hj
      have hb' : ∀ j, ((Region.before ops).getD j 0).testBit i = true → listedS listed j = false := fun j hj => by
        cases hs : listedS listed j with
        | false => rfl
        | true => rw [down_before R I.down _ j (Nat.lt_succ_self _) hs i hj] at hS; cases hS
      have hname : ∀ d ∈ guardTmp ops o ++ (o.dst.toList ++ namesOf o), ∀ k, dstOf ops k = some d → (listedS listed k = true ↔ k < i) := by
        intro d hd k hk
        have hk' : ∃ o', ops[k]? = some o' ∧ o'.dst = some d := by
          unfold dstOf at hk
          cases ho' : ops[k]? with
          | none => simp [ho'] at hk
          | some o' => exact ⟨o', rfl, by simpa [ho'] using hk⟩
        obtain ⟨o', ho', hd'⟩ := hk'
        by_cases hki : k = i
        · subst hki; simp [hS]
        · have := R.tmp i o k o' d ho ho' hd' hki hd
          split at this
          · rename_i hlt'; simp [hb k this, hlt']
          · rename_i hlt'; simp [hb' k this, hlt']
      have hval : ∀ d ∈ guardTmp ops o ++ (o.dst.toList ++ namesOf o), vals ops F tm (listedS listed) ops.size d = lookupB (F i).tm d := by
        intro d hd
        rw [vals_at T.tm0 (fun k o ho => T.step k o (Nat.zero_le _) ho) (hname d hd) ops.size (Nat.le_refl _), Nat.min_eq_right (by omega)]
      have hG : GlobOK C ι (H (cnt C ops (listedS listed))).nx := G.mono he hn
      have htm : ∀ d ∈ guardTmp ops o ++ (o.dst.toList ++ namesOf o), ∀ v, lookupB (F i).tm d = some v → ∃ cv, a.tmps[d]? = some cv ∧ VR ι (H (cnt C ops (listedS listed))).nx v cv := fun d hd v hl => hv d v (by rw [hval d hd]; exact hl)
      have hρ : ∀ tm', LEq (F i).tm tm' → ∀ x ∈ o.op.operands, RhoR ι (H (cnt C ops (listedS listed))).nx (rhoOf C tm') a.eval x := by
        intro tm' hle x hx k hk
        cases x with
        | tmp t =>
          simp only [rhoOf, getK_iff] at hk
          obtain ⟨v, hl, hk⟩ := hk
          obtain ⟨cv, h1, h2⟩ := htm t (by
            simp only [List.mem_append]
            refine .inr (.inr ?_)
            simp only [namesOf, List.mem_filterMap]
            exact ⟨.tmp t, by simpa using hx, rfl⟩) v (by rw [← hle t]; exact hl)
          exact ⟨v, hk, by simpa [Act.eval, Array.getD_eq_getD_getElem?, h1] using h2⟩
        | const c => exact rho_ok (tm := []) (nt := a.tmps.size) ⟨rfl, fun i v h => by simp [lookupB] at h⟩ hG (.const c) k hk
        | global g => exact rho_ok (tm := []) (nt := a.tmps.size) ⟨rfl, fun i v h => by simp [lookupB] at h⟩ hG (.global g) k hk
        | func f => exact rho_ok (tm := []) (nt := a.tmps.size) ⟨rfl, fun i v h => by simp [lookupB] at h⟩ hG (.func f) k hk
      have hwant : Region.wanted o (yielded ops a.tmps) = (F i).run := wanted_ofR st.want fun d hd v hl => htm d (by simp [hd]) v hl
      have hSet := listedS_set (listed := listed) (i := i) (by rw [I.size]; exact hlt)
      have hfuel : ((List.range ops.size).filter fun k => !listedS (listed.setIfInBounds i true) k).length = fuel := by
        rw [hSet]
        have := unlisted_set hS hlt
        omega
      have hdown : Down ops (listedS (listed.setIfInBounds i true)) := by
        rw [hSet]
        intro k o' hk ho' e he' hb''
        simp only [also, Bool.or_eq_true, beq_iff_eq] at hk ⊢
        rcases hk with hk | hk
        · exact .inl (I.down k o' hk ho' e he' hb'')
        · subst hk; rw [ho] at ho'; cases ho'
          exact .inl (hready e he' hb'')
      have hcnt := cnt_also (C := C) hS hlt
      have hlast : ∀ d, dstOf ops i = some d → ∀ k, i < k → dstOf ops k = some d → listedS listed k = false := fun d hd k hik hk => by
        have hd' : d ∈ guardTmp ops o ++ (o.dst.toList ++ namesOf o) := by
          have : o.dst = some d := by simpa [dstOf, ho] using hd
          simp [this]
        cases hs : listedS listed k with
        | false => rfl
        | true => exact absurd ((hname d hd' k hk).1 hs) (by omega)
      have hvals : ∀ d, vals ops F tm (listedS (listed.setIfInBounds i true)) ops.size d = if o.dst = some d then some (F i).v else vals ops F tm (listedS listed) ops.size d := by
        intro d
        rw [hSet, vals_also hS (hlast d)]
        have : dstOf ops i = o.dst := by simp [dstOf, ho]
        rw [this]
        simp [hlt]
      -- the next state
      have next : ∀ (ι' : Inj) (cv : Value) (w' : World), Ext ι ι' (H (cnt C ops (listedS listed))).nx → (H (cnt C ops (listedS listed))).nx ≤ (H (cnt C ops (listedS (listed.setIfInBounds i true)))).nx →
          HR w0 O ι' (H (cnt C ops (listedS (listed.setIfInBounds i true)))) w' → VR ι' (H (cnt C ops (listedS (listed.setIfInBounds i true)))).nx (F i).v cv →
          wpAnyIn (Fw r) 0 C.P .any ops Q fuel (listed.setIfInBounds i true) (a.put o.dst cv) w' := by
        intro ι' cv w' he' hn' hr' hvr
        refine ih _ _ _ ⟨by simp [I.size], hdown, ⟨ι', he.trans he' hn, Nat.le_trans hn hn', hr', ?_⟩, ?_, by rw [put_defers, I.defers]⟩ hfuel
        · intro d v hd
          rw [hvals d] at hd
          split at hd
          · rename_i hdst
            cases hd
            refine ⟨cv, ?_, hvr⟩
            have hdlt := st.dst d hdst
            simp [Act.put, hdst, I.tmps, hdlt]
          · rename_i hdst
            obtain ⟨c, h1, h2⟩ := hv d v hd
            refine ⟨c, ?_, h2.mono he' hn'⟩
            cases hdo : o.dst with
            | none => simpa [Act.put] using h1
            | some d' =>
              have : d' ≠ d := fun e => hdst (by rw [hdo, e])
              simp only [Act.put, Array.getElem?_setIfInBounds, if_neg this]
              exact h1
        · cases hdo : o.dst <;> simp [Act.put, I.tmps]
      have hphase : opKind C o = 2 → cnt C ops (listedS listed) = (F i).ph := by
        intro h2
        rw [cnt_eq, cnt_at T.ph0 (fun k o ho => T.step k o (Nat.zero_le _) ho) (i := i) (fun k hk => ?_) ops.size (Nat.le_refl _), Nat.min_eq_right (by omega)]
        have hkl : k < ops.size := by
          rcases Nat.lt_or_ge k ops.size with h | h
          · exact h
          · simp [loudB, Array.getElem?_eq_none h] at hk
        have hko : ops[k]? = some ops[k] := Array.getElem?_eq_getElem hkl
        have hk2 := (loudB_iff hko).1 hk
        rcases Nat.lt_trichotomy k i with h | h | h
        · simp [hb k (R.loud k i _ _ hko ho hk2 h2 h), h]
        · subst h; simp [hS]
        · simp [hb' k (R.loud i k _ _ ho hko h2 hk2 h)]; omega
      have hLB : loudB C ops i = true ↔ opKind C o = 2 := loudB_iff ho
      -- what the count of the next state is
      have hc2 : opKind C o = 2 → cnt C ops (listedS (listed.setIfInBounds i true)) = (F i).ph + 1 := fun h2 => by
        rw [hSet, hcnt, if_pos (hLB.2 h2), hphase h2]
      have hc1 : opKind C o ≠ 2 → cnt C ops (listedS (listed.setIfInBounds i true)) = cnt C ops (listedS listed) := fun h2 => by
        rw [hSet, hcnt, if_neg (fun h => h2 (hLB.1 h))]; rfl
      unfold wpOpIn
      simp only [ho, hwant]
      cases hrun : (F i).run with
      | false =>
        simp only [Bool.false_eq_true, if_false]
        refine ⟨fun _ _ => trivial, ?_⟩
        obtain ⟨hvu, hhp⟩ := st.skip hrun
        have hh : H (cnt C ops (listedS (listed.setIfInBounds i true))) = H (cnt C ops (listedS listed)) := by
          by_cases h2 : opKind C o = 2
          · rw [hc2 h2, hphase h2, ← hhp, st.ph, if_pos h2]
          · rw [hc1 h2]
        refine next ι undef w (Ext.refl _ _) (by rw [hh]; exact Nat.le_refl _) (by rw [hh]; exact hr) ?_
        rw [hvu]
        exact ⟨#[], rfl, rfl⟩
      | true =>
        simp only [if_true]
        by_cases h2 : opKind C o = 2
        · obtain ⟨tm', hle, hk⟩ := st.loud hrun h2
          rw [← hphase h2] at hk
          refine op_wpInR hE hk hr (hρ tm' hle) hG ?_ (fun cv w' hd => by obtain ⟨_, _, _, hf, _⟩ := hd; exact hf.elim)
          rintro cv w' ⟨ι', h', v, ⟨rfl, rfl⟩, he', hn', hr', hvr⟩
          have e : H (cnt C ops (listedS (listed.setIfInBounds i true))) = H (cnt C ops (listedS listed) + 1) := by rw [hc2 h2, hphase h2]
          exact next ι' cv w' he' (by rw [e]; exact hn') (by rw [e]; exact hr') (by rw [e]; exact hvr)
        · obtain ⟨tm', hle, hk, hrd⟩ := st.quiet hrun h2
          have hk' : opK C E o (rhoOf C tm') (H (cnt C ops (listedS listed))) (fun v _ => v = (F i).v) noKP := by
            have hle2 := opKind_le (C := C) o
            by_cases hk0 : opKind C o = 0
            · exact opK_quiet hk0 hk
            · have hk1 : opKind C o = 1 := by omega
              by_cases hp : cnt C ops (listedS listed) = (F i).ph
              · rw [hp]; exact hk
              · have hin := hst _ (hrd hk1) (cnt C ops (listedS listed)) (H (cnt C ops (listedS listed))) ?_ ?_ ?_ hp
                · exact hin
                · have hcF : cnt C ops (listedS listed) ≤ sF.ph := by
                    have hall : cnt C ops (fun _ => true) = sF.ph := by
                      rw [cnt_eq, cnt_at T.ph0 (fun k o ho => T.step k o (Nat.zero_le _) ho) (i := ops.size) (fun k hk => ?_) ops.size (Nat.le_refl _), Nat.min_self, T.phF]
                      have : k < ops.size := by
                        rcases Nat.lt_or_ge k ops.size with h | h
                        · exact h
                        · simp [loudB, Array.getElem?_eq_none h] at hk
                      simp [this]
                    rw [← hall]
                    exact filter_len_le fun _ _ _ => rfl
                  by_cases h0 : cnt C ops (listedS listed) = 0
                  · rw [h0, T.hs0 0 (Nat.le_refl _), T.h0]; rfl
                  · exact T.hs1 _ (by omega) hcF
                · exact filter_len_le fun l _ hl => hb l hl
                · refine filter_len_le fun l _ hl => ?_
                  cases hx : ((Region.before ops).getD l 0).testBit i with
                  | false => simp [hx]
                  | true => rw [hb' l hx] at hl; cases hl
          refine op_wpInR hE (opK_keep h2 hk') hr (hρ tm' hle) hG ?_ (fun cv w' hd => by obtain ⟨_, _, _, hf, _⟩ := hd; exact hf.elim)
          rintro cv w' ⟨ι', h', v, ⟨rfl, rfl⟩, he', hn', hr', hvr⟩
          rw [← hc1 h2] at hr' hvr
          exact next ι' cv w' he' (by rw [hc1 h2]; exact Nat.le_refl _) hr' hvr
end Go.Am
