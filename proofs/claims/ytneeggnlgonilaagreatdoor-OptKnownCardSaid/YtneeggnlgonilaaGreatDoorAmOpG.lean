/- copy, make, maps. -/
import Derived.Test.YtneeggnlgonilaaGreatDoorAmOpF
namespace Go.Am
variable {C : Ctx} {ι : Inj} {w0 : World} {O : Nat → Prop} {h : Heap} {w : World}

theorem copyCols_elim : ∀ {o m : Nat} {cols : List Col} {o' : Nat} {cols' : List Col} {k : List Col → Prop}, copyCols o m cols o' cols' k → ∃ cs, k cs ∧ cs.length = cols.length ∧ cols.length = cols'.length ∧
    ∀ (j : Nat) c, cs[j]? = some c → ∃ c1 c2, cols[j]? = some c1 ∧ cols'[j]? = some c2 ∧ ∀ i, c.val i = if o ≤ i ∧ i < o + m then c2.val (o' + (i - o)) else c1.val i
  | o, m, cols, o', cols', k, hk => by
    unfold copyCols at hk
    split at hk
    · exact ⟨[], hk, rfl, rfl, fun j c hc => by simp at hc⟩
    · rename_i kd g r o2 kd' g' r'
      rw [assertB_iff] at hk; obtain ⟨he, hk⟩ := hk
      have he := of_decide_eq_true he
      subst he
      obtain ⟨cs, hk, h1, h2, h3⟩ := copyCols_elim hk
      refine ⟨_, hk, by simp [h1], by simp [h2], fun j c hc => ?_⟩
      cases j with
      | zero => simp at hc; subst hc; exact ⟨_, _, rfl, rfl, fun i => by simp only [Col.val, copyF]; split <;> rfl⟩
      | succ j => simpa using h3 j c (by simpa using hc)
    · rename_i g r o2 g' r'
      obtain ⟨cs, hk, h1, h2, h3⟩ := copyCols_elim hk
      refine ⟨_, hk, by simp [h1], by simp [h2], fun j c hc => ?_⟩
      cases j with
      | zero => simp at hc; subst hc; exact ⟨_, _, rfl, rfl, fun i => by simp only [Col.val, copyF]; split <;> rfl⟩
      | succ j => simpa using h3 j c (by simpa using hc)
    · rename_i g r o2 g' r'
      obtain ⟨cs, hk, h1, h2, h3⟩ := copyCols_elim hk
      refine ⟨_, hk, by simp [h1], by simp [h2], fun j c hc => ?_⟩
      cases j with
      | zero => simp at hc; subst hc; exact ⟨_, _, rfl, rfl, fun i => by simp only [Col.val, copyF]; split <;> rfl⟩
      | succ j => simpa using h3 j c (by simpa using hc)
    · exact hk.elim

theorem copyK_elim {ty : TypeId} {argTypes : Array TypeId} {d x : AV} {K : KR} (hk : copyK C argTypes d x h K) (H : HR w0 O ι h w) {cd cx : Value} (hd : VR ι h.nx d cd) (hx : VR ι h.nx x cx) :
    ∃ cv w', (Builtin.copy_ argTypes ty #[cd, cx]).run C.P w = .ok cv w' ∧ Done w0 O ι h K cv w' := by
  unfold copyK at hk
  rw [optK_iff] at hk; obtain ⟨t, h0, hk⟩ := hk
  rw [underK_iff] at hk; obtain ⟨dd, hdd, hk⟩ := hk
  split at hk
  · rename_i e
    rw [infoK_iff] at hk; obtain ⟨ie, hi, hk⟩ := hk
    obtain ⟨src, n, news, hk2, hnl, hlen, hsr, hfc⟩ := srcK_elim hk H hx
    clear hk
    have hrun : ∀ {base : Option Addr} {dLen cap : Nat}, (Builtin.copy_ argTypes ty #[.slice base dLen cap, cx]).run C.P w =
        ((match base with | some a => storeCells a (news.take (Nat.min n dLen * ie.size)) | none => pure ()) >>= fun _ => (pure (goInt (Nat.min n dLen)) : Sem Value)).run C.P w := by
      intro base dLen cap
      have hf := hfc C.P w (Nat.min n dLen) rfl (Nat.min_le_left _ _)
      cases base <;> simp [Builtin.copy_, h0, run_underlying hdd, hlen, run_size hi, hf]
    split at hk2
    · simp only [VR] at hd; subst hd
      exact ⟨goInt 0, w, by rw [hrun]; simp, Done.here H hk2 (by simp [VR, goInt])⟩
    · simp only [VR] at hd; obtain ⟨a, ha, rfl⟩ := hd
      exact ⟨goInt 0, w, by rw [hrun]; simp [storeCells], Done.here H hk2 (by simp [VR, goInt])⟩
    · rename_i b z o dl
      have hd0 := hd
      simp only [VR] at hd
      obtain ⟨hb, hon, hlc, a, ha, hco, rfl⟩ := hd
      rw [assertB_iff] at hk2; obtain ⟨hzz, hk⟩ := hk2
      have hzz : z = ie.size := Nat.eq_of_beq_eq_true hzz
      subst hzz
      -- the store
      have put : ∀ {arr : Array Value} {e' : TypeId} {fz : Nat × Nat}, w.heap[(ι b).blk]? = some (.cells arr e' fz) → (ι b).cap * ie.size ≤ arr.size → (∀ k, k < (ι b).cap * ie.size → Free fz k) → (∀ v ∈ news, isCellV v = true) →
          ∃ w', (Builtin.copy_ argTypes ty #[.slice (some a) dl ((ι b).cap - o), cx]).run C.P w = .ok (goInt (Nat.min n dl)) w' ∧ Turn w w' (ι b).blk (.cells ⟨putL arr.toList (o * ie.size) (news.take (Nat.min n dl * ie.size))⟩ e' fz) ∧
            o * ie.size + (news.take (Nat.min n dl * ie.size)).length ≤ arr.toList.length := by
        intro arr e' fz hw hsz hfree hcell
        have hql : (news.take (Nat.min n dl * ie.size)).length = Nat.min n dl * ie.size := by
          have := Nat.mul_le_mul_right ie.size (Nat.min_le_left n dl)
          simp only [List.length_take, hnl]; exact Nat.min_eq_left this
        have hqd : Nat.min n dl ≤ dl := Nat.min_le_right _ _
        have hle : o * ie.size + Nat.min n dl * ie.size ≤ (ι b).cap * ie.size := by
          rw [← Nat.add_mul]; exact Nat.mul_le_mul_right _ (by omega)
        have hpl : o * ie.size + (news.take (Nat.min n dl * ie.size)).length ≤ arr.toList.length := by rw [hql]; simp only [Array.length_toList]; omega
        rcases hco with hc0 | hc0
        · have hq0 : Nat.min n dl = 0 := by omega
          refine ⟨w, by rw [hrun]; simp [hq0, storeCells], ?_, hpl⟩
          have : (⟨putL arr.toList (o * ie.size) (news.take (Nat.min n dl * ie.size))⟩ : Array Value) = arr := by simp [hq0, putL]
          rw [this]; exact Turn.refl hw
        · subst hc0
          obtain ⟨w', hr, ht⟩ := run_storeCells (P := C.P) (b := (ι b).blk) (o := o * ie.size) (news.take (Nat.min n dl * ie.size)) 0 w arr hw (fun v hv => hcell v (List.mem_of_mem_take hv)) (by simp only [Array.length_toList] at hpl; omega) (fun m hm => hfree _ (by omega))
          exact ⟨w', by rw [hrun]; simp [hr], by simpa using ht, hpl⟩
      split at hk
      · have hn : n = 0 := hsr
        subst hn
        refine ⟨goInt 0, w, ?_, Done.here H hk (by simp [VR, goInt])⟩
        rw [hrun]
        have : Nat.min 0 dl = 0 := Nat.zero_min dl
        simp [this, storeCells, goInt]
      · rename_i m cs
        obtain ⟨rfl, hv⟩ := hsr
        rw [getK_heap] at hk; obtain ⟨blk, hblk, hk⟩ := hk
        split at hk
        · rename_i z2 cap old
          rw [assertB_iff] at hk; obtain ⟨hb2, hk⟩ := hk
          simp only [Bool.and_eq_true] at hb2
          have hz2 : z2 = ie.size := Nat.eq_of_beq_eq_true hb2.1
          subst hz2
          rw [takeK_iff] at hk; obtain ⟨hle, hk⟩ := hk
          rw [putK_iff] at hk; obtain ⟨hle2, hk⟩ := hk
          rw [setK_heap] at hk; obtain ⟨_, hk⟩ := hk
          obtain ⟨ob, ho, arr, e', fz, rfl, hcs, hcap, hlc2, hwr⟩ := H.get hblk rfl
          obtain ⟨hw1, hw2, hw3⟩ := hwr rfl
          obtain ⟨w', hr, ht, hpl⟩ := put ho hw2 hw3 (VRs_isCell hv hb2.2)
          have hvt := hv.take (Nat.min m dl * ie.size)
          refine ⟨_, w', hr, ι, _, _, hk, Ext.refl _ _, Nat.le_refl _, H.set hblk rfl ht ⟨_, e', fz, rfl, fun k a ha => ?_, hcap, hlc2, fun _ => ⟨by rw [putL_length hle2]; exact hw1, ?_, hw3⟩⟩, by simp [VR, goInt]⟩
          · rw [putL_get hle2] at ha
            rw [show (⟨putL arr.toList (o * ie.size) (news.take (Nat.min m dl * ie.size))⟩ : Array Value) = (putL arr.toList (o * ie.size) (news.take (Nat.min m dl * ie.size))).toArray from rfl, List.getElem?_toArray, putL_get hpl]
            have hll : (List.take (Nat.min m dl * ie.size) (List.drop 0 cs)).length = (news.take (Nat.min m dl * ie.size)).length := by have := hvt.length; simpa using this.symm
            split at ha
            · rw [if_pos (by omega)]
              exact hvt.get (by simpa using ha)
            · rw [if_neg (by omega)]
              obtain ⟨y, hy, hvr⟩ := hcs k a ha
              exact ⟨y, by simpa using hy, hvr⟩
          · show _ ≤ (putL _ _ _).length
            rw [putL_length hpl]; simpa using hw2
        · exact hk.elim
      · rename_i m o' cols'
        obtain ⟨rfl, hzc, hr'⟩ := hsr
        rw [getK_heap] at hk; obtain ⟨blk, hblk, hk⟩ := hk
        split at hk
        · rename_i cap mm cols
          rw [assertB_iff] at hk; obtain ⟨hzc2, hk⟩ := hk
          have hzc2 : ie.size = cols.length := Nat.eq_of_beq_eq_true hzc2
          obtain ⟨cs, hk, h1, h2, h3⟩ := copyCols_elim hk
          rw [setK_heap] at hk; obtain ⟨_, hk⟩ := hk
          obtain ⟨ob, ho, arr, e', fz, rfl, hcs, hcap, hlen2, hmc, hwr⟩ := H.get hblk rfl
          obtain ⟨hw2, hw3⟩ := hwr rfl
          rw [← hzc2] at hw2 hw3 hcs
          have hcell : ∀ v ∈ news, isCellV v = true := by
            intro v hv
            obtain ⟨k, hkv⟩ := List.getElem?_of_mem hv
            have hkl := (List.getElem?_eq_some_iff.1 hkv).1
            have hz0 : 0 < ie.size := by
              rcases Nat.eq_zero_or_pos ie.size with h0 | h0
              · rw [hnl, h0] at hkl; simp at hkl
              · exact h0
            have hj : k % ie.size < cols'.length := by rw [← hzc]; exact Nat.mod_lt _ hz0
            have hi : k / ie.size < m := by
              rw [Nat.div_lt_iff_lt_mul hz0, ← hnl]; exact hkl
            have := hr' (k / ie.size) hi (k % ie.size) _ (List.getElem?_eq_getElem hj)
            rw [show k / ie.size * ie.size + k % ie.size = k from by rw [Nat.mul_comm]; exact Nat.div_add_mod k ie.size, hkv] at this
            cases this
            exact isCell_val _ _
          obtain ⟨w', hr, ht, hpl⟩ := put ho hw2 hw3 hcell
          have hql : (news.take (Nat.min m dl * ie.size)).length = Nat.min m dl * ie.size := by
            have := Nat.mul_le_mul_right ie.size (Nat.min_le_left m dl)
            simp only [List.length_take, hnl]; exact Nat.min_eq_left this
          refine ⟨_, w', hr, ι, _, _, hk, Ext.refl _ _, Nat.le_refl _, H.set hblk rfl ht ⟨_, e', fz, rfl, fun i hi j c hc => ?_, hcap, hlen2, hmc, fun _ => ⟨?_, by rw [h1, ← hzc2]; exact hw3⟩⟩, by simp [VR, goInt]⟩
          · obtain ⟨c1, c2, hc1, hc2, hv⟩ := h3 j c hc
            have hjz : j < ie.size := by have := (List.getElem?_eq_some_iff.1 hc1).1; omega
            rw [show (⟨putL arr.toList (o * ie.size) (news.take (Nat.min m dl * ie.size))⟩ : Array Value) = (putL arr.toList (o * ie.size) (news.take (Nat.min m dl * ie.size))).toArray from rfl, List.getElem?_toArray, putL_get hpl, hql, h1, ← hzc2, hv i]
            by_cases hin : o ≤ i ∧ i < o + Nat.min m dl
            · have e1 : i * ie.size = o * ie.size + (i - o) * ie.size := by rw [← Nat.add_mul]; congr 1; omega
              have e2 := row_lt (i := i - o) (j := j) (z := ie.size) (m := Nat.min m dl) (by omega) hjz
              have e3 : Nat.min m dl ≤ m := Nat.min_le_left _ _
              rw [if_pos (by omega), if_pos hin]
              have := hr' (i - o) (by omega) j c2 hc2
              rw [List.getElem?_take, if_pos (by omega), show i * ie.size + j - o * ie.size = (i - o) * ie.size + j from by omega]
              exact this
            · rw [if_neg hin, if_neg]
              · simpa using hcs i hi j c1 hc1
              · intro hh
                apply hin
                constructor
                · rcases Nat.lt_or_ge i o with h5 | h5
                  · have := row_lt (z := ie.size) h5 hjz; omega
                  · exact h5
                · rcases Nat.lt_or_ge i (o + Nat.min m dl) with h5 | h5
                  · exact h5
                  · have := Nat.mul_le_mul_right ie.size h5
                    rw [Nat.add_mul] at this; omega
          · show _ ≤ (putL _ _ _).length
            rw [putL_length hpl, h1, ← hzc2]; simpa using hw2
        · exact hk.elim
    · exact hk2.elim
  · exact hk.elim

theorem colsOfZero_elim : ∀ {z : List AV} {k : List Col → Prop}, colsOfZero z k → ∃ cs, k cs ∧ cs.length = z.length ∧ ∀ (j : Nat) c, cs[j]? = some c → ∀ i, z[j]? = some (c.at i)
  | [], k, hk => ⟨[], hk, rfl, fun j c hc => by simp at hc⟩
  | a :: r, k, hk => by
    cases a <;> simp only [colsOfZero] at hk
    all_goals
      obtain ⟨cs, hk, h1, h2⟩ := colsOfZero_elim hk
      refine ⟨_, hk, by simp [h1], fun j c hc i => ?_⟩
      cases j with
      | zero => simp at hc; subst hc; rfl
      | succ j => simpa using h2 j c (by simpa using hc) i

theorem wrap64_in (n : Int) (h1 : -9223372036854775808 ≤ n) (h2 : n ≤ 9223372036854775807) : IntKind.i64.wrap n = n := by
  rw [IntKind.wrap_i64]; omega

theorem makeSliceK_elim {t : TypeId} {l c : AV} {K : KR} (hk : makeSliceK C t l c h K) (H : HR w0 O ι h w) {cl cc : Value} (hl : VR ι h.nx l cl) (hc : VR ι h.nx c cc) :
    ∃ cv w', (Instr.makeSlice t cl cc).run C.P w = .ok cv w' ∧ Done w0 O ι h K cv w' := by
  unfold makeSliceK at hk
  split at hk
  · rename_i l c
    simp only [VR] at hl hc
    subst hl hc
    rw [underK_iff] at hk; obtain ⟨d, hd, hk⟩ := hk
    split at hk
    · rename_i e
      rw [infoK_iff] at hk; obtain ⟨ie, hi, hk⟩ := hk
      rw [assertB_iff] at hk; obtain ⟨hb, hk⟩ := hk
      simp only [Bool.and_eq_true, decide_eq_true_eq] at hb
      obtain ⟨⟨⟨hl0, hlc⟩, hcm⟩, hcb⟩ := hb
      obtain ⟨z, cz, hk2, hz, hzv⟩ := zeroK_elim hk
      clear hk
      rw [cellsK_iff, assertB_iff] at hk2; obtain ⟨hzl, hk⟩ := hk2
      have hzl : (cellsOfA z).length = ie.size := Nat.eq_of_beq_eq_true hzl
      have hw1 : IntKind.i64.wrap l = l := wrap64_in _ (by omega) (by omega)
      have hw2 : IntKind.i64.wrap c = c := wrap64_in _ (by omega) (by omega)
      have hzc := VR_cells (hzv ι h.nx)
      have hv0 := zeros_VRs (m := c.toNat) hzc hzl
      have hcz : cz.cells.size = ie.size := by have := hzc.length; simp only [Array.length_toList] at this; omega
      have hext := newI_ext ι h.nx ⟨w.heap.size, c.toNat, l.toNat⟩
      have hext2 := newI_ext ι h.nx ⟨w.heap.size, c.toNat, c.toNat⟩
      let arr : Array Value := (Array.range (c.toNat * ie.size)).map fun i => cz.cells[i % cz.cells.size]!
      have harr : arr.size = c.toNat * ie.size := by simp [arr]
      have hrun : (Instr.makeSlice t (.int .i64 l) (.int .i64 c)).run C.P w = .ok (.slice (some ⟨w.heap.size, 0, none⟩) l.toNat c.toNat) { w with heap := w.heap.push (.cells arr e (0, 0)) } := by
        have hcond : ((decide (c < 0) || decide ((ie.bytes : Int) * c > 2 ^ 48)) = true ∨ l < 0) ∨ l > c ↔ False := by
          simp; omega
        unfold Instr.makeSlice
        simp only [Sem.run_bind, run_underlying hd, Result.andThen_ok, asInt, asIntOf, Sem.run_pure, run_info hi, hw1, hw2]
        rw [if_neg (by simp; omega)]
        by_cases h0 : c.toNat * ie.size = 0
        · have e0 : Array.range 0 = #[] := rfl
          have harr0 : arr = #[] := by simp [arr, h0, e0]
          simp only [run_askRoom, Result.andThen_ok, Sem.run_bind, run_size hi]
          rw [if_pos h0]
          simp [newRow, h0, e0, harr0]
        · simp only [run_askRoom, Result.andThen_ok, Sem.run_bind, run_size hi]
          rw [if_neg h0]
          simp only [Sem.run_bind, hz, Result.andThen_ok, Sem.run_pure, newRow, run_newObj]
          rfl
      cases hsc : (cellsOfA z).all scalarA with
      | true =>
        rw [hsc, cond_true] at hk
        obtain ⟨cols, hk, h1, h2⟩ := colsOfZero_elim hk
        rw [pushK_heap] at hk
        have hzn : cols.length = ie.size := by omega
        have H' := H.push (.row true (some c.toNat) l.toNat cols) (.cells arr e (0, 0)) c.toNat l.toNat ⟨arr, e, _, rfl, fun i hi' j cc hcc => ?_, (fun q hq => by cases hq; rfl), rfl, by simp only; omega, fun _ => ⟨by simp [harr, hzn], fun k _ => free00 k⟩⟩
        refine ⟨_, _, hrun, _, _, _, hk, hext, Nat.le_succ _, H', ?_⟩
        · simp only [VR, newI_same]
          exact ⟨Nat.lt_succ_self _, by simp, by omega, ⟨w.heap.size, 0, none⟩, rfl, .inr (by simp), by simp⟩
        · have hjz : j < ie.size := by have := (List.getElem?_eq_some_iff.1 hcc).1; omega
          have hlt := row_lt (i := i) (j := j) (z := ie.size) (m := c.toNat) (by omega) hjz
          have hfl := flatten_get (z := cellsOfA z) c.toNat (i * ie.size + j) (by rw [hzl]; exact hlt)
          rw [hzl, show (i * ie.size + j) % ie.size = j from by rw [Nat.mul_comm, Nat.mul_add_mod, Nat.mod_eq_of_lt hjz], h2 j cc hcc i] at hfl
          obtain ⟨y, hy, hvr⟩ := hv0.get hfl
          rw [VR_at_eq hvr] at hy
          rw [hzn, ← Array.getElem?_toList]
          exact hy
      | false =>
        rw [hsc, cond_false, replicateA_iff, pushK_heap] at hk
        have hv1 := hv0.mono hext2 (Nat.le_succ _)
        have hvl := hv0.length
        have H' := H.push (.cells true ie.size (some c.toNat) _) (.cells arr e (0, 0)) c.toNat c.toNat ⟨arr, e, _, rfl, fun k a ha => (let ⟨y, hy, hvr⟩ := hv1.get ha; ⟨y, by rw [← Array.getElem?_toList]; exact hy, hvr⟩), (fun q hq => by cases hq; exact ⟨rfl, rfl⟩), Nat.le_refl _, fun _ => ⟨?_, by simp [harr], fun k _ => free00 k⟩⟩
        refine ⟨_, _, hrun, _, _, _, hk, hext2, Nat.le_succ _, H', ?_⟩
        · simp only [VR, newI_same]
          exact ⟨Nat.lt_succ_self _, by omega, Nat.le_refl _, ⟨w.heap.size, 0, none⟩, rfl, .inr (by simp), by simp⟩
        · simp at hvl ⊢; omega
    · exact hk.elim
  · exact hk.elim
end Go.Am
