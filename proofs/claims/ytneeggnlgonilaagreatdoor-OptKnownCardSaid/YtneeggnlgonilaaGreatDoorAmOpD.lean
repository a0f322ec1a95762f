/- Slices, indexes, fields, lengths: what hangs on the operands alone. -/
import Derived.Test.YtneeggnlgonilaaGreatDoorAmOpC
namespace Go.Am
variable {C : Ctx} {ι : Inj} {w0 : World} {O : Nat → Prop} {h : Heap} {w : World}

def OR (ι : Inj) (n : Nat) (x : Option AV) (v : Option Value) : Prop :=
  match x, v with
  | none, none => True
  | some a, some b => VR ι n a b
  | _, _ => False

theorem addN_eq (o n : Nat) : addN o n = o + n := by cases o <;> simp [addN]

theorem bnd_elim {n m : Nat} {lo hi : Option AV} {k : Nat → Nat → Prop} (hk : sliceK.bnd n lo hi k) {clo chi : Option Value} (hl : OR ι m lo clo) (hh : OR ι m hi chi) :
    ∃ l u, k l u ∧ l ≤ u ∧ u ≤ n ∧ ∀ (P : Program) (sl : Bool) (cap : Nat) (w : World), n ≤ cap → (Instr.sliceBounds sl n cap clo chi none).run P w = .ok (l, u, cap) w := by
  unfold sliceK.bnd at hk
  split at hk
  · cases clo <;> simp only [OR] at hl
    cases chi <;> simp only [OR] at hh
    exact ⟨0, n, hk, Nat.zero_le _, Nat.le_refl _, fun P sl cap w _ => by simp [Instr.sliceBounds]⟩
  · rename_i kd l
    cases clo <;> simp only [OR, VR] at hl
    cases chi <;> simp only [OR] at hh
    subst hl
    rw [assertB_iff] at hk; obtain ⟨hb, hk⟩ := hk
    simp only [Bool.and_eq_true, decide_eq_true_eq] at hb
    exact ⟨l.toNat, n, hk, by omega, Nat.le_refl _, fun P sl cap w _ => by simp [Instr.sliceBounds, Instr.sliceBound, asIntOf, hb]⟩
  · rename_i kd u
    cases clo <;> simp only [OR] at hl
    cases chi <;> simp only [OR, VR] at hh
    subst hh
    rw [assertB_iff] at hk; obtain ⟨hb, hk⟩ := hk
    simp only [Bool.and_eq_true, decide_eq_true_eq] at hb
    refine ⟨0, u.toNat, hk, Nat.zero_le _, by omega, fun P sl cap w hc => ?_⟩
    have : (0 : Int) ≤ u ∧ u ≤ (cap : Int) := ⟨hb.1, by omega⟩
    simp [Instr.sliceBounds, Instr.sliceBound, asIntOf, this]
  · rename_i kd l kd' u
    cases clo <;> simp only [OR, VR] at hl
    cases chi <;> simp only [OR, VR] at hh
    subst hl hh
    rw [assertB_iff] at hk; obtain ⟨hb, hk⟩ := hk
    rw [assertB_iff] at hk; obtain ⟨hb2, hk⟩ := hk
    simp only [Bool.and_eq_true, decide_eq_true_eq] at hb hb2
    refine ⟨l.toNat, u.toNat, hk, by omega, by omega, fun P sl cap w hc => ?_⟩
    have h1 : (0 : Int) ≤ u ∧ u ≤ (cap : Int) := ⟨hb.1, by omega⟩
    have h2 : (0 : Int) ≤ l ∧ l ≤ (u.toNat : Int) := ⟨hb2.1, by omega⟩
    simp [Instr.sliceBounds, Instr.sliceBound, asIntOf, h1, h2]
    omega
  · exact hk.elim

theorem sliceK_elim {t : TypeId} {x : AV} {lo hi : Option AV} {K : KR} (hk : sliceK C t x lo hi h K) (H : HR w0 O ι h w) {cx : Value} {clo chi : Option Value} (hx : VR ι h.nx x cx) (hl : OR ι h.nx lo clo) (hh : OR ι h.nx hi chi) :
    ∃ v cv, K v h ∧ VR ι h.nx v cv ∧ ∀ w, (Instr.sliceAt t cx clo chi none).run C.P w = .ok cv w := by
  unfold sliceK at hk
  rw [underK_iff] at hk; obtain ⟨d, hd, hk⟩ := hk
  split at hk
  · rename_i s
    simp only [VR] at hx; subst hx
    obtain ⟨l, u, hk, h1, h2, hr⟩ := bnd_elim hk hl hh
    exact ⟨_, _, hk, rfl, fun w => by simp [Instr.sliceAt, Instr.slice, run_underlying hd, hr C.P false s.size w (Nat.le_refl _)]⟩
  · rename_i e
    simp only [VR] at hx; subst hx
    obtain ⟨l, u, hk, h1, h2, hr⟩ := bnd_elim hk hl hh
    have hu : u = 0 := by omega
    have hl0 : l = 0 := by omega
    subst hu; subst hl0
    rw [infoK_iff] at hk; obtain ⟨ie, hinf, hk⟩ := hk
    exact ⟨_, _, hk, rfl, fun w => by simp only [Instr.sliceAt, Instr.slice, Sem.run_bind, run_underlying hd, Result.andThen_ok, hr C.P true 0 w (Nat.le_refl _), run_size hinf]; rfl⟩
  · rename_i e
    simp only [VR] at hx
    obtain ⟨a, ha, rfl⟩ := hx
    obtain ⟨l, u, hk, h1, h2, hr⟩ := bnd_elim hk hl hh
    have hu : u = 0 := by omega
    have hl0 : l = 0 := by omega
    subst hu; subst hl0
    rw [infoK_iff] at hk; obtain ⟨ie, hinf, hk⟩ := hk
    exact ⟨_, .slice (some a) 0 0, hk, ⟨a, ha, rfl⟩, fun w => by simp only [Instr.sliceAt, Instr.slice, Sem.run_bind, run_underlying hd, Result.andThen_ok, hr C.P true 0 w (Nat.le_refl _), run_size hinf]; rfl⟩
  · rename_i e b z o n
    simp only [VR] at hx
    obtain ⟨hb, hon, hlc, a, ha, hco, rfl⟩ := hx
    rw [infoK_iff] at hk; obtain ⟨ie, hi, hk⟩ := hk
    rw [assertB_iff] at hk; obtain ⟨hz, hk⟩ := hk
    have hz : z = ie.size := Nat.eq_of_beq_eq_true hz
    subst hz
    obtain ⟨l, u, hk, h1, h2, hr⟩ := bnd_elim hk hl hh
    refine ⟨_, .slice (if (ι b).cap - o = l then some a else (some a).map (·.add (l * ie.size))) (u - l) ((ι b).cap - o - l), hk, ?_, fun w => ?_⟩
    · simp only [VR, addN_eq]
      refine ⟨hb, by omega, hlc, if (ι b).cap - o = l then a else a.add (l * ie.size), ?_, ?_, ?_⟩
      · split
        · exact ha
        · exact add_spot _ _ ha
      · by_cases hc : (ι b).cap - o = l
        · left; omega
        · right
          rw [if_neg hc]
          rcases hco with h0 | h0
          · omega
          · rw [h0, addr_add, Nat.add_mul]
      · split <;> simp <;> omega
    · simp only [Instr.sliceAt, Instr.slice, Sem.run_bind, run_underlying hd, Result.andThen_ok, hr C.P true ((ι b).cap - o) w (by omega), run_size hi]
      rfl
  · rename_i m e b z
    simp only [VR] at hx
    obtain ⟨hb, hil, rfl⟩ := hx
    rw [infoK_iff] at hk; obtain ⟨ie, hinf, hk⟩ := hk
    rw [getK_heap] at hk; obtain ⟨blk, hblk, hk⟩ := hk
    have fin : ∀ (zz : Nat) (k : AV → Heap → Prop), ie.size = zz → (ι b).cap = m → (ι b).len = m → z = zz ∨ z = 0 → sliceK.bnd m lo hi (fun l u => K (.slc b zz l (u - l)) h) →
        ∃ v cv, K v h ∧ VR ι h.nx v cv ∧ ∀ w, (Instr.sliceAt t (.pointer (some ⟨(ι b).blk, 0 * z + 0, none⟩)) clo chi none).run C.P w = .ok cv w := by
      intro zz k hzz hcap hlen hz hk
      obtain ⟨l, u, hk, h1, h2, hr⟩ := bnd_elim hk hl hh
      refine ⟨_, .slice (some (if m = l then ⟨(ι b).blk, 0, none⟩ else (⟨(ι b).blk, 0, none⟩ : Addr).add (l * ie.size))) (u - l) (m - l), hk, ?_, fun w => ?_⟩
      · simp only [VR]
        refine ⟨hb, by omega, by omega, _, ?_, ?_, by rw [hcap]⟩
        · split
          · rfl
          · exact add_spot _ _ rfl
        · by_cases hc : m = l
          · left; omega
          · right; rw [if_neg hc, addr_add, hzz]; simp
      · have ha : (⟨(ι b).blk, 0 * z + 0, none⟩ : Addr) = ⟨(ι b).blk, 0, none⟩ := by simp
        rw [ha]
        simp only [Instr.sliceAt, Instr.sureAddr, Sem.run_bind, run_underlying hd, Result.andThen_ok, Sem.run_pure, hr C.P false m w (Nat.le_refl _), run_size hinf]
    split at hk
    · rename_i wr z' n' cs
      rw [assertB_iff] at hk; obtain ⟨ha, hk⟩ := hk
      simp only [Bool.and_eq_true] at ha
      obtain ⟨⟨ha1, ha2⟩, ha3⟩ := ha
      obtain ⟨o, ho, arr, ee, fz, rfl, hcs, hcap, _⟩ := H.get hblk rfl
      have e2 : m = n' := Nat.eq_of_beq_eq_true ha2
      subst e2
      exact fin z' (fun _ _ => True) (Nat.eq_of_beq_eq_true ha1).symm (hcap m rfl).1 (hcap m rfl).2 (.inr (Nat.eq_of_beq_eq_true ha3)) hk
    · rename_i wr n' m' cols
      rw [assertB_iff] at hk; obtain ⟨ha, hk⟩ := hk
      simp only [Bool.and_eq_true] at ha
      obtain ⟨⟨⟨ha1, ha2⟩, ha3⟩, ha4⟩ := ha
      obtain ⟨o, ho, arr, ee, fz, rfl, hcs, hcap, hlen, _⟩ := H.get hblk rfl
      have e2 : m = n' := Nat.eq_of_beq_eq_true ha2
      have e3 : m = m' := Nat.eq_of_beq_eq_true ha3
      subst e2; subst e3
      exact fin cols.length (fun _ _ => True) (Nat.eq_of_beq_eq_true ha1).symm (hcap m rfl) hlen (.inl (Nat.eq_of_beq_eq_true ha4)) hk
    · exact hk.elim
  · exact hk.elim

theorem indexAddrK_elim {t : TypeId} {x ix : AV} {K : KV} (hk : indexAddrK C t x ix h K) (H : HR w0 O ι h w) {cx cix : Value} (hx : VR ι h.nx x cx) (hix : VR ι h.nx ix cix) :
    ∃ v cv, K v ∧ VR ι h.nx v cv ∧ ∀ w, (Instr.indexAt t cx cix).run C.P w = .ok cv w := by
  unfold indexAddrK at hk
  split at hk
  · rename_i b z o n kd i
    simp only [VR] at hx hix
    subst hix
    obtain ⟨hb, hon, hlc, a, ha, hco, rfl⟩ := hx
    rw [underK_iff] at hk; obtain ⟨d, hd, hk⟩ := hk
    split at hk
    · rename_i e
      rw [infoK_iff] at hk; obtain ⟨ie, hi, hk⟩ := hk
      rw [assertB_iff] at hk; obtain ⟨hbb, hk⟩ := hk
      simp only [Bool.and_eq_true, decide_eq_true_eq] at hbb
      obtain ⟨⟨hz, h1⟩, h2⟩ := hbb
      have hz : z = ie.size := Nat.eq_of_beq_eq_true hz
      subst hz
      have haa : a = ⟨(ι b).blk, o * ie.size, none⟩ := by
        rcases hco with h0 | h0
        · omega
        · exact h0
      subst haa
      rw [getK_heap] at hk; obtain ⟨blk, hblk, hk⟩ := hk
      have hK : K (.ptr b (o + i.toNat) ie.size 0) := by
        split at hk
        · obtain ⟨j, y, _, hj, hk⟩ := idxK_elim hk
          rw [addN_eq] at hk
          exact hk
        · rw [addN_eq] at hk; exact hk
        · exact hk.elim
      refine ⟨_, .pointer (some ((⟨(ι b).blk, o * ie.size, none⟩ : Addr).add (i.toNat * ie.size))), hK, ?_, fun w => ?_⟩
      · simp only [VR]
        refine ⟨hb, .inr (by omega), ?_⟩
        rw [addr_add, Nat.add_mul, Nat.add_zero]
      · have h3 : (0 : Int) ≤ i ∧ i < (n : Int) := ⟨h1, h2⟩
        simp [Instr.indexAt, asIntOf, run_underlying hd, h3, run_size hi]
    · exact hk.elim
  · rename_i b z j kd i
    simp only [VR] at hx hix
    subst hix
    obtain ⟨hb, hil, rfl⟩ := hx
    rw [underK_iff] at hk; obtain ⟨d, hd, hk⟩ := hk
    split at hk
    · rename_i n e
      rw [infoK_iff] at hk; obtain ⟨ie, hi, hk⟩ := hk
      rw [assertB_iff] at hk; obtain ⟨hbb, hk⟩ := hk
      simp only [Bool.and_eq_true, decide_eq_true_eq] at hbb
      rw [getK_heap] at hk; obtain ⟨blk, hblk, hk⟩ := hk
      have hrun : ∀ w, (Instr.indexAt t (.pointer (some ⟨(ι b).blk, 0 * z + j, none⟩)) (.int kd i)).run C.P w = .ok (.pointer (some ((⟨(ι b).blk, 0 * z + j, none⟩ : Addr).add (i.toNat * ie.size)))) w := by
        intro w
        simp [Instr.indexAt, asIntOf, run_underlying hd, hbb, run_size hi, Instr.sureAddr]
      split at hk
      · obtain ⟨q, y, _, hq, hk⟩ := idxK_elim hk
        refine ⟨_, _, hk, ?_, hrun⟩
        simp only [VR]
        refine ⟨hb, hil, ?_⟩
        rw [addr_add, Nat.add_assoc]
      · rename_i wr c m' cols
        rw [assertB_iff] at hk; obtain ⟨ha, hk⟩ := hk
        simp only [Bool.and_eq_true] at ha
        obtain ⟨⟨⟨ha1, ha2⟩, ha3⟩, ha4⟩ := ha
        have e1 : j = 0 := Nat.eq_of_beq_eq_true ha1
        have e2 : z = cols.length := Nat.eq_of_beq_eq_true ha2
        have e3 : cols.length = ie.size := Nat.eq_of_beq_eq_true ha3
        have e4 : n = m' := Nat.eq_of_beq_eq_true ha4
        subst e1 e2 e4
        obtain ⟨o, ho, arr, ee, fz, rfl, hcs, hcap, hlen, _⟩ := H.get hblk rfl
        refine ⟨_, _, hk, ?_, hrun⟩
        simp only [VR]
        refine ⟨hb, .inr (by omega), ?_⟩
        rw [addr_add, e3]; simp
      · exact hk.elim
    · exact hk.elim
  · exact hk.elim

theorem chunkK_elim {e : TypeId} {z n : Nat} {cs : List AV} {vs : Array Value} (hv : VRs ι n cs vs.toList) : ∀ {m i : Nat} {k : List AV → Prop}, chunkK C e z cs m i k →
    ∃ xs, k xs ∧ xs.length = m ∧ ∀ (q : Nat) x, xs[q]? = some x → ∃ cv, VR ι n x cv ∧ ∀ w, (part e vs ((i + q) * z)).run C.P w = .ok cv w
  | 0, i, k, hk => ⟨[], hk, rfl, fun q x h => by simp at h⟩
  | m + 1, i, k, hk => by
    simp only [chunkK] at hk
    obtain ⟨a, cv, hk, hva, hra⟩ := partA_elim hk hv
    obtain ⟨xs, hk, hl, hq⟩ := chunkK_elim hv hk
    refine ⟨a :: xs, hk, by simp [hl], fun q x hx => ?_⟩
    cases q with
    | zero => simp at hx; subst hx; exact ⟨cv, hva, hra⟩
    | succ q =>
      obtain ⟨cv', h1, h2⟩ := hq q x (by simpa using hx)
      exact ⟨cv', h1, fun w => by rw [show i + (q + 1) = i + 1 + q from by omega]; exact h2 w⟩

theorem bAt_of {s : ByteArray} {i : Nat} (hi : i < s.size) : bAt s i = (s[i].toNat : Int) := by
  unfold bAt
  have hl : i < s.data.toList.length := by simpa using hi
  rw [List.getD_eq_getElem?_getD, List.getElem?_eq_getElem hl]
  simp [ByteArray.getElem_eq_getElem_data]

theorem indexK_elim {t : TypeId} {x ix : AV} {K : KV} (hk : indexK C t x ix K) {n : Nat} {cx cix : Value} (hx : VR ι n x cx) (hix : VR ι n ix cix) :
    ∃ v cv, K v ∧ VR ι n v cv ∧ ∀ w, (Instr.index t cx cix).run C.P w = .ok cv w := by
  unfold indexK at hk
  split at hk
  · rename_i s kd i
    simp only [VR] at hx hix
    subst hx hix
    rw [underK_iff] at hk; obtain ⟨d, hd, hk⟩ := hk
    split at hk
    · rw [assertB_iff] at hk; obtain ⟨hbb, hk⟩ := hk
      simp only [Bool.and_eq_true, decide_eq_true_eq] at hbb
      have hlt : i.toNat < s.size := by omega
      refine ⟨_, _, hk, rfl, fun w => ?_⟩
      have hs : s[i.toNat]? = some s[i.toNat] := by simp [hlt]
      simp [Instr.index, asIntOf, run_underlying hd, hbb.1, hs, bAt_of hlt]
    · exact hk.elim
  · rename_i cs kd i
    simp only [VR] at hx hix
    subst hix
    obtain ⟨a, rfl, hv⟩ := hx
    rw [underK_iff] at hk; obtain ⟨d, hd, hk⟩ := hk
    split at hk
    · rename_i m e
      rw [infoK_iff] at hk; obtain ⟨ie, hi, hk⟩ := hk
      rw [assertB_iff] at hk; obtain ⟨hbb, hk⟩ := hk
      simp only [Bool.and_eq_true, decide_eq_true_eq] at hbb
      obtain ⟨xs, hk, hl, hq⟩ := chunkK_elim hv hk
      obtain ⟨j, y, hj, hjn, hk⟩ := idxK_elim hk
      obtain ⟨cv, h1, h2⟩ := hq j y hj
      refine ⟨_, cv, hk, h1, fun w => ?_⟩
      have hjn : i.toNat = j := by omega
      simp [Instr.index, asIntOf, run_underlying hd, hbb, run_size hi, hjn]
      simpa using h2 w
    · exact hk.elim
  · exact hk.elim

theorem fieldAddrK_elim {t : TypeId} {x : AV} {f : Nat} {K : KV} (hk : fieldAddrK C t x f K) {n : Nat} {cx : Value} (hx : VR ι n x cx) :
    ∃ v cv, K v ∧ VR ι n v cv ∧ ∀ w, (Instr.fieldAt t cx f).run C.P w = .ok cv w := by
  unfold fieldAddrK at hk
  split at hk
  · rename_i b i z j
    simp only [VR] at hx
    obtain ⟨hb, hil, rfl⟩ := hx
    rw [underK_iff] at hk; obtain ⟨d, hd, hk⟩ := hk
    split at hk
    · rename_i fs
      rw [optK_iff] at hk; obtain ⟨fd, hfd, hk⟩ := hk
      rw [infoK_iff] at hk; obtain ⟨inf, hi, hk⟩ := hk
      rw [assertB_iff] at hk; obtain ⟨hs, hk⟩ := hk
      have hs : inf.size ≠ 0 := by intro e; rw [e] at hs; simp at hs
      refine ⟨_, .pointer (some ((⟨(ι b).blk, i * z + j, none⟩ : Addr).add fd.offset)), hk, ?_, fun w => ?_⟩
      · simp only [VR]
        refine ⟨hb, hil, ?_⟩
        rw [addr_add, Nat.add_assoc]
      · simp [Instr.fieldAt, run_underlying hd, hfd, Instr.sureAddr, fieldPlace, run_size hi, hs]
    · exact hk.elim
  · exact hk.elim

theorem fieldK_elim {t : TypeId} {x : AV} {f : Nat} {K : KV} (hk : fieldK C t x f K) {n : Nat} {cx : Value} (hx : VR ι n x cx) :
    ∃ v cv, K v ∧ VR ι n v cv ∧ ∀ w, (Instr.field t cx f).run C.P w = .ok cv w := by
  unfold fieldK at hk
  split at hk
  · rename_i cs
    simp only [VR] at hx
    obtain ⟨a, rfl, hv⟩ := hx
    rw [underK_iff] at hk; obtain ⟨d, hd, hk⟩ := hk
    split at hk
    · rename_i fs
      rw [optK_iff] at hk; obtain ⟨fd, hfd, hk⟩ := hk
      obtain ⟨v, cv, hk, h1, h2⟩ := partA_elim hk hv
      exact ⟨v, cv, hk, h1, fun w => by simp [Instr.field, run_underlying hd, hfd, asAgg, h2]⟩
    · exact hk.elim
  · exact hk.elim
end Go.Am
