/- Operations that hang on their operands alone: what the abstract machine says of them is what the model does, in whatever world. -/
import Derived.Test.YtneeggnlgonilaaGreatDoorAmMem
namespace Go.Am
variable {C : Ctx} {ι : Inj} {n : Nat}

theorem ofVals_sound {f : Value → Option AV} (hf : ∀ v a, f v = some a → ∀ (ι : Inj) n, VR ι n a v) : ∀ {vs : List Value} {xs : List AV}, ofVals f vs = some xs → ∀ (ι : Inj) n, VRs ι n xs vs
  | [], xs, h, ι, n => by simp [ofVals] at h; subst h; rfl
  | v :: vs, xs, h, ι, n => by
    simp only [ofVals] at h
    split at h
    · rename_i x y hx hy
      cases h
      exact ⟨v, vs, rfl, hf v x hx ι n, ofVals_sound hf hy ι n⟩
    · cases h

theorem ofValN_sound : ∀ (d : Nat) (v : Value) (a : AV), ofValN d v = some a → ∀ (ι : Inj) n, VR ι n a v
  | 0, _, _, h, _, _ => by simp [ofValN] at h
  | d + 1, v, a, h, ι, n => by
    unfold ofValN at h
    split at h
    all_goals first
      | (cases h; simp only [VR]; done)
      | skip
    · rename_i cs
      cases hx : ofVals (ofValN d) cs.toList with
      | none => simp [hx] at h
      | some xs =>
        simp [hx] at h; subst h
        exact ⟨cs, rfl, ofVals_sound (ofValN_sound d) hx ι n⟩
    · rename_i cs
      cases hx : ofVals (ofValN d) cs.toList with
      | none => simp [hx] at h
      | some xs =>
        simp [hx] at h; subst h
        exact ⟨cs, rfl, ofVals_sound (ofValN_sound d) hx ι n⟩
    · rename_i t v
      cases hx : ofValN d v with
      | none => simp [hx] at h
      | some x =>
        simp [hx] at h; subst h
        exact ⟨v, rfl, ofValN_sound d v x hx ι n⟩
    · cases h

theorem ofVal_sound {v : Value} {a : AV} (h : ofVal v = some a) (ι : Inj) (n : Nat) : VR ι n a v := ofValN_sound 8 v a h ι n

theorem infoK_iff {t : TypeId} {k : TypeInfo → Prop} : infoK C t k ↔ ∃ i, C.P.info? t = some i ∧ k i := optK_iff
theorem underK_iff {t : TypeId} {k : TypeDesc → Prop} : underK C t k ↔ ∃ d, C.P.underlying t = some d ∧ k d := optK_iff

theorem run_info {P : Program} {t : TypeId} {i : TypeInfo} (h : P.info? t = some i) (w : World) : (typeInfo t).run P w = .ok i w := by simp [typeInfo, h]
theorem run_size {P : Program} {t : TypeId} {i : TypeInfo} (h : P.info? t = some i) (w : World) : (sizeOf t).run P w = .ok i.size w := by simp [sizeOf, run_info h]
theorem run_agg {P : Program} {t : TypeId} {d : TypeDesc} (h : P.underlying t = some d) (w : World) : (isAgg t).run P w = .ok (isAggD d) w := by
  cases d <;> simp [isAgg, run_underlying h, isAggD]

theorem zeroK_elim {t : TypeId} {k : AV → Prop} (h : zeroK C t k) : ∃ a cv, k a ∧ (∀ w, (zeroValue t).run C.P w = .ok cv w) ∧ ∀ (ι : Inj) n, VR ι n a cv := by
  unfold zeroK at h
  rw [infoK_iff] at h; obtain ⟨i, hi, h⟩ := h
  rw [optK_iff] at h; obtain ⟨z, hz, h⟩ := h
  rw [optK_iff] at h; obtain ⟨a, ha, h⟩ := h
  refine ⟨a, z, h, fun w => ?_, fun ι n => ofVal_sound ha ι n⟩
  simp [zeroValue, run_info hi, hz]

/-- A part of a struct's or an array's cells. -/
theorem partA_elim {t : TypeId} {cs : List AV} {off : Nat} {k : AV → Prop} (h : partA C t cs off k) {vs : Array Value} (hv : VRs ι n cs vs.toList) :
    ∃ a cv, k a ∧ VR ι n a cv ∧ ∀ w, (part t vs off).run C.P w = .ok cv w := by
  unfold partA at h
  rw [infoK_iff] at h; obtain ⟨inf, hi, h⟩ := h
  rw [underK_iff] at h; obtain ⟨d, hd, h⟩ := h
  cases hag : isAggD d with
  | true =>
    rw [hag] at h
    rw [takeK_iff] at h; obtain ⟨hlen, h⟩ := h
    refine ⟨_, .agg (vs.extract off (off + inf.size)), h, ⟨_, rfl, ?_⟩, fun w => ?_⟩
    · have := (hv.drop off).take inf.size
      simpa [Array.toList_extract, List.extract] using this
    · simp [part, run_agg hd, hag, run_size hi]
  | false =>
    rw [hag] at h
    rw [nthK_iff] at h; obtain ⟨x, hx, h⟩ := h
    obtain ⟨y, hy, hvr⟩ := hv.get hx
    refine ⟨x, y, h, hvr, fun w => ?_⟩
    have hy' : vs[off]? = some y := by simpa using hy
    simp [part, run_agg hd, hag, hy']

theorem fieldsEq_elim {eq : EqT} {d : Nat} (heq : ∀ t x y k, eq t x y k → ∀ cx cy, VR ι n x cx → VR ι n y cy → ∃ b, k b ∧ ∀ w, (Op.equalIn d t cx cy).run C.P w = .ok b w) {xs ys : List AV} {cx cy : Array Value}
    (hx : VRs ι n xs cx.toList) (hy : VRs ι n ys cy.toList) : ∀ {fs : List Field} {k : Bool → Prop}, fieldsEq C eq fs xs ys k → ∃ b, k b ∧ ∀ w, (Op.eqFields d cx cy fs).run C.P w = .ok b w
  | [], k, h => ⟨true, h, fun w => by simp [Op.eqFields]⟩
  | f :: fs, k, h => by
    unfold fieldsEq at h
    rw [assertB_iff] at h; obtain ⟨hn, h⟩ := h
    obtain ⟨a, ca, h, hva, hra⟩ := partA_elim h hx
    obtain ⟨b, cb, h, hvb, hrb⟩ := partA_elim h hy
    obtain ⟨r, h, hr⟩ := heq _ _ _ _ h ca cb hva hvb
    have hname : f.name ≠ "_" := by simpa using hn
    cases fs with
    | nil =>
      refine ⟨r, h, fun w => ?_⟩
      simp only [Op.eqFields, if_pos hname, Sem.run_bind, hra, hrb, hr, Result.andThen_ok]
      cases r <;> simp
    | cons g fs =>
      obtain ⟨r', h, hr'⟩ := fieldsEq_elim heq hx hy (fs := g :: fs) h
      refine ⟨r && r', h, fun w => ?_⟩
      rw [Op.eqFields, if_pos hname]
      simp only [Sem.run_bind, hra, hrb, hr, Result.andThen_ok]
      cases r with
      | true => simpa using hr' w
      | false => simp

set_option maxHeartbeats 4000000 in
theorem eqA_elim : ∀ (d : Nat) (D : Nat) (_ : d ≤ D) (t : TypeId) (x y : AV) (k : Bool → Prop), eqA C d t x y k → ∀ cx cy, VR ι n x cx → VR ι n y cy →
    ∃ b, k b ∧ ∀ w, (Op.equalIn D t cx cy).run C.P w = .ok b w
  | 0, _, _, _, _, _, _, h, _, _, _, _ => by simp [eqA] at h
  | d + 1, 0, hD, _, _, _, _, _, _, _, _, _ => by omega
  | d + 1, D + 1, hD, t, x, y, k, h, cx, cy, hx, hy => by
    unfold eqA at h
    split at h
    all_goals try simp only [VR] at hx hy
    case _ a b =>
      rw [underK_iff] at h; obtain ⟨dd, hd, h⟩ := h
      subst hx hy
      split at h
      · exact ⟨_, h, fun w => by simp [Op.equalIn, run_underlying hd]⟩
      · exact h.elim
    case _ kd a kd' b =>
      rw [underK_iff] at h; obtain ⟨dd, hd, h⟩ := h
      subst hx hy
      split at h
      · rw [assertB_iff] at h; obtain ⟨hk, h⟩ := h
        have hk : kd = kd' := by simpa using hk
        subst hk
        exact ⟨_, h, fun w => by simp [Op.equalIn, run_underlying hd]⟩
      · exact h.elim
    case _ a b =>
      rw [underK_iff] at h; obtain ⟨dd, hd, h⟩ := h
      subst hx hy
      split at h
      · exact ⟨_, h, fun w => by simp [Op.equalIn, run_underlying hd, beq_toListBytes, strEq]⟩
      · exact h.elim
    case _ =>
      rw [underK_iff] at h; obtain ⟨dd, hd, h⟩ := h
      subst hx hy
      split at h
      · exact ⟨_, h, fun w => by simp [Op.equalIn, run_underlying hd]⟩
      · exact h.elim
    case _ =>
      rw [underK_iff] at h; obtain ⟨dd, hd, h⟩ := h
      obtain ⟨_, _, rfl⟩ := hy
      subst hx
      split at h
      · exact ⟨_, h, fun w => by simp [Op.equalIn, run_underlying hd]⟩
      · exact h.elim
    case _ =>
      rw [underK_iff] at h; obtain ⟨dd, hd, h⟩ := h
      obtain ⟨_, _, rfl⟩ := hx
      subst hy
      split at h
      · exact ⟨_, h, fun w => by simp [Op.equalIn, run_underlying hd]⟩
      · exact h.elim
    case _ =>
      rw [underK_iff] at h; obtain ⟨dd, hd, h⟩ := h
      subst hx hy
      split at h
      · exact ⟨_, h, fun w => by simp [Op.equalIn, run_underlying hd]⟩
      · exact h.elim
    case _ =>
      rw [underK_iff] at h; obtain ⟨dd, hd, h⟩ := h
      obtain ⟨_, _, _, a, _, _, rfl⟩ := hy
      subst hx
      split at h
      · exact ⟨_, h, fun w => by simp [Op.equalIn, run_underlying hd]⟩
      · exact h.elim
    case _ =>
      rw [underK_iff] at h; obtain ⟨dd, hd, h⟩ := h
      obtain ⟨_, _, _, a, _, _, rfl⟩ := hx
      subst hy
      split at h
      · exact ⟨_, h, fun w => by simp [Op.equalIn, run_underlying hd]⟩
      · exact h.elim
    case _ =>
      rw [underK_iff] at h; obtain ⟨dd, hd, h⟩ := h
      subst hx hy
      split at h
      · exact ⟨_, h, fun w => by simp [Op.equalIn, run_underlying hd]⟩
      · exact h.elim
    case _ =>
      rw [underK_iff] at h; obtain ⟨dd, hd, h⟩ := h
      obtain ⟨_, rfl⟩ := hy
      subst hx
      split at h
      · exact ⟨_, h, fun w => by simp [Op.equalIn, run_underlying hd]⟩
      · exact h.elim
    case _ =>
      rw [underK_iff] at h; obtain ⟨dd, hd, h⟩ := h
      obtain ⟨_, rfl⟩ := hx
      subst hy
      split at h
      · exact ⟨_, h, fun w => by simp [Op.equalIn, run_underlying hd]⟩
      · exact h.elim
    case _ =>
      rw [underK_iff] at h; obtain ⟨dd, hd, h⟩ := h
      subst hx hy
      split at h
      · exact ⟨_, h, fun w => by simp [Op.equalIn, run_underlying hd]⟩
      · exact h.elim
    case _ =>
      rw [underK_iff] at h; obtain ⟨dd, hd, h⟩ := h
      obtain ⟨_, _, rfl, _⟩ := hy
      subst hx
      split at h
      · exact ⟨_, h, fun w => by simp [Op.equalIn, run_underlying hd]⟩
      · exact h.elim
    case _ =>
      rw [underK_iff] at h; obtain ⟨dd, hd, h⟩ := h
      obtain ⟨_, _, rfl, _⟩ := hx
      subst hy
      split at h
      · exact ⟨_, h, fun w => by simp [Op.equalIn, run_underlying hd]⟩
      · exact h.elim
    case _ =>
      rw [underK_iff] at h; obtain ⟨dd, hd, h⟩ := h
      subst hx hy
      split at h
      · exact ⟨_, h, fun w => by simp [Op.equalIn, run_underlying hd]⟩
      · exact h.elim
    case _ =>
      rw [underK_iff] at h; obtain ⟨dd, hd, h⟩ := h
      obtain ⟨_, rfl, _⟩ := hy
      subst hx
      split at h
      · exact ⟨_, h, fun w => by simp [Op.equalIn, run_underlying hd]⟩
      · exact h.elim
    case _ =>
      rw [underK_iff] at h; obtain ⟨dd, hd, h⟩ := h
      obtain ⟨_, rfl, _⟩ := hx
      subst hy
      split at h
      · exact ⟨_, h, fun w => by simp [Op.equalIn, run_underlying hd]⟩
      · exact h.elim
    case _ t1 v1 t2 v2 =>
      rw [underK_iff] at h; obtain ⟨dd, hd, h⟩ := h
      obtain ⟨c1, rfl, hv1⟩ := hx
      obtain ⟨c2, rfl, hv2⟩ := hy
      split at h
      · cases hb : Nat.beq t1 t2 with
        | true =>
          rw [hb] at h
          have : t1 = t2 := Nat.eq_of_beq_eq_true hb
          subst this
          rw [infoK_iff] at h; obtain ⟨i, hi, h⟩ := h
          rw [assertB_iff] at h; obtain ⟨hc, h⟩ := h
          obtain ⟨b, h, hr⟩ := eqA_elim d D (by omega) t1 v1 v2 k h c1 c2 hv1 hv2
          exact ⟨b, h, fun w => by simp [Op.equalIn, run_underlying hd, run_info hi, hc, hr]⟩
        | false =>
          rw [hb] at h
          have : t1 ≠ t2 := fun e => by subst e; simp at hb
          exact ⟨false, h, fun w => by simp [Op.equalIn, run_underlying hd, this]⟩
      · exact h.elim
    case _ xs ys =>
      rw [underK_iff] at h; obtain ⟨dd, hd, h⟩ := h
      obtain ⟨c1, rfl, hv1⟩ := hx
      obtain ⟨c2, rfl, hv2⟩ := hy
      split at h
      · rename_i fs
        rw [assertB_iff] at h; obtain ⟨hs, h⟩ := h
        obtain ⟨b, h, hr⟩ := fieldsEq_elim (d := D) (fun t x y k h cx cy hx hy => eqA_elim d D (by omega) t x y k h cx cy hx hy) hv1 hv2 h
        have hf : C.P.fieldsOf t = fs := by simp [Program.fieldsOf, hd]
        refine ⟨b, h, fun w => ?_⟩
        rw [run_equalIn_struct w D t c1 c2 (by rw [hf]; exact hd) (by simpa using hs), hf]
        exact hr w
      · exact h.elim
    case _ => exact h.elim

set_option maxHeartbeats 4000000 in
/-- '==' and '!=' on what is neither two numbers nor two strings. -/
theorem eqRun (ng : Bool) {t : TypeId} {x y : AV} {cx cy : Value} {b : Bool} {cst : Bool} {xo yo : Operand} (hr : ∀ w, (Op.equal t cx cy).run C.P w = .ok b w) (hok : eqOk C cst t x y = true) (hc : cst = (isConstO xo || isConstO yo))
    (hx : VR ι n x cx) (hy : VR ι n y cy) (h1 : ∀ k a k' b, x = .int k a → y = .int k' b → False) (h2 : ∀ a b, x = .str a → y = .str b → False) :
    ∀ w, (do eqGuard (if ng then .neq else .eql) t xo yo cx cy; Go.binOp (if ng then .neq else .eql) t cx cy : Sem Value).run C.P w = .ok (.bool (if ng then !b else b)) w := by
  have key : ∀ op : BinOp, (op = .eql ∨ op = .neq) → (∀ w, (eqGuard op t xo yo cx cy).run C.P w = .ok () w) ∧
      (Go.binOp .eql t cx cy = do pure (.bool (← Op.equal t cx cy))) ∧ (Go.binOp .neq t cx cy = do pure (.bool (!(← Op.equal t cx cy)))) := by
    intro op ho
    cases x <;> cases y <;> simp only [VR] at hx hy <;> simp only [eqOk] at hok <;>
      (try obtain ⟨_, _, rfl⟩ := hx) <;> (try obtain ⟨_, _, rfl⟩ := hy) <;> (try obtain ⟨_, _, _, _, _, _, rfl⟩ := hx) <;> (try obtain ⟨_, _, _, _, _, _, rfl⟩ := hy) <;>
      (try obtain ⟨_, rfl⟩ := hx) <;> (try obtain ⟨_, rfl⟩ := hy) <;> (try obtain ⟨_, _, rfl, _⟩ := hx) <;> (try obtain ⟨_, _, rfl, _⟩ := hy) <;>
      (try obtain ⟨_, rfl, _⟩ := hx) <;> (try obtain ⟨_, rfl, _⟩ := hy) <;> (try subst hx) <;> (try subst hy) <;>
      first
        | exact (h1 _ _ _ _ rfl rfl).elim
        | exact (h2 _ _ rfl rfl).elim
        | (refine ⟨fun w => ?_, rfl, rfl⟩; rcases ho with rfl | rfl <;> simp [eqGuard, run_program] <;> (try simp_all) <;> done)
        | skip
    refine ⟨fun w => ?_, rfl, rfl⟩
    rcases ho with rfl | rfl <;> cases xo <;> cases yo <;> simp_all [eqGuard, isConstO]
  obtain ⟨hg, he, hn⟩ := key (if ng then .neq else .eql) (by cases ng <;> simp)
  intro w
  rw [Sem.run_bind, hg w]
  cases ng <;> simp [he, hn, hr]

/-- What an operation on two values hands back. -/
theorem binA_elim {op : BinOp} {cst : Bool} {t : TypeId} {x y : AV} {K : KV} (h : binA C op cst t x y K) {cx cy : Value} (hx : VR ι n x cx) (hy : VR ι n y cy) (xo yo : Operand) (hc : cst = (isConstO xo || isConstO yo)) :
    ∃ v cv, K v ∧ VR ι n v cv ∧ ∀ w, (do eqGuard op t xo yo cx cy; Go.binOp op t cx cy : Sem Value).run C.P w = .ok cv w := by
  unfold binA at h
  split at h
  · simp only [VR] at hx hy; subst hx hy
    rw [assertB_iff] at h; obtain ⟨hb, h⟩ := h
    have hb := of_decide_eq_true hb
    exact ⟨_, _, h, rfl, fun w => by simp [eqGuard, Go.binOp, Op.shift, shlA, Int.not_lt.2 hb]⟩
  · simp only [VR] at hx hy; subst hx hy
    rw [assertB_iff] at h; obtain ⟨hb, h⟩ := h
    have hb := of_decide_eq_true hb
    exact ⟨_, _, h, rfl, fun w => by simp [eqGuard, Go.binOp, Op.shift, shrA, Int.not_lt.2 hb]⟩
  · rename_i k a k' b hs1 hs2
    simp only [VR] at hx hy; subst hx hy
    obtain ⟨hk, h2⟩ := assertB_iff.1 h
    clear h
    have hk : k = k' := by simpa using hk
    subst hk
    split at h2
    · exact ⟨_, _, h2, rfl, fun w => by simp [eqGuard, Go.binOp, Op.intArith]⟩
    · exact ⟨_, _, h2, rfl, fun w => by simp [eqGuard, Go.binOp, Op.intArith]⟩
    · exact ⟨_, _, h2, rfl, fun w => by simp [eqGuard, Go.binOp, Op.intArith]⟩
    · rw [assertB_iff] at h2; obtain ⟨hb, h2⟩ := h2
      exact ⟨_, _, h2, rfl, fun w => by simp at hb; simp [eqGuard, Go.binOp, Op.intDiv, hb]⟩
    · rw [assertB_iff] at h2; obtain ⟨hb, h2⟩ := h2
      exact ⟨_, _, h2, rfl, fun w => by simp at hb; simp [eqGuard, Go.binOp, Op.intDiv, hb]⟩
    · exact ⟨_, _, h2, rfl, fun w => by simp [eqGuard, Go.binOp, Op.intBits, aBits]⟩
    · exact ⟨_, _, h2, rfl, fun w => by simp [eqGuard, Go.binOp, Op.intBits, aBits]⟩
    · exact ⟨_, _, h2, rfl, fun w => by simp [eqGuard, Go.binOp, Op.intBits, aBits]⟩
    · exact ⟨_, _, h2, rfl, fun w => by simp [eqGuard, Go.binOp, Op.intBits, aBits]⟩
    · exact ⟨_, _, h2, rfl, fun w => by simp [eqGuard, Go.binOp, Op.intCmp]⟩
    · exact ⟨_, _, h2, rfl, fun w => by simp [eqGuard, Go.binOp, Op.intCmp]⟩
    · exact ⟨_, _, h2, rfl, fun w => by simp [eqGuard, Go.binOp, Op.intCmp]⟩
    · exact ⟨_, _, h2, rfl, fun w => by simp [eqGuard, Go.binOp, Op.intCmp]⟩
    · exact ⟨_, _, h2, rfl, fun w => by simp [eqGuard, Go.binOp, Op.intCmp]⟩
    · exact ⟨_, _, h2, rfl, fun w => by simp [eqGuard, Go.binOp, Op.intCmp]⟩
    · exact h2.elim
  · rename_i a b
    simp only [VR] at hx hy; subst hx hy
    split at h
    · rw [assertB_iff] at h; obtain ⟨hb, h⟩ := h
      have hb := Nat.le_of_ble_eq_true hb
      have hm : IntKind.i64.max = 9223372036854775807 := rfl
      refine ⟨_, _, h, rfl, fun w => ?_⟩
      simp only [eqGuard, Go.binOp, Op.stringOp, hm]
      rw [Sem.run_bind]
      simp
      omega
    · exact ⟨_, _, h, rfl, fun w => by simp [eqGuard, Go.binOp, Op.stringOp, strEq]⟩
    · exact ⟨_, _, h, rfl, fun w => by simp [eqGuard, Go.binOp, Op.stringOp, strEq]⟩
    · exact ⟨_, _, h, rfl, fun w => by simp [eqGuard, Go.binOp, Op.stringOp, strLt]⟩
    · exact ⟨_, _, h, rfl, fun w => by simp [eqGuard, Go.binOp, Op.stringOp, strLt, strEq]⟩
    · exact ⟨_, _, h, rfl, fun w => by simp [eqGuard, Go.binOp, Op.stringOp, strLt, strEq]⟩
    · exact ⟨_, _, h, rfl, fun w => by simp [eqGuard, Go.binOp, Op.stringOp, strLt]⟩
    · exact h.elim
  · rename_i hn1 hn2
    obtain ⟨hok, h2⟩ := assertB_iff.1 h
    clear h
    obtain ⟨b, h2, hr⟩ := eqA_elim 40 10000 (by omega) t x y _ h2 cx cy hx hy
    exact ⟨_, _, h2, rfl, eqRun false (by simp [Op.equal, Op.maxDepth, hr]) hok hc hx hy (fun k a k' b h1 h2 => hn1 _ _ _ _ h1 h2) (fun a b h1 h2 => hn2 _ _ h1 h2)⟩
  · rename_i hn1 hn2
    obtain ⟨hok, h2⟩ := assertB_iff.1 h
    clear h
    obtain ⟨b, h2, hr⟩ := eqA_elim 40 10000 (by omega) t x y _ h2 cx cy hx hy
    exact ⟨_, _, h2, rfl, eqRun true (by simp [Op.equal, Op.maxDepth, hr]) hok hc hx hy (fun k a k' b h1 h2 => hn1 _ _ _ _ h1 h2) (fun a b h1 h2 => hn2 _ _ h1 h2)⟩
  · exact h.elim
end Go.Am
