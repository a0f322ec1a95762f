/- Maps whose keys are numbers, strings or bools. -/
import Derived.Test.YtneeggnlgonilaaGreatDoorAmOpG
import Derived.MapKept
namespace Go.Am
variable {C : Ctx} {ι : Inj} {w0 : World} {O : Nat → Prop} {h : Heap} {w : World}

def KeyFits (d : TypeDesc) (key : AV) : Prop := (∃ k k' n, d = .int k ∧ key = .int k' n) ∨ (d = .string ∧ ∃ s, key = .str s) ∨ (d = .bool ∧ ∃ b, key = .bool b)

theorem byteArr_beq (a b : ByteArray) : (a == b) = true ↔ a = b := by
  obtain ⟨x⟩ := a
  obtain ⟨y⟩ := b
  constructor
  · intro h
    have e : x = y := by simpa using (show (x == y) = true from h)
    rw [e]
  · intro h
    cases h
    show (x == x) = true
    simp

theorem plainKey_elim {t : TypeId} {key : AV} {k : Prop} (hk : plainKey C t key k) : ∃ d, C.P.underlying t = some d ∧ KeyFits d key ∧ k := by
  unfold plainKey at hk
  rw [underK_iff] at hk; obtain ⟨d, hd, hk⟩ := hk
  refine ⟨d, hd, ?_⟩
  split at hk
  · exact ⟨.inl ⟨_, _, _, rfl, rfl⟩, hk⟩
  · exact ⟨.inr (.inl ⟨rfl, _, rfl⟩), hk⟩
  · exact ⟨.inr (.inr ⟨rfl, _, rfl⟩), hk⟩
  · exact hk.elim

theorem keyEq_elim {a b : AV} {k : Bool → Prop} (hk : keyEq a b k) {n : Nat} {ca cb : Value} (ha : VR ι n a ca) (hb : VR ι n b cb) {d : TypeDesc} (hf : KeyFits d a) :
    ∃ r, k r ∧ Instr.sameNow d ca cb = some r ∧ (r = true → ca = cb ∧ a = b ∧ Instr.sameBits 10000 cb ca = true) := by
  rcases hf with ⟨k1, k2, x, rfl, rfl⟩ | ⟨rfl, s, rfl⟩ | ⟨rfl, s, rfl⟩
  · cases b <;> first | exact hk.elim | skip
    simp only [keyEq] at hk
    rw [assertB_iff] at hk; obtain ⟨he, hk⟩ := hk
    have he := of_decide_eq_true he
    subst he
    simp only [VR] at ha hb; subst ha hb
    exact ⟨_, hk, by simp [Instr.sameNow], fun h => by have h := eq_of_beq h; subst h; exact ⟨rfl, rfl, by simp [Instr.sameBits]⟩⟩
  · cases b <;> first | exact hk.elim | skip
    simp only [keyEq] at hk
    simp only [VR] at ha hb; subst ha hb
    exact ⟨_, hk, by simp [Instr.sameNow], fun h => by have h := (byteArr_beq _ _).1 h; subst h; exact ⟨rfl, rfl, by simp only [Instr.sameBits]; exact (byteArr_beq _ _).2 rfl⟩⟩
  · cases b <;> first | exact hk.elim | skip
    simp only [keyEq] at hk
    simp only [VR] at ha hb; subst ha hb
    exact ⟨_, hk, by simp [Instr.sameNow], fun h => by have h := eq_of_beq h; subst h; exact ⟨rfl, rfl, by simp [Instr.sameBits]⟩⟩

theorem findK_elim {key : AV} {n : Nat} {ck : Value} (hck : VR ι n key ck) {d : TypeDesc} (hf : KeyFits d key) : ∀ {es : List (AV × AV)} {k : AV → Prop} {nf : Prop} {l : List MapEntry} (i : Nat), findK key es k nf → ER ι n es l →
    (∃ v cv j, k v ∧ VR ι n v cv ∧ Instr.findNow d ck l i = some (some (j, cv))) ∨ (nf ∧ Instr.findNow d ck l i = some none)
  | [], k, nf, l, i, hk, he => by
    simp only [ER] at he; subst he
    exact .inr ⟨hk, rfl⟩
  | (k', v) :: r, k, nf, l, i, hk, he => by
    obtain ⟨e, es, rfl, h1, h2, h3⟩ := he
    simp only [findK] at hk
    obtain ⟨b, hk, hs, _⟩ := keyEq_elim hk hck h1 hf
    cases b with
    | true => rw [cond_true] at hk; exact .inl ⟨v, e.val, i, hk, h2, by simp [Instr.findNow, hs]⟩
    | false =>
      rw [cond_false] at hk
      rcases findK_elim hck hf (i + 1) hk h3 with ⟨v, cv, j, a1, a2, a3⟩ | ⟨a1, a2⟩
      · exact .inl ⟨v, cv, j, a1, a2, by simp [Instr.findNow, hs, a3]⟩
      · exact .inr ⟨a1, by simp [Instr.findNow, hs, a2]⟩

theorem run_checkKey2 {P : Program} {w : World} {kt : TypeId} {d : TypeDesc} {key : AV} {n : Nat} {k : Value} (hd : P.underlying kt = some d) (hf : KeyFits d key) (hck : VR ι n key k) (e : Bool) (m : Nat) : (Instr.checkKey e (m + 1) kt k).run P w = .ok () w := by
  unfold Instr.checkKey
  simp only [Sem.run_bind, run_underlying hd, Result.andThen]
  rcases hf with ⟨k1, k', x, rfl, rfl⟩ | ⟨rfl, s, rfl⟩ | ⟨rfl, s, rfl⟩ <;> simp only [VR] at hck <;> subst hck <;> simp

theorem findI_now {kd vd : IntKind} {k : IntKind} {x : Int} : ∀ {l : List MapEntry} (i : Nat), (∀ e ∈ l, ∃ x y, e.key = .int kd x ∧ e.val = .int vd y) →
    (findI l x = none ∧ Instr.findNow (.int k) (.int kd x) l i = some none) ∨ ∃ y j, findI l x = some y ∧ Instr.findNow (.int k) (.int kd x) l i = some (some (i + j, .int vd y)) ∧ (l[j]?).map (·.key) = some (.int kd x) ∧
      ∀ y', FR kd vd (l.modify j fun e => { e with key := .int kd x, val := .int vd y' }) (updM (findI l) x y')
  | [], i, h => .inl ⟨rfl, rfl⟩
  | e :: r, i, h => by
    obtain ⟨a, b, h1, h2⟩ := h e (by simp)
    have hr : ∀ e ∈ r, ∃ x y, e.key = .int kd x ∧ e.val = .int vd y := fun e he => h e (by simp [he])
    by_cases hx : a = x
    · subst hx
      refine .inr ⟨b, 0, by simp [findI, h1, h2], by simp [Instr.findNow, Instr.sameNow, h1, h2], by simp [h1], fun y' => ⟨?_, fun c => ?_⟩⟩
      · intro e' he'
        simp at he'
        rcases he' with rfl | he'
        · exact ⟨_, _, rfl, rfl⟩
        · exact hr e' he'
      · simp only [updM, findI, List.modify_zero_cons, h1, h2]
        by_cases hc : a = c
        · subst hc; simp
        · rw [if_neg hc, if_neg (fun h => hc h.symm), if_neg hc]
    · have hxa : (x == a) = false := by simpa using fun h : x = a => hx h.symm
      rcases findI_now (x := x) (k := k) (i + 1) hr with ⟨g1, g2⟩ | ⟨y, j, g1, g2, g3, g4⟩
      · exact .inl ⟨by simp [findI, h1, h2, hx, g1], by simp [Instr.findNow, Instr.sameNow, h1, g2, hxa]⟩
      · refine .inr ⟨y, j + 1, by simp [findI, h1, h2, hx, g1], by rw [show i + (j + 1) = i + 1 + j from by omega]; simp [Instr.findNow, Instr.sameNow, h1, g2, hxa], by simpa using g3, fun y' => ⟨?_, fun c => ?_⟩⟩
        · intro e' he'
          simp only [List.modify_succ_cons, List.mem_cons] at he'
          rcases he' with rfl | he'
          · exact ⟨_, _, h1, h2⟩
          · exact (g4 y').1 e' he'
        · have := (g4 y').2 c
          simp only [List.modify_succ_cons, updM, findI, h1, h2] at this ⊢
          by_cases hc : a = c
          · subst hc; simp [hx]
          · rw [if_neg hc, this]; simp [hc]

theorem findI_app {kd vd : IntKind} {x y : Int} {e0 : MapEntry} (h1 : e0.key = .int kd x) (h2 : e0.val = .int vd y) : ∀ {l : List MapEntry}, (∀ e ∈ l, ∃ x y, e.key = .int kd x ∧ e.val = .int vd y) → findI l x = none → FR kd vd (l ++ [e0]) (updM (findI l) x y)
  | [], h, hn => ⟨fun e he => by simp at he; subst he; exact ⟨_, _, h1, h2⟩, fun c => by
      simp only [List.nil_append, findI, h1, h2, updM]
      by_cases hc : x = c
      · subst hc; simp
      · rw [if_neg hc, if_neg (fun h => hc h.symm)]⟩
  | e :: r, h, hn => by
    obtain ⟨a, b, g1, g2⟩ := h e (by simp)
    have hr : ∀ e ∈ r, ∃ x y, e.key = .int kd x ∧ e.val = .int vd y := fun e he => h e (by simp [he])
    simp only [findI, g1, g2] at hn
    have hax : ¬ a = x := fun h => by rw [if_pos h] at hn; cases hn
    rw [if_neg hax] at hn
    obtain ⟨i1, i2⟩ := findI_app h1 h2 hr hn
    refine ⟨fun e' he' => ?_, fun c => ?_⟩
    · simp only [List.cons_append, List.mem_cons] at he'
      rcases he' with rfl | he'
      · exact ⟨_, _, g1, g2⟩
      · exact i1 e' he'
    · have := i2 c
      simp only [List.cons_append, updM, findI, g1, g2] at this ⊢
      by_cases hc : a = c
      · subst hc; simp [hax]
      · rw [if_neg hc, this]; simp [hc]

/-- What a map's place holds. -/
theorem lookupK_elim {t : TypeId} {m key : AV} {ok : Bool} {K : KV} (hk : lookupK C t m key ok h K) (H : HR w0 O ι h w) {cm ck : Value} (hm : VR ι h.nx m cm) (hck : VR ι h.nx key ck) :
    ∃ v cv, K v ∧ VR ι h.nx v cv ∧ (Instr.lookup t cm ck ok).run C.P w = .ok cv w := by
  unfold lookupK at hk
  rw [underK_iff] at hk; obtain ⟨d, hd, hk⟩ := hk
  cases d <;> try exact hk.elim
  rename_i kt et
  simp only at hk
  obtain ⟨kd, hkd, hf, hk⟩ := plainKey_elim hk
  have none_ : (zeroK C et fun z => @cond Prop ok (K (.tup [z, .bool false])) (K z)) →
      ∃ v cv, K v ∧ VR ι h.nx v cv ∧ ∃ cz, (∀ w, (zeroValue et).run C.P w = .ok cz w) ∧ cv = if ok = true then .tuple #[cz, .bool false] else cz := by
    intro hz
    obtain ⟨z, cz, hz, hrz, hvz⟩ := zeroK_elim hz
    cases ok with
    | true => exact ⟨_, .tuple #[cz, .bool false], hz, ⟨_, rfl, _, _, rfl, hvz _ _, _, _, rfl, rfl, rfl⟩, cz, hrz, by simp⟩
    | false => exact ⟨_, cz, hz, hvz _ _, cz, hrz, by simp⟩
  have some_ : ∀ {v : AV} {cv : Value}, @cond Prop ok (K (.tup [v, .bool true])) (K v) → VR ι h.nx v cv →
      ∃ v cv', K v ∧ VR ι h.nx v cv' ∧ cv' = if ok = true then .tuple #[cv, .bool true] else cv := by
    intro v cv hz hv
    cases ok with
    | true => exact ⟨_, .tuple #[cv, .bool true], hz, ⟨_, rfl, _, _, rfl, hv, _, _, rfl, rfl, rfl⟩, by simp⟩
    | false => exact ⟨_, cv, hz, hv, by simp⟩
  cases m <;> try exact hk.elim
  · simp only at hk
    simp only [VR] at hm; subst hm
    obtain ⟨v, cv, h1, h2, cz, h3, h4⟩ := none_ hk
    have hfn : Instr.findNow kd ck (#[] : Array MapEntry).toList 0 = some none := rfl
    have hf2 := MapKept.run_findKey (w := w) hkd hfn
    exact ⟨v, cv, h1, h2, by simp only [Array.toList_empty] at hf2; simp [Instr.lookup, run_underlying hd, run_checkKey2 hkd hf hck, hf2, h3, h4]⟩
  · rename_i b
    simp only at hk
    simp only [VR] at hm; obtain ⟨hb, rfl⟩ := hm
    rw [getK_heap] at hk; obtain ⟨x, hx, hk⟩ := hk
    cases x <;> try exact hk.elim
    · rename_i es
      simp only at hk
      obtain ⟨o, ho, ents, clock, rfl, her⟩ := H.get hx rfl
      rcases findK_elim hck hf 0 hk her with ⟨v, cv, j, h1, h2, h3⟩ | ⟨h1, h2⟩
      · obtain ⟨v, cv, h1, h2, h4⟩ := some_ h1 h2
        exact ⟨v, cv, h1, h2, by simp [Instr.lookup, run_underlying hd, MapKept.run_getObj_map ho, run_checkKey2 hkd hf hck, MapKept.run_findKey hkd h3, h4]⟩
      · obtain ⟨v, cv, h1, h3, cz, h4, h5⟩ := none_ h1
        exact ⟨v, cv, h1, h3, by simp [Instr.lookup, run_underlying hd, MapKept.run_getObj_map ho, run_checkKey2 hkd hf hck, MapKept.run_findKey hkd h2, h4, h5]⟩
    · rename_i k1 v1 g
      simp only at hk
      obtain ⟨o, ho, ents, clock, rfl, hall, hg⟩ := H.get hx rfl
      cases key <;> try exact hk.elim
      rename_i k2 a
      simp only at hk
      rw [assertB_iff] at hk; obtain ⟨he, hk⟩ := hk
      have he := of_decide_eq_true he
      subst he
      have hck0 := hck
      simp only [VR] at hck; subst hck
      have hdi : ∃ k, kd = .int k := by
        rcases hf with ⟨k1, k', x, rfl, e⟩ | ⟨_, s, e⟩ | ⟨_, s, e⟩
        · exact ⟨_, rfl⟩
        · cases e
        · cases e
      obtain ⟨k, rfl⟩ := hdi
      rcases findI_now (k := k) (x := a) 0 hall with ⟨g1, g2⟩ | ⟨y, j, g1, g2, _⟩
      · rw [← hg, g1] at hk
        simp only [Option.isSome_none, cond_false] at hk
        obtain ⟨v, cv, h1, h3, cz, h4, h5⟩ := none_ hk
        exact ⟨v, cv, h1, h3, by simp [Instr.lookup, run_underlying hd, MapKept.run_getObj_map ho, run_checkKey2 hkd hf hck0, MapKept.run_findKey hkd g2, h4, h5]⟩
      · rw [← hg, g1] at hk
        simp only [Option.isSome_some, cond_true, Option.getD_some] at hk
        obtain ⟨v, cv, h1, h2, h4⟩ := some_ (cv := .int v1 y) hk rfl
        exact ⟨v, cv, h1, h2, by simp [Instr.lookup, run_underlying hd, MapKept.run_getObj_map ho, run_checkKey2 hkd hf hck0, MapKept.run_findKey hkd g2, h4]⟩

theorem mapSetK_elim {key v : AV} {n : Nat} {ck cv : Value} (hck : VR ι n key ck) (hcv : VR ι n v cv) {d : TypeDesc} (hf : KeyFits d key) : ∀ {es : List (AV × AV)} {k : List (AV × AV) → Prop} {l : List MapEntry} (i : Nat), mapSetK key v es k → ER ι n es l →
    ∃ es', k es' ∧ ((∃ j old, Instr.findNow d ck l i = some (some (i + j, old)) ∧ (l[j]?).map (·.key) = some ck ∧ Instr.sameBits 10000 ck ck = true ∧ ER ι n es' (l.modify j fun e => { e with key := ck, val := cv })) ∨
      (Instr.findNow d ck l i = some none ∧ ∀ e : MapEntry, e.key = ck → e.val = cv → ER ι n es' (l ++ [e])))
  | [], k, l, i, hk, he => by
    simp only [ER] at he; subst he
    exact ⟨_, hk, .inr ⟨rfl, fun e h1 h2 => ⟨e, [], rfl, by rw [h1]; exact hck, by rw [h2]; exact hcv, rfl⟩⟩⟩
  | (k', x) :: r, k, l, i, hk, he => by
    obtain ⟨e, es, rfl, h1, h2, h3⟩ := he
    simp only [mapSetK] at hk
    obtain ⟨b, hk, hs, hb⟩ := keyEq_elim hk hck h1 hf
    cases b with
    | true =>
      rw [cond_true] at hk
      obtain ⟨e1, e2, e3⟩ := hb rfl
      rw [← e1] at e3
      exact ⟨_, hk, .inl ⟨0, e.val, by simp [Instr.findNow, hs], by simp [e1], e3, by
        rw [List.modify_zero_cons]
        exact ⟨_, es, rfl, by rw [← e2]; exact hck, hcv, h3⟩⟩⟩
    | false =>
      rw [cond_false] at hk
      obtain ⟨es', hk, hh⟩ := mapSetK_elim hck hcv hf (i + 1) hk h3
      rcases hh with ⟨j, old, a1, a2, a3, a4⟩ | ⟨a1, a2⟩
      · exact ⟨_, hk, .inl ⟨j + 1, old, by simp [Instr.findNow, hs, a1]; omega, by simpa using a2, a3, by
          rw [List.modify_succ_cons]
          exact ⟨e, _, rfl, h1, h2, a4⟩⟩⟩
      · exact ⟨_, hk, .inr ⟨by simp [Instr.findNow, hs, a1], fun e' h1' h2' => ⟨e, _, rfl, h1, h2, a2 e' h1' h2'⟩⟩⟩

/-- A map's place is set. -/
theorem mapPutK_elim {t : TypeId} {m key v : AV} {K : Heap → Prop} (hk : mapPutK C t m key v h K) (H : HR w0 O ι h w) {cm ck cv : Value} (hm : VR ι h.nx m cm) (hck : VR ι h.nx key ck) (hcv : VR ι h.nx v cv) :
    ∃ w' h', (Instr.mapUpdate t cm ck cv).run C.P w = .ok () w' ∧ K h' ∧ h'.nx = h.nx ∧ HR w0 O ι h' w' := by
  unfold mapPutK at hk
  rw [underK_iff] at hk; obtain ⟨d, hd, hk⟩ := hk
  cases d <;> try exact hk.elim
  rename_i kt et
  simp only at hk
  obtain ⟨kd, hkd, hf, hk⟩ := plainKey_elim hk
  obtain ⟨b, rfl⟩ : ∃ b, m = .mapr b := by cases m <;> first | exact ⟨_, rfl⟩ | exact hk.elim
  simp only at hk
  simp only [VR] at hm; obtain ⟨hb, rfl⟩ := hm
  rw [getK_heap] at hk; obtain ⟨x, hx, hk⟩ := hk
  have upd : ∀ {ents : Array MapEntry} {clock j : Nat} {old : Value}, w.heap[(ι b).blk]? = some (.map ents clock) → Instr.findNow kd ck ents.toList 0 = some (some (j, old)) → (ents.toList[j]?).map (·.key) = some ck → Instr.sameBits 10000 ck ck = true →
      (Instr.mapUpdate t (.map (some (ι b).blk)) ck cv).run C.P w = .ok () (w.putObj (ι b).blk (.map (ents.modify j fun e => { e with key := ck, val := cv }) clock)) := by
    intro ents clock j old ho h1 h2 h3
    have hck' : ((ents[j]?).map (·.key)).getD ck = ck := by
      rw [← Array.getElem?_toList, h2]; rfl
    simp [Instr.mapUpdate, run_underlying hd, MapKept.run_getObj_map ho, run_checkKey2 hkd hf hck, MapKept.run_findKey hkd h1, Instr.keyThatStays, hck', h3, MapKept.run_setObj_map _ ho, World.putObj]
  have app : ∀ {ents : Array MapEntry} {clock : Nat}, w.heap[(ι b).blk]? = some (.map ents clock) → Instr.findNow kd ck ents.toList 0 = some none →
      (Instr.mapUpdate t (.map (some (ι b).blk)) ck cv).run C.P w = .ok () (w.putObj (ι b).blk (.map (ents.push { key := ck, val := cv, born := clock }) (clock + 1))) := by
    intro ents clock ho h1
    simp [Instr.mapUpdate, run_underlying hd, MapKept.run_getObj_map ho, run_checkKey2 hkd hf hck, MapKept.run_findKey hkd h1, MapKept.run_setObj_map _ ho, World.putObj]
  cases x <;> try exact hk.elim
  · rename_i es
    simp only at hk
    obtain ⟨o, ho, ents, clock, rfl, her⟩ := H.get hx rfl
    obtain ⟨es', hk, hh⟩ := mapSetK_elim hck hcv hf 0 hk her
    rw [setK_heap] at hk; obtain ⟨_, hk⟩ := hk
    rcases hh with ⟨j, old, a1, a2, a3, a4⟩ | ⟨a1, a2⟩
    · rw [Nat.zero_add] at a1
      exact ⟨_, _, upd ho a1 a2 a3, hk, rfl, H.set hx rfl (turn_putObj ho) ⟨_, _, rfl, by rw [Array.toList_modify]; exact a4⟩⟩
    · exact ⟨_, _, app ho a1, hk, rfl, H.set hx rfl (turn_putObj ho) ⟨_, _, rfl, by rw [Array.toList_push]; exact a2 _ rfl rfl⟩⟩
  · rename_i k1 v1 g
    simp only at hk
    obtain ⟨o, ho, ents, clock, rfl, hall, hg⟩ := H.get hx rfl
    obtain ⟨k2, a, rfl⟩ : ∃ k2 a, key = .int k2 a := by cases key <;> first | exact ⟨_, _, rfl⟩ | exact hk.elim
    obtain ⟨k3, y, rfl⟩ : ∃ k3 y, v = .int k3 y := by cases v <;> first | exact ⟨_, _, rfl⟩ | exact hk.elim
    simp only at hk
    rw [assertB_iff, Bool.and_eq_true] at hk; obtain ⟨⟨he, he'⟩, hk⟩ := hk
    have he := of_decide_eq_true he
    have he' := of_decide_eq_true he'
    subst he he'
    rw [setK_heap] at hk; obtain ⟨_, hk⟩ := hk
    simp only [VR] at hck hcv; subst hck hcv
    have hdi : ∃ k, kd = .int k := by
      rcases hf with ⟨k1, k', x, rfl, e⟩ | ⟨_, s, e⟩ | ⟨_, s, e⟩
      · exact ⟨_, rfl⟩
      · cases e
      · cases e
    obtain ⟨k, rfl⟩ := hdi
    have hgf : updM g a y = updM (findI ents.toList) a y := by
      funext c; simp only [updM]; split
      · rfl
      · exact (hg c).symm
    rcases findI_now (k := k) (x := a) 0 hall with ⟨g1, g2⟩ | ⟨y0, j, g1, g2, g3, g4⟩
    · exact ⟨_, _, app ho g2, hk, rfl, H.set hx rfl (turn_putObj ho) ⟨_, _, rfl, by rw [Array.toList_push, hgf]; exact findI_app rfl rfl hall g1⟩⟩
    · rw [Nat.zero_add] at g2
      exact ⟨_, _, upd ho g2 g3 (by simp [Instr.sameBits]), hk, rfl, H.set hx rfl (turn_putObj ho) ⟨_, _, rfl, by rw [Array.toList_modify, hgf]; exact g4 y⟩⟩

theorem makeMapK_elim {t : TypeId} {K : KR} (hk : h.pushK (.mp []) fun b h' => K (.mapr b) h') (H : HR w0 O ι h w) : ∃ cv w', (Instr.makeMap t none).run C.P w = .ok cv w' ∧ Done w0 O ι h K cv w' := by
  rw [pushK_heap] at hk
  have H' := H.push (.mp []) (.map #[] 0) 0 0 ⟨_, _, rfl, rfl⟩
  refine ⟨.map (some w.heap.size), _, by simp [Instr.makeMap, newObj]; rfl, _, _, _, hk, newI_ext _ _ _, by simp, H', ⟨by simp, by simp⟩⟩
end Go.Am
