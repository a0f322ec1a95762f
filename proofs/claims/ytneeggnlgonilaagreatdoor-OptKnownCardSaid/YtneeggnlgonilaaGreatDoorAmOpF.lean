/- Conversions, lengths, copy, make, maps. -/
import Derived.Test.YtneeggnlgonilaaGreatDoorAmOpE
namespace Go.Am
variable {C : Ctx} {ι : Inj} {w0 : World} {O : Nat → Prop} {h : Heap} {w : World}

theorem foldl_push (l : List Int) : ∀ (s : ByteArray), l.foldl (fun r n => r.push (UInt8.ofNat n.toNat)) s = ⟨⟨s.data.toList ++ l.map fun n => UInt8.ofNat n.toNat⟩⟩ := by
  induction l with
  | nil => intro s; obtain ⟨⟨l⟩⟩ := s; simp
  | cons x l ih =>
    intro s
    simp only [List.foldl_cons, ih, List.map_cons]
    congr 2
    simp

theorem bytes_done {g : Nat → Int} {b o n c : Nat} {a : Addr} {arr : Array Value} {e : TypeId} {fz : Nat × Nat} (hw : w.heap[b]? = some (.cells arr e fz)) (hco : n = 0 ∨ a = ⟨b, o, none⟩)
    (hg : ∀ i, i < n → arr[o + i]? = some (.int .u8 (g (o + i)))) : (Conv.bytesToString (.slice (some a) n c)).run C.P w = .ok (.string (strOf g o n)) w := by
  have hns : (List.range n).map (fun i => Value.int .u8 (g (o + i))) = ((List.range n).map fun i => g (o + i)).map (Value.int .u8) := by simp
  rw [run_bytesToString w a n c ((List.range n).map fun i => g (o + i))]
  · congr 2
    rw [foldl_push]
    simp [strOf]
  · rcases hco with h0 | h0
    · subst h0; simp [loadCells, loadCellsFrom]
    · subst h0
      have hl := run_loadCells (P := C.P) (w := w) (b := b) (o := o) ((List.range n).map fun i => Value.int .u8 (g (o + i))) fun m v hm => by
        rw [List.getElem?_map] at hm
        obtain ⟨i, hi, rfl⟩ := Option.map_eq_some_iff.1 hm
        obtain ⟨hlt, hi⟩ := List.getElem?_eq_some_iff.1 hi
        simp only [List.getElem_range] at hi
        subst hi
        rw [cell_of hw]
        exact hg m (by simpa using hlt)
      rw [← hns]
      simpa using hl

theorem freeze_push (w : World) (arr : Array Value) (e : TypeId) (k : Nat) : World.freeze { w with heap := w.heap.push (.cells arr e (0, 0)) } { block := w.heap.size, off := k } 1 = { w with heap := w.heap.push (.cells arr e (k, k + 1)) } := by
  unfold World.freeze
  rw [if_neg (by omega)]
  congr 1
  apply Array.ext_getElem?
  intro i
  simp only [Array.getElem?_modify, Array.getElem?_push]
  by_cases hi : i = w.heap.size
  · subst hi; simp
  · simp [hi, show ¬ w.heap.size = i from fun h => hi h.symm]

theorem convertK_elim {src dst : TypeId} {x : AV} {K : KR} (hk : convertK C src dst x h K) (H : HR w0 O ι h w) {cx : Value} (hx : VR ι h.nx x cx) :
    ∃ cv w', (Go.convert src dst cx).run C.P w = .ok cv w' ∧ Done w0 O ι h K cv w' := by
  unfold convertK at hk
  rw [underK_iff] at hk; obtain ⟨d, hd, hk⟩ := hk
  rw [underK_iff] at hk; obtain ⟨s, hs, hk⟩ := hk
  split at hk
  · simp only [VR] at hx; subst hx
    exact ⟨_, w, by simp [Go.convert, run_underlying hd, run_underlying hs, Conv.intToInt], Done.here H hk rfl⟩
  · simp only [VR] at hx; subst hx
    exact ⟨_, w, by simp [Go.convert, run_underlying hd, run_underlying hs], Done.here H hk rfl⟩
  · rename_i e s
    simp only [VR] at hx; subst hx
    rw [underK_iff] at hk; obtain ⟨ed, hed, hk⟩ := hk
    split at hk
    · rw [pushK_heap] at hk
      let q : Question := .appendCap s.size 0 e
      let cap := q.cut (w.tape w.drawn q)
      have hcap : s.size ≤ cap := by simp [cap, q, Question.cut]
      let arr : Array Value := (s.data.map fun b => Value.int .u8 b.toNat) ++ Array.replicate (cap - s.size) (.int .u8 0)
      have harr : arr.size = cap := by simp [arr]; omega
      have hext := newI_ext ι h.nx ⟨w.heap.size, cap, s.size⟩
      have H' := (H.push (.row true none s.size [rowOf s]) (.cells arr e (cap, cap + 1)) cap s.size ⟨arr, e, _, rfl, fun i hi j c hc => ?_, (fun c hc => by cases hc), rfl, hcap, fun _ => ⟨by simp [harr], fun k hk => by simp [Free] at hk ⊢; omega⟩⟩).drew (w.drawn + 1)
      refine ⟨.slice (some ⟨w.heap.size, 0, none⟩) s.size cap, _, ?_, _, _, _, hk, hext, Nat.le_succ _, H', ?_⟩
      · have hsh : ({ w with drawn := w.drawn + 1, heap := w.heap.push (.cells arr e (0, 0)) } : World).shape? w.heap.size = some (e, cap) := by
          simp [World.shape?, harr]
        have hfr := freeze_push { w with drawn := w.drawn + 1 } arr e cap
        have hrun : (markStringish ⟨w.heap.size, 0, none⟩).run C.P { w with drawn := w.drawn + 1, heap := w.heap.push (.cells arr e (0, 0)) } = .ok () { w with drawn := w.drawn + 1, heap := w.heap.push (.cells arr e (cap, cap + 1)) } := by
          unfold markStringish
          rw [Sem.run_bind, run_shape, Result.andThen_ok]
          show Sem.run C.P (match World.shape? { w with drawn := w.drawn + 1, heap := w.heap.push (.cells arr e (0, 0)) } w.heap.size with | some (_, n) => freeze { block := w.heap.size, off := n } 1 | _ => pure ()) _ = _
          rw [hsh]
          exact congrArg (Result.ok ()) hfr
        have hch : (choose (.appendCap s.size 0 e)).run C.P w = .ok cap { w with drawn := w.drawn + 1 } := by rw [run_choose]; rfl
        have hnr : (newRow e arr).run C.P { w with drawn := w.drawn + 1 } = .ok ⟨w.heap.size, 0, none⟩ { w with drawn := w.drawn + 1, heap := w.heap.push (.cells arr e (0, 0)) } := rfl
        have hst : (Conv.stringToBytes e s).run C.P w = .ok (.slice (some ⟨w.heap.size, 0, none⟩) s.size cap) { w with drawn := w.drawn + 1, heap := w.heap.push (.cells arr e (cap, cap + 1)) } := by
          unfold Conv.stringToBytes
          rw [Sem.run_bind, hch, Result.andThen_ok]
          show (do let a ← newRow e arr; markStringish a; pure (Value.slice (some a) s.size cap) : Sem Value).run C.P _ = _
          rw [Sem.run_bind, hnr, Result.andThen_ok, Sem.run_bind, hrun]
          rfl
        rw [← hst]
        simp [Go.convert, run_underlying hd, run_underlying hs, run_underlying hed]
      · simp only [VR, newI_same]
        exact ⟨Nat.lt_succ_self _, by simp, hcap, ⟨w.heap.size, 0, none⟩, rfl, .inr (by simp), by simp⟩
      · have hj : j = 0 := by have := (List.getElem?_eq_some_iff.1 hc).1; simpa using this
        subst hj
        simp at hc; subst hc
        have hil : i < s.data.size := hi
        simp only [List.length_cons, List.length_nil, Nat.zero_add, Nat.mul_one, Nat.add_zero, rowOf, Col.val, bAt_of hi, arr]
        rw [Array.getElem?_append_left (by simpa using hil)]
        rw [Array.getElem?_map, Array.getElem?_eq_getElem hil]
        rfl
    · exact hk.elim
  · rename_i e
    simp only [VR] at hx; subst hx
    rw [underK_iff] at hk; obtain ⟨ed, hed, hk⟩ := hk
    split at hk
    · exact ⟨_, w, by simp [Go.convert, run_underlying hd, run_underlying hs, run_underlying hed, Conv.bytesToString], Done.here H hk rfl⟩
    · exact hk.elim
  · rename_i e b z o n
    simp only [VR] at hx
    obtain ⟨hb, hon, hlc, a, ha, hco, rfl⟩ := hx
    rw [underK_iff] at hk; obtain ⟨ed, hed, hk⟩ := hk
    split at hk
    · rw [getK_heap] at hk; obtain ⟨blk, hblk, hk⟩ := hk
      have hrun : ∀ {v : Value}, (Conv.bytesToString (.slice (some a) n ((ι b).cap - o))).run C.P w = .ok v w → (Go.convert src dst (.slice (some a) n ((ι b).cap - o))).run C.P w = .ok v w := by
        intro v hv
        rw [run_convert_bytes_string w src dst e _ _ _ hs hed hd]; exact hv
      split at hk
      · rename_i wr cap m g
        rw [assertB_iff] at hk; obtain ⟨hz, hk⟩ := hk
        have hz : z = 1 := Nat.eq_of_beq_eq_true hz
        subst hz
        obtain ⟨ob, ho, arr, e', fz, rfl, hcs, _, hlen, _⟩ := H.get hblk rfl
        refine ⟨_, w, hrun (bytes_done (g := g) ho (o := o) (by rcases hco with h0 | h0; left; omega; right; simpa using h0) fun i hi => ?_), Done.here H hk rfl⟩
        have := hcs (o + i) (by omega) 0 (.int .u8 g) rfl
        simpa [Col.val] using this
      · rename_i wr z2 cap cs
        rw [assertB_iff] at hk; obtain ⟨hall, hk⟩ := hk
        simp only [Bool.and_eq_true] at hall
        have hz : z = 1 := Nat.eq_of_beq_eq_true hall.1
        subst hz
        rw [takeK_iff] at hk; obtain ⟨hle, hk⟩ := hk
        obtain ⟨ob, ho, arr, e', fz, rfl, hcs, _⟩ := H.get hblk rfl
        have hint : ∀ i, i < n → ∃ x, cs[o + i]? = some (.int .u8 x) ∧ arr[o + i]? = some (.int .u8 x) := by
          intro i hi
          obtain ⟨y, hy, hvr⟩ := hcs (o + i) _ (List.getElem?_eq_getElem (by omega))
          have hx := List.all_eq_true.1 hall.2 cs[o + i] (List.getElem_mem (by omega))
          rw [List.getElem?_eq_getElem (by omega)]
          cases hc : cs[o + i] with
          | int kd x =>
            rw [hc] at hx hvr
            cases kd <;> simp at hx
            simp only [VR] at hvr
            subst hvr
            exact ⟨x, rfl, hy⟩
          | _ => rw [hc] at hx; simp at hx
        have heq : strOf (fun i => intAt cs i) o n = strOf (intAt ((cs.drop o).take n)) 0 n := by
          unfold strOf
          congr 2
          apply List.map_congr_left
          intro i hi
          have hi : i < n := by simpa using hi
          obtain ⟨x, hx, _⟩ := hint i hi
          show UInt8.ofNat (intAt cs (o + i)).toNat = _
          rw [intAt_get hx, intAt_get (cs := (cs.drop o).take n) (i := 0 + i) (kd := .u8) (x := x) (by rw [List.getElem?_take, if_pos (by omega), List.getElem?_drop, Nat.zero_add]; exact hx)]
        rw [← heq] at hk
        refine ⟨_, w, hrun (bytes_done (g := fun i => intAt cs i) ho (o := o) (by rcases hco with h0 | h0; left; omega; right; simpa using h0) fun i hi => ?_), Done.here H hk rfl⟩
        obtain ⟨x, hx, hx2⟩ := hint i hi
        simp only [intAt_get hx, hx2]
      · exact hk.elim
    · exact hk.elim
  · exact hk.elim

theorem lenK_elim {argTypes : Array TypeId} {ty : TypeId} {x : AV} {K : KV} (hk : lenK C argTypes x h K) (H : HR w0 O ι h w) {cx : Value} (hx : VR ι h.nx x cx) :
    ∃ v cv, K v ∧ VR ι h.nx v cv ∧ (Builtin.len_ argTypes ty #[cx]).run C.P w = .ok cv w ∧ ((∀ t, argTypes[0]? = some t → ∀ a b, C.P.underlying t ≠ some (.map a b)) → ∀ w, (Builtin.len_ argTypes ty #[cx]).run C.P w = .ok cv w) := by
  unfold lenK at hk
  rw [optK_iff] at hk; obtain ⟨t, h0, hk⟩ := hk
  rw [underK_iff] at hk; obtain ⟨d, hd, hk⟩ := hk
  have quiet : ∀ {v : AV} {n : Int}, K v → v = .int .i64 n → (∀ w, (Builtin.len_ argTypes ty #[cx]).run C.P w = .ok (.int .i64 n) w) → ∃ v cv, K v ∧ VR ι h.nx v cv ∧ (Builtin.len_ argTypes ty #[cx]).run C.P w = .ok cv w ∧ ((∀ t, argTypes[0]? = some t → ∀ a b, C.P.underlying t ≠ some (.map a b)) → ∀ w, (Builtin.len_ argTypes ty #[cx]).run C.P w = .ok cv w) := by
    intro v n hk hv hr
    subst hv
    exact ⟨_, _, hk, rfl, hr w, fun _ => hr⟩
  split at hk
  · simp only [VR] at hx; subst hx
    exact quiet hk rfl fun w => by simp [Builtin.len_, h0, run_underlying hd, goInt]
  · exact quiet hk rfl fun w => by simp [Builtin.len_, h0, run_underlying hd, goInt]
  · simp only [VR] at hx; subst hx
    exact quiet hk rfl fun w => by simp [Builtin.len_, h0, run_underlying hd, goInt]
  · simp only [VR] at hx; obtain ⟨a, _, rfl⟩ := hx
    exact quiet hk rfl fun w => by simp [Builtin.len_, h0, run_underlying hd, goInt]
  · simp only [VR] at hx; obtain ⟨_, _, _, a, _, _, rfl⟩ := hx
    exact quiet hk rfl fun w => by simp [Builtin.len_, h0, run_underlying hd, goInt]
  · simp only [VR] at hx; subst hx
    exact quiet hk rfl fun w => by simp [Builtin.len_, h0, run_underlying hd, goInt]
  · rename_i b
    simp only [VR] at hx; obtain ⟨hb, rfl⟩ := hx
    rw [getK_heap] at hk; obtain ⟨blk, hblk, hk⟩ := hk
    split at hk
    · rename_i es
      obtain ⟨ob, ho, ents, clock, rfl, he⟩ := H.get hblk rfl
      have hl : ents.size = es.length := by
        have : ∀ {es : List (AV × AV)} {l : List MapEntry}, ER ι h.nx es l → l.length = es.length := by
          intro es
          induction es with
          | nil => intro l h; simp only [ER] at h; simp [h]
          | cons p es ih => intro l h; simp only [ER] at h; obtain ⟨e, es', rfl, _, _, h⟩ := h; simp [ih h]
        simpa using this he
      have hgo : (getObj (ι b).blk).run C.P w = .ok (.map ents clock) w := by simp [getObj, Sem.run, ho]
      refine ⟨_, _, hk, rfl, by simp [Builtin.len_, h0, run_underlying hd, hgo, goInt, hl], fun hne => absurd hd (hne t h0 _ _)⟩
    · exact hk.elim
  · exact hk.elim

theorem minMaxFrom_elim {mx : Bool} {k : IntKind} {n : Nat} : ∀ {l : List AV} {a : Int} {K : KV} {cl : List Value}, minMaxFrom mx k a l K → VRs ι n l cl → ∃ r, K (.int k r) ∧ ∀ w, (cl.foldlM (if mx then Builtin.max2 else Builtin.min2) (.int k a)).run C.P w = .ok (.int k r) w
  | [], a, K, cl, hk, hv => by simp only [VRs] at hv; subst hv; exact ⟨a, hk, fun w => by simp⟩
  | x :: l, a, K, cl, hk, hv => by
    simp only [VRs] at hv
    obtain ⟨y, ys, rfl, hx, hv⟩ := hv
    cases x <;> simp only [minMaxFrom] at hk
    rename_i k' b
    rw [assertB_iff] at hk; obtain ⟨he, hk⟩ := hk
    have he := of_decide_eq_true he
    subst he
    simp only [VR] at hx; subst hx
    cases mx with
    | true =>
      rw [cond_true] at hk
      obtain ⟨r, hk, hr⟩ := minMaxFrom_elim hk hv
      exact ⟨r, hk, fun w => by have := hr w; simp only [if_true] at this; simp [List.foldlM_cons, Builtin.max2, maxI] at this ⊢; exact this⟩
    | false =>
      rw [cond_false] at hk
      obtain ⟨r, hk, hr⟩ := minMaxFrom_elim hk hv
      exact ⟨r, hk, fun w => by have := hr w; simp only [Bool.false_eq_true, if_false] at this; simp [List.foldlM_cons, Builtin.min2, minI] at this ⊢; exact this⟩
end Go.Am
