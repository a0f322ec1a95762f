/- append. -/
import Derived.Test.YtneeggnlgonilaaGreatDoorAmOpD
namespace Go.Am
variable {C : Ctx} {ι : Inj} {w0 : World} {O : Nat → Prop} {h : Heap} {w : World}

/-- What is appended, or copied, against its cells. -/
def SrcR (ι : Inj) (nx z : Nat) (src : Src) (n : Nat) (news : List Value) : Prop :=
  match src with
  | .none => n = 0
  | .cells m cs => m = n ∧ VRs ι nx cs news
  | .row m o cols => m = n ∧ z = cols.length ∧ ∀ i, i < n → ∀ (j : Nat) (c : Col), cols[j]? = some c → news[i * z + j]? = some (c.val (o + i))

theorem mul_le_of {i n z : Nat} (h : i ≤ n) : i * z ≤ n * z := Nat.mul_le_mul_right z h

theorem srcK_elim {z : Nat} {x : AV} {k : Src → Prop} (hk : srcK z x h k) (H : HR w0 O ι h w) {cx : Value} (hx : VR ι h.nx x cx) :
    ∃ src n news, k src ∧ news.length = n * z ∧ (∀ P w, (Builtin.lenOf cx).run P w = .ok n w) ∧ SrcR ι h.nx z src n news ∧
      ∀ (P : Program) (w' : World) (m : Nat), w'.heap = w.heap → m ≤ n → (Builtin.firstCells z m cx).run P w' = .ok (news.take (m * z)).toArray w' := by
  unfold srcK at hk
  split at hk
  · simp only [VR] at hx; subst hx
    refine ⟨_, 0, [], hk, by simp, fun P w => by simp [Builtin.lenOf], rfl, fun P w' m _ hm => by simp [Builtin.firstCells]⟩
  · rename_i s
    simp only [VR] at hx; subst hx
    rw [assertB_iff] at hk; obtain ⟨hz, hk⟩ := hk
    have hz : z = 1 := Nat.eq_of_beq_eq_true hz
    subst hz
    refine ⟨_, s.size, s.data.toList.map fun b => .int .u8 b.toNat, hk, by simp, fun P w => by simp [Builtin.lenOf], ⟨rfl, rfl, ?_⟩, ?_⟩
    · intro i hi j c hc
      have hj : j = 0 := by have := (List.getElem?_eq_some_iff.1 hc).1; simpa using this
      subst hj
      simp at hc; subst hc
      have hil : i < s.data.toList.length := by simpa using hi
      simp only [Nat.mul_one, Nat.add_zero, List.getElem?_map, Nat.zero_add, rowOf, Col.val, bAt_of hi]
      rw [List.getElem?_eq_getElem hil]
      simp [ByteArray.getElem_eq_getElem_data]
    · intro P w' m _ hm
      simp only [Builtin.firstCells, Sem.run_pure, Nat.mul_one]
      congr 1
      apply Array.ext'
      simp [ByteArray.data_extract]
  · rename_i b z' o n
    simp only [VR] at hx
    obtain ⟨hb, hon, hlc, a, ha, hco, rfl⟩ := hx
    rw [assertB_iff] at hk; obtain ⟨hz, hk⟩ := hk
    have hz : z = z' := Nat.eq_of_beq_eq_true hz
    subst hz
    rw [getK_heap] at hk; obtain ⟨blk, hblk, hk⟩ := hk
    have hload : ∀ {arr : Array Value} {e : TypeId} {fz : Nat × Nat} {news : List Value}, w.heap[(ι b).blk]? = some (.cells arr e fz) → news.length = n * z → (∀ (q : Nat) v, news[q]? = some v → arr[o * z + q]? = some v) →
        ∀ (P : Program) (w' : World) (m : Nat), w'.heap = w.heap → m ≤ n → (Builtin.firstCells z m (.slice (some a) n ((ι b).cap - o))).run P w' = .ok (news.take (m * z)).toArray w' := by
      intro arr e fz news hw hl hn P w' m hw' hm
      simp only [Builtin.firstCells]
      have hlen : (news.take (m * z)).length = m * z := by
        have := mul_le_of (z := z) hm
        simp; omega
      rcases hco with h0 | h0
      · have hm0 : m = 0 := by omega
        subst hm0
        simp [loadCells, loadCellsFrom]
      · subst h0
        have hrl := run_loadCells (P := P) (w := w') (b := (ι b).blk) (o := o * z) (news.take (m * z))
        rw [hlen] at hrl
        refine hrl fun q v hq => ?_
        rw [cell_of (by rw [hw']; exact hw)]
        rw [List.getElem?_take] at hq
        split at hq
        · exact hn q v hq
        · cases hq
    split at hk
    · rename_i wr z2 cap cs
      rw [takeK_iff] at hk; obtain ⟨hle, hk⟩ := hk
      obtain ⟨ob, ho, arr, e, fz, rfl, hcs, _⟩ := H.get hblk rfl
      have hal : n * z = 0 ∨ o * z + n * z ≤ arr.size := by
        rcases Nat.eq_zero_or_pos (n * z) with h0 | h0
        · exact .inl h0
        · right
          obtain ⟨y, hy, _⟩ := hcs (o * z + n * z - 1) _ (by rw [List.getElem?_eq_getElem (by omega)])
          have := (Array.getElem?_eq_some_iff.1 hy).1
          omega
      refine ⟨_, n, (arr.toList.drop (o * z)).take (n * z), hk, by simp; omega, fun P w => by simp [Builtin.lenOf], ⟨rfl, ?_⟩, hload ho (by simp; omega) ?_⟩
      · refine VRs.of_get (by simp; omega) fun k a ha => ?_
        rw [List.getElem?_take] at ha
        split at ha
        · rename_i hkl
          rw [List.getElem?_drop] at ha
          obtain ⟨y, hy, hv⟩ := hcs _ a ha
          refine ⟨y, ?_, hv⟩
          rw [List.getElem?_take, if_pos hkl, List.getElem?_drop]
          simpa using hy
        · simp at ha
      · intro q v hq
        rw [List.getElem?_take] at hq
        split at hq
        · rw [List.getElem?_drop] at hq; simpa using hq
        · simp at hq
    · rename_i wr cap m cols
      rw [assertB_iff] at hk; obtain ⟨hzc, hk⟩ := hk
      have hzc : z = cols.length := Nat.eq_of_beq_eq_true hzc
      obtain ⟨ob, ho, arr, e, fz, rfl, hcs, _, hlen, _⟩ := H.get hblk rfl
      have hin : ∀ i, i < n → o + i < m := fun i hi => by omega
      have hal : n * z = 0 ∨ o * z + n * z ≤ arr.size := by
        rcases Nat.eq_zero_or_pos (n * z) with h0 | h0
        · exact .inl h0
        · right
          have hn0 : 0 < n := Nat.pos_of_mul_pos_right h0
          have hz0 : 0 < z := Nat.pos_of_mul_pos_left h0
          obtain ⟨c, hc⟩ : ∃ c, cols[z - 1]? = some c := ⟨_, List.getElem?_eq_getElem (by omega)⟩
          have := hcs (o + (n - 1)) (hin _ (by omega)) (z - 1) c hc
          have hlt := (Array.getElem?_eq_some_iff.1 this).1
          rw [← hzc, Nat.add_mul] at hlt
          have : (n - 1) * z + z = n * z := by
            have := Nat.succ_mul (n - 1) z
            rw [show (n - 1).succ = n from by omega] at this
            omega
          omega
      refine ⟨_, n, (arr.toList.drop (o * z)).take (n * z), hk, by simp; omega, fun P w => by simp [Builtin.lenOf], ⟨rfl, hzc, ?_⟩, hload ho (by simp; omega) ?_⟩
      · intro i hi j c hc
        have hjz : j < z := by have := (List.getElem?_eq_some_iff.1 hc).1; omega
        have hlt := row_lt (z := z) hi hjz
        rw [List.getElem?_take, if_pos hlt, List.getElem?_drop]
        have := hcs (o + i) (hin i hi) j c hc
        rw [← hzc, Nat.add_mul] at this
        rw [show o * z + (i * z + j) = o * z + i * z + j from by omega]
        simpa using this
      · intro q v hq
        rw [List.getElem?_take] at hq
        split at hq
        · rw [List.getElem?_drop] at hq; simpa using hq
        · simp at hq
    · exact hk.elim
  · exact hk.elim

/-- The cells of an array begin with these. -/
def Pre (arr : Array Value) (L : List Value) : Prop := ∀ (k : Nat) v, L[k]? = some v → arr[k]? = some v

theorem pre_take (arr : Array Value) (m : Nat) : Pre arr (arr.toList.take m) := by
  intro k v hkv
  rw [List.getElem?_take] at hkv
  split at hkv
  · simpa using hkv
  · cases hkv

/-- A block of n elements (z cells each), whatever lies behind. -/
def Holds (ι : Inj) (nx z : Nat) (x : Blk) (n : Nat) (L : List Value) : Prop :=
  match x with
  | .cells true z' none cs => z' = z ∧ VRs ι nx cs L ∧ L.length = n * z
  | .row true none m cols => m = n ∧ z = cols.length ∧ L.length = n * z ∧ ∀ i, i < n → ∀ (j : Nat) (c : Col), cols[j]? = some c → L[i * z + j]? = some (c.val i)
  | _ => False

theorem Holds.mono {ι' : Inj} {nx nx' z n : Nat} (he : Ext ι ι' nx) (hn : nx ≤ nx') {x : Blk} {L : List Value} (hh : Holds ι nx z x n L) : Holds ι' nx' z x n L := by
  unfold Holds at hh ⊢
  split at hh
  · exact ⟨hh.1, hh.2.1.mono he hn, hh.2.2⟩
  · exact hh
  · exact hh.elim

theorem Holds.br {nx z n cap B : Nat} {x : Blk} {L : List Value} {arr : Array Value} {e : TypeId} {fz : Nat × Nat} (hh : Holds ι nx z x n L) (hp : Pre arr L) (hn : n ≤ cap) (hs : cap * z ≤ arr.size) (hf : ∀ k, k < cap * z → Free fz k) :
    BR ι nx x ⟨B, cap, n⟩ (.cells arr e fz) := by
  unfold Holds at hh
  split at hh
  · obtain ⟨rfl, hv, hl⟩ := hh
    refine ⟨arr, e, fz, rfl, fun k a ha => ?_, (fun c hc => by cases hc), hn, fun _ => ⟨?_, hs, hf⟩⟩
    · obtain ⟨y, hy, hvr⟩ := hv.get ha
      exact ⟨y, hp k y hy, hvr⟩
    · have h1 := hv.length
      exact Nat.le_trans (Nat.le_of_eq (h1.symm.trans hl)) (Nat.mul_le_mul_right _ hn)
  · obtain ⟨rfl, rfl, hl, hr⟩ := hh
    exact ⟨arr, e, fz, rfl, fun i hi j c hc => hp _ _ (hr i hi j c hc), (fun c hc => by cases hc), rfl, hn, fun _ => ⟨hs, hf⟩⟩
  · exact hh.elim

theorem Holds.wr {nx z n : Nat} {x : Blk} {L : List Value} (hh : Holds ι nx z x n L) : x.wr = true ∧ L.length = n * z := by
  unfold Holds at hh
  split at hh
  · exact ⟨rfl, hh.2.2⟩
  · exact ⟨rfl, hh.2.2.1⟩
  · exact hh.elim

section
variable {st xt ty e : TypeId} {ie : TypeInfo} {xd : TypeDesc} {cz : Value} {argTypes : Array TypeId}

/-- The append that finds room. -/
theorem append_room {cx : Value} {base : Option Addr} {sLen sCap n : Nat} {news : List Value} (h0 : argTypes[0]? = some st) (h1 : argTypes[1]? = some xt) (hst : C.P.underlying st = some (.slice e)) (hi : C.P.info? e = some ie)
    (hxt : C.P.underlying xt = some xd) (hxd : ∀ k, xd ≠ .int k) (hlen : ∀ P w, (Builtin.lenOf cx).run P w = .ok n w) (hfc : (Builtin.firstCells ie.size n cx).run C.P w = .ok news.toArray w) (hroom : sLen + n ≤ sCap) :
    (Builtin.append_ argTypes ty #[.slice base sLen sCap, cx]).run C.P w = ((match base with | some a => storeCells (a.add (sLen * ie.size)) news | none => pure ()) >>= fun _ => (pure (.slice base (sLen + n) sCap) : Sem Value)).run C.P w := by
  have hzd : (match xd with | .int _ => true | _ => false) = false := by
    cases xd with
    | int k => exact absurd rfl (hxd k)
    | _ => rfl
  unfold Builtin.append_
  simp only [h0, h1, Sem.run_bind, run_underlying hst, run_underlying hxt, Result.andThen_ok, run_size hi, Sem.run_pure, List.getElem?_toArray, List.getElem?_cons_zero, List.getElem?_cons_succ]
  simp only [hzd, Bool.false_eq_true, if_false, hlen, Result.andThen_ok, Bool.not_false, if_true]
  simp only [Sem.run_bind, hlen, Result.andThen_ok]
  rw [if_pos hroom]
  cases base with
  | none => simp [hfc]
  | some a => simp [hfc]

/-- The append that grows. -/
theorem append_grow {cx : Value} {base : Option Addr} {sLen sCap n : Nat} {news olds : List Value} (h0 : argTypes[0]? = some st) (h1 : argTypes[1]? = some xt) (hst : C.P.underlying st = some (.slice e)) (hi : C.P.info? e = some ie)
    (hxt : C.P.underlying xt = some xd) (hxd : ∀ k, xd ≠ .int k) (hlen : ∀ P w, (Builtin.lenOf cx).run P w = .ok n w) (hfc : ∀ w' : World, w'.heap = w.heap → (Builtin.firstCells ie.size n cx).run C.P w' = .ok news.toArray w')
    (hold : ∀ w' : World, w'.heap = w.heap → (Builtin.firstCells ie.size sLen (.slice base sLen sCap)).run C.P w' = .ok olds.toArray w') (hz : ∀ w, (zeroValue e).run C.P w = .ok cz w) (hzs : cz.cells.size = ie.size)
    (hgrow : sCap < sLen + n) (hb : bound47 (sLen + n) ie.bytes = true) :
    ∃ newCap rest, sLen + n ≤ newCap ∧ rest.length = (newCap - (sLen + n)) * ie.size ∧
      (Builtin.append_ argTypes ty #[.slice base sLen sCap, cx]).run C.P w = .ok (.slice (some ⟨w.heap.size, 0, none⟩) (sLen + n) newCap) { w with drawn := w.drawn + 1, heap := w.heap.push (.cells ⟨olds ++ news ++ rest⟩ e (0, 0)) } := by
  have hzd : (match xd with | .int _ => true | _ => false) = false := by
    cases xd with
    | int k => exact absurd rfl (hxd k)
    | _ => rfl
  simp only [bound47, Bool.and_eq_true] at hb
  have hb1 := Nat.le_of_ble_eq_true hb.1
  have hb2 : 0 < ie.bytes := by have := hb.2; simp only [Nat.blt] at this; exact Nat.lt_of_succ_le (Nat.le_of_ble_eq_true this)
  have hfit := growslice_fits hgrow hb1
  let q : Question := .appendCap (sLen + n) sCap e
  let newCap := q.cut (w.tape w.drawn q)
  have hcap : sLen + n ≤ newCap := by simp [newCap, q, Question.cut]
  refine ⟨newCap, (Builtin.zeroCells cz.cells (newCap - (sLen + n))).toList, hcap, by simp [size_zeroCells, hzs], ?_⟩
  unfold Builtin.append_
  simp only [h0, h1, Sem.run_bind, run_underlying hst, run_underlying hxt, Result.andThen_ok, run_size hi, Sem.run_pure, List.getElem?_toArray, List.getElem?_cons_zero, List.getElem?_cons_succ]
  simp only [hzd, Bool.false_eq_true, if_false, hlen, Result.andThen_ok, Bool.not_false, if_true]
  simp only [Sem.run_bind, hlen, Result.andThen_ok]
  rw [if_neg (by omega)]
  simp only [Sem.run_bind, run_info hi, Result.andThen_ok]
  rw [if_neg (by simp; omega)]
  simp only [Sem.run_bind, run_info hi, Result.andThen_ok]
  rw [if_neg (by omega)]
  have hforced : q.forced = false := rfl
  have hch : (choose (.appendCap (sLen + n) sCap e)).run C.P w = .ok newCap { w with drawn := w.drawn + 1 } := by
    rw [run_choose]; rfl
  simp only [Sem.run_bind, hch, Result.andThen_ok, run_info hi, run_askRoom, hold { w with drawn := w.drawn + 1 } rfl, hfc { w with drawn := w.drawn + 1 } rfl, hz]
  simp only [newRow, Sem.run_bind, run_newObj, Result.andThen_ok, Sem.run_pure]
  congr 3
  congr 1
  apply Array.ext'
  simp
end

/-- What is told of an append: n elements L, in new memory or in the old one's. -/
theorem fresh_done {K : KR} {x : Blk} {z n newCap : Nat} {L rest : List Value} {e : TypeId} (H : HR w0 O ι h w) (hh : Holds ι h.nx z x n L) (hn : n ≤ newCap) (hr : rest.length = (newCap - n) * z) {h0 : Heap} (h0n : h0.nx = h.nx) (H0 : HR w0 O ι h0 w)
    (hk : h0.pushK x fun b h' => K (.slc b z 0 n) h') (d : Nat) :
    Done w0 O ι h K (.slice (some ⟨w.heap.size, 0, none⟩) n newCap) { w with drawn := d, heap := w.heap.push (.cells ⟨L ++ rest⟩ e (0, 0)) } := by
  rw [pushK_heap] at hk
  have hext := newI_ext ι h0.nx ⟨w.heap.size, newCap, n⟩
  have hl := hh.wr.2
  have hnz : newCap * z = n * z + (newCap - n) * z := by rw [← Nat.add_mul]; congr 1; omega
  have hh' : Holds (newI ι h0.nx ⟨w.heap.size, newCap, n⟩) (h0.nx + 1) z x n L := by rw [h0n] at hext ⊢; exact hh.mono hext (Nat.le_succ _)
  have H' := (H0.push x (.cells ⟨L ++ rest⟩ e (0, 0)) newCap n (hh'.br (fun k v hk => by
      have hlt := (List.getElem?_eq_some_iff.1 hk).1
      rw [show (⟨L ++ rest⟩ : Array Value) = (L ++ rest).toArray from rfl, List.getElem?_toArray]
      rw [List.getElem?_append, if_pos hlt, hk]) hn (by simp; omega) (fun k _ => free00 k))).drew d
  refine ⟨_, _, _, hk, by rw [← h0n]; exact hext, by rw [← h0n]; exact Nat.le_succ _, H', ?_⟩
  simp only [VR, newI_same]
  exact ⟨Nat.lt_succ_self _, by simp, hn, ⟨w.heap.size, 0, none⟩, rfl, .inr (by simp), by simp⟩

theorem holds_shift : ∀ {cols : List Col} {o : Nat} {k : List Col → Prop}, mapK (fun c => c.shiftK o) cols k → ∃ cs, k cs ∧ cs.length = cols.length ∧ ∀ (j : Nat) c, cs[j]? = some c → ∃ c', cols[j]? = some c' ∧ ∀ i, c.val i = c'.val (o + i) := by
  intro cols o k hk
  obtain ⟨r, hl, hr, hk⟩ := mapK_elim (R := fun c y => ∀ i, y.val i = c.val (o + i)) (fun c _ Kx hc => by
    unfold Col.shiftK at hc
    cases o with
    | zero => exact ⟨c, fun i => by simp, hc⟩
    | succ o => cases c <;> exact ⟨_, fun i => rfl, hc⟩) hk
  refine ⟨r, hk, hl, fun j c hc => ?_⟩
  have hj : j < cols.length := by have := (List.getElem?_eq_some_iff.1 hc).1; omega
  obtain ⟨y, hy, hv⟩ := hr j cols[j] (List.getElem?_eq_getElem hj)
  rw [hy] at hc; cases hc
  exact ⟨_, List.getElem?_eq_getElem hj, hv⟩

theorem joinCols_elim : ∀ {n o o' : Nat} {cols cols' : List Col} {k : List Col → Prop}, joinCols n o cols o' cols' k → ∃ cs, k cs ∧ cs.length = cols.length ∧ cols.length = cols'.length ∧
    ∀ (j : Nat) c, cs[j]? = some c → ∃ c1 c2, cols[j]? = some c1 ∧ cols'[j]? = some c2 ∧ ∀ i, c.val i = if i < n then c1.val (o + i) else c2.val (o' + (i - n))
  | n, o, o', cols, cols', k, hk => by
    unfold joinCols at hk
    split at hk
    · exact ⟨[], hk, rfl, rfl, fun j c hc => by simp at hc⟩
    · rename_i kd g r kd' g' r'
      rw [assertB_iff] at hk; obtain ⟨he, hk⟩ := hk
      have he := of_decide_eq_true he
      subst he
      obtain ⟨cs, hk, h1, h2, h3⟩ := joinCols_elim hk
      refine ⟨_, hk, by simp [h1], by simp [h2], fun j c hc => ?_⟩
      cases j with
      | zero => simp at hc; subst hc; exact ⟨_, _, rfl, rfl, fun i => by simp only [Col.val, joinF]; split <;> rfl⟩
      | succ j => simpa using h3 j c (by simpa using hc)
    · rename_i g r g' r'
      obtain ⟨cs, hk, h1, h2, h3⟩ := joinCols_elim hk
      refine ⟨_, hk, by simp [h1], by simp [h2], fun j c hc => ?_⟩
      cases j with
      | zero => simp at hc; subst hc; exact ⟨_, _, rfl, rfl, fun i => by simp only [Col.val, joinF]; split <;> rfl⟩
      | succ j => simpa using h3 j c (by simpa using hc)
    · rename_i g r g' r'
      obtain ⟨cs, hk, h1, h2, h3⟩ := joinCols_elim hk
      refine ⟨_, hk, by simp [h1], by simp [h2], fun j c hc => ?_⟩
      cases j with
      | zero => simp at hc; subst hc; exact ⟨_, _, rfl, rfl, fun i => by simp only [Col.val, joinF]; split <;> rfl⟩
      | succ j => simpa using h3 j c (by simpa using hc)
    · exact hk.elim

theorem addOne_elim : ∀ {n : Nat} {cols : List Col} {vs : List AV} {k : List Col → Prop}, addOne n cols vs k → ∃ cs, k cs ∧ cs.length = cols.length ∧ cols.length = vs.length ∧
    ∀ (j : Nat) c, cs[j]? = some c → ∃ c1, cols[j]? = some c1 ∧ (∀ i, i < n → c.val i = c1.val i) ∧ vs[j]? = some (c.at n)
  | n, cols, vs, k, hk => by
    unfold addOne at hk
    split at hk
    · exact ⟨[], hk, rfl, rfl, fun j c hc => by simp at hc⟩
    · rename_i kd g r kd' v r'
      rw [assertB_iff] at hk; obtain ⟨he, hk⟩ := hk
      have he := of_decide_eq_true he
      subst he
      obtain ⟨cs, hk, h1, h2, h3⟩ := addOne_elim hk
      refine ⟨_, hk, by simp [h1], by simp [h2], fun j c hc => ?_⟩
      cases j with
      | zero => simp at hc; subst hc; exact ⟨_, rfl, fun i hi => by simp [Col.val, lastF, hi], by simp [Col.at, lastF]⟩
      | succ j => simpa using h3 j c (by simpa using hc)
    · rename_i g r v r'
      obtain ⟨cs, hk, h1, h2, h3⟩ := addOne_elim hk
      refine ⟨_, hk, by simp [h1], by simp [h2], fun j c hc => ?_⟩
      cases j with
      | zero => simp at hc; subst hc; exact ⟨_, rfl, fun i hi => by simp [Col.val, lastF, hi], by simp [Col.at, lastF]⟩
      | succ j => simpa using h3 j c (by simpa using hc)
    · rename_i g r v r'
      obtain ⟨cs, hk, h1, h2, h3⟩ := addOne_elim hk
      refine ⟨_, hk, by simp [h1], by simp [h2], fun j c hc => ?_⟩
      cases j with
      | zero => simp at hc; subst hc; exact ⟨_, rfl, fun i hi => by simp [Col.val, lastF, hi], by simp [Col.at, lastF]⟩
      | succ j => simpa using h3 j c (by simpa using hc)
    · exact hk.elim

theorem addCells_elim : ∀ {m n z : Nat} {cols : List Col} {cs : List AV} {k : List Col → Prop}, addCells m n z cols cs k → ∃ cs', k cs' ∧ cs'.length = cols.length ∧ (m = 0 ∨ (cols.length = z ∧ m * z ≤ cs.length)) ∧
    ∀ (j : Nat) c, cs'[j]? = some c → ∃ c1, cols[j]? = some c1 ∧ (∀ i, i < n → c.val i = c1.val i) ∧ ∀ i, i < m → cs[i * z + j]? = some (c.at (n + i))
  | 0, n, z, cols, cs, k, hk => ⟨cols, hk, rfl, .inl rfl, fun j c hc => ⟨c, hc, fun _ _ => rfl, fun i hi => by omega⟩⟩
  | m + 1, n, z, cols, cs, k, hk => by
    simp only [addCells] at hk
    rw [takeK_iff] at hk; obtain ⟨hle, hk⟩ := hk
    obtain ⟨c1s, hk, h1, h2, h3⟩ := addOne_elim hk
    rw [takeK_iff] at hk; obtain ⟨hle2, hk⟩ := hk
    obtain ⟨c2s, hk, h4, h5, h6⟩ := addCells_elim hk
    have hz : cols.length = z := by simp at h2; omega
    refine ⟨c2s, hk, by omega, .inr ⟨hz, ?_⟩, fun j c hc => ?_⟩
    · rw [Nat.succ_mul]
      rcases h5 with h5 | ⟨_, h5⟩
      · subst h5; simp; omega
      · simp at h5; omega
    · obtain ⟨d, hd, hd2, hd3⟩ := h6 j c hc
      obtain ⟨d', hd', hd'2, hd'3⟩ := h3 j d hd
      have hjz : j < z := by have := (List.getElem?_eq_some_iff.1 hd').1; omega
      refine ⟨d', hd', fun i hi => by rw [hd2 i (by omega), hd'2 i hi], fun i hi => ?_⟩
      cases i with
      | zero =>
        simp only [Nat.zero_mul, Nat.zero_add, Nat.add_zero]
        simp only [List.drop_zero, List.getElem?_take, if_pos hjz] at hd'3
        rw [hd'3]
        have := hd2 n (by omega)
        congr 1
        cases d <;> cases c <;> simp_all [Col.val, Col.at]
      | succ i =>
        have := hd3 i (by omega)
        rw [List.getElem?_take, List.getElem?_drop] at this
        split at this
        · rw [show (i + 1) * z + j = z + (i * z + j) from by rw [Nat.succ_mul]; omega, this]
          congr 2; omega
        · cases this

theorem VRs_isCell {nx : Nat} {cs : List AV} {vs : List Value} (hv : VRs ι nx cs vs) (hall : cs.all isCellA = true) : ∀ v ∈ vs, isCellV v = true := by
  intro v hm
  obtain ⟨k, hk⟩ := List.getElem?_of_mem hm
  have hkl := (List.getElem?_eq_some_iff.1 hk).1
  obtain ⟨a, ha⟩ : ∃ a, cs[k]? = some a := ⟨_, List.getElem?_eq_getElem (by rw [hv.length] at hkl; exact hkl)⟩
  obtain ⟨y, hy, hvr⟩ := hv.get ha
  rw [hk] at hy; cases hy
  exact VR_isCell hvr (List.all_eq_true.1 hall a (List.mem_of_getElem? ha))

theorem rowHolds {nx z n0 n : Nat} {cs : List Col} {L0 news : List Value} (hz : cs.length = z) (hL : L0.length = n0 * z) (hn : news.length = n * z)
    (hc : ∀ (j : Nat) c, cs[j]? = some c → (∀ i, i < n0 → L0[i * z + j]? = some (c.val i)) ∧ ∀ i, i < n → news[i * z + j]? = some (c.val (n0 + i))) :
    Holds ι nx z (.row true none (n0 + n) cs) (n0 + n) (L0 ++ news) := by
  refine ⟨rfl, hz.symm, by simp [hL, hn, Nat.add_mul], fun i hi j c hj => ?_⟩
  have hjz : j < z := by have := (List.getElem?_eq_some_iff.1 hj).1; omega
  obtain ⟨h1, h2⟩ := hc j c hj
  rw [List.getElem?_append]
  by_cases hin : i < n0
  · rw [if_pos (by rw [hL]; exact row_lt hin hjz)]; exact h1 i hin
  · have hle := Nat.mul_le_mul_right z (Nat.le_of_not_lt hin)
    rw [if_neg (by omega)]
    have := h2 (i - n0) (by omega)
    rw [show n0 + (i - n0) = i from by omega] at this
    rw [← this]
    congr 1
    rw [Nat.sub_mul]; omega

theorem freshAppend_elim {C : Ctx} {st xt ty e : TypeId} {ie : TypeInfo} {xd : TypeDesc} {cz : Value} {argTypes : Array TypeId} {src : Src} {nn : AV} {K : KR} {n : Nat} {news : List Value} {base : Option Addr} {cx : Value}
    (hk : freshAppend h ie.bytes ie.size src nn K) (H : HR w0 O ι h w) (hnn : VR ι h.nx nn (.slice base 0 0))
    (h0 : argTypes[0]? = some st) (h1 : argTypes[1]? = some xt) (hst : C.P.underlying st = some (.slice e)) (hi : C.P.info? e = some ie)
    (hxt : C.P.underlying xt = some xd) (hxd : ∀ k, xd ≠ .int k) (hlen : ∀ P w, (Builtin.lenOf cx).run P w = .ok n w) (hsr : SrcR ι h.nx ie.size src n news) (hnl : news.length = n * ie.size)
    (hfc : ∀ w' : World, w'.heap = w.heap → (Builtin.firstCells ie.size n cx).run C.P w' = .ok news.toArray w') (hz : ∀ w, (zeroValue e).run C.P w = .ok cz w) (hzs : cz.cells.size = ie.size) :
    ∃ cv w', (Builtin.append_ argTypes ty #[.slice base 0 0, cx]).run C.P w = .ok cv w' ∧ Done w0 O ι h K cv w' := by
  have hzero : n = 0 → K nn h → ∃ cv w', (Builtin.append_ argTypes ty #[.slice base 0 0, cx]).run C.P w = .ok cv w' ∧ Done w0 O ι h K cv w' := by
    intro hn hk
    subst hn
    have hnews : news = [] := List.length_eq_zero_iff.1 (by simpa using hnl)
    subst hnews
    refine ⟨.slice base 0 0, w, ?_, Done.here H hk hnn⟩
    rw [append_room h0 h1 hst hi hxt hxd hlen (hfc w rfl) (Nat.le_refl _)]
    cases base <;> simp [storeCells]
  have hgrow : ∀ {x : Blk}, 0 < n → bound47 n ie.bytes = true → Holds ι h.nx ie.size x n news → h.pushK x (fun b h' => K (.slc b ie.size 0 n) h') →
      ∃ cv w', (Builtin.append_ argTypes ty #[.slice base 0 0, cx]).run C.P w = .ok cv w' ∧ Done w0 O ι h K cv w' := by
    intro x hn hb hh hk
    obtain ⟨newCap, rest, hc, hr, hrun⟩ := append_grow (ty := ty) (sLen := 0) (sCap := 0) (base := base) (olds := []) h0 h1 hst hi hxt hxd hlen hfc (fun w' _ => by
      cases base <;> simp [Builtin.firstCells, loadCells, loadCellsFrom]) hz hzs (by omega) (by simpa using hb)
    refine ⟨_, _, hrun, ?_⟩
    simp only [Nat.zero_add, List.nil_append] at hc hr ⊢
    exact fresh_done H hh hc hr rfl H hk _
  unfold freshAppend at hk
  split at hk
  · exact hzero hsr hk
  · exact hzero hsr.1.symm hk
  · rename_i m cs
    obtain ⟨rfl, hv⟩ := hsr
    rw [assertB_iff] at hk; obtain ⟨hb, hk⟩ := hk
    exact hgrow (x := .cells true ie.size none cs) (Nat.succ_pos _) hb ⟨rfl, hv, hnl⟩ hk
  · rename_i m o cols
    obtain ⟨rfl, hzc, hr⟩ := hsr
    cases hb0 : Nat.beq m 0 with
    | true =>
      rw [hb0, cond_true] at hk
      exact hzero (Nat.eq_of_beq_eq_true hb0) hk
    | false =>
      rw [hb0, cond_false, assertB_iff] at hk; obtain ⟨hb, hk⟩ := hk
      obtain ⟨cs, hk, hl, hcs⟩ := holds_shift hk
      have hm : 0 < m := Nat.pos_of_ne_zero fun e => by subst e; simp at hb0
      refine hgrow (x := .row true none m cs) hm hb ⟨rfl, by omega, hnl, fun i hi j c hc => ?_⟩ hk
      obtain ⟨c', hc', hv⟩ := hcs j c hc
      rw [hv i]
      exact hr i hi j c' hc'

theorem appendK_elim {C : Ctx} {ty : TypeId} {argTypes : Array TypeId} {s x : AV} {K : KR} (hk : appendK C argTypes s x h K) (H : HR w0 O ι h w) {cs cx : Value} (hs : VR ι h.nx s cs) (hx : VR ι h.nx x cx) :
    ∃ cv w', (Builtin.append_ argTypes ty #[cs, cx]).run C.P w = .ok cv w' ∧ Done w0 O ι h K cv w' := by
  unfold appendK at hk
  rw [optK_iff] at hk; obtain ⟨st, h0, hk⟩ := hk
  rw [optK_iff] at hk; obtain ⟨xt, h1, hk⟩ := hk
  rw [underK_iff] at hk; obtain ⟨xd, hxt, hk⟩ := hk
  rw [assertB_iff] at hk; obtain ⟨hxd0, hk⟩ := hk
  have hxd : ∀ k, xd ≠ .int k := by intro k e; subst e; simp at hxd0
  rw [underK_iff] at hk; obtain ⟨d, hst, hk⟩ := hk
  split at hk
  · rename_i e
    rw [infoK_iff] at hk; obtain ⟨ie, hi, hk⟩ := hk
    obtain ⟨zv, cz, hk2, hz, hzv⟩ := zeroK_elim hk
    clear hk
    rw [cellsK_iff, assertB_iff] at hk2; obtain ⟨hzl, hk2⟩ := hk2
    have hzs : cz.cells.size = ie.size := by
      have h1 := (VR_cells (hzv ι h.nx)).length
      have h2 : (cellsOfA zv).length = ie.size := Nat.eq_of_beq_eq_true hzl
      simpa [h2] using h1
    obtain ⟨src, n, news, hk, hnl, hlen, hsr, hfc0⟩ := srcK_elim hk2 H hx
    clear hk2
    have hfc : ∀ w' : World, w'.heap = w.heap → (Builtin.firstCells ie.size n cx).run C.P w' = .ok news.toArray w' := by
      intro w' hw'
      have := hfc0 C.P w' n hw' (Nat.le_refl _)
      rwa [List.take_of_length_le (by omega)] at this
    split at hk
    · simp only [VR] at hs; subst hs
      exact freshAppend_elim hk H rfl h0 h1 hst hi hxt hxd hlen hsr hnl hfc hz hzs
    · simp only [VR] at hs
      obtain ⟨a, ha, rfl⟩ := hs
      exact freshAppend_elim hk H ⟨a, ha, rfl⟩ h0 h1 hst hi hxt hxd hlen hsr hnl hfc hz hzs
    · rename_i b z n0
      have hs0 := hs
      simp only [VR] at hs
      obtain ⟨hb, hon, hlc, a, ha, hco, rfl⟩ := hs
      rw [assertB_iff] at hk; obtain ⟨hzz, hk⟩ := hk
      have hzz : z = ie.size := Nat.eq_of_beq_eq_true hzz
      subst hzz
      simp only [Nat.zero_add, Nat.sub_zero, Nat.zero_mul] at hon hco hs0 ⊢
      have same : n = 0 → K (.slc b ie.size 0 n0) h → ∃ cv w', (Builtin.append_ argTypes ty #[.slice (some a) n0 (ι b).cap, cx]).run C.P w = .ok cv w' ∧ Done w0 O ι h K cv w' := by
        intro hn hk
        subst hn
        have hnews : news = [] := List.length_eq_zero_iff.1 (by simpa using hnl)
        subst hnews
        refine ⟨.slice (some a) n0 (ι b).cap, w, ?_, Done.here H hk (by simpa using hs0)⟩
        rw [append_room h0 h1 hst hi hxt hxd hlen (hfc w rfl) (by omega)]
        simp [storeCells]
      -- the slice's own block, of which the first n0 elements are L0
      have on : ∀ {blk x' : Blk} {L0 : List Value}, lookupB h.bl b = some blk → blk.wr = true → bound47 (n0 + n) ie.bytes = true → L0.length = n0 * ie.size →
          (∃ arr e' fz, w.heap[(ι b).blk]? = some (.cells arr e' fz) ∧ Pre arr L0 ∧ (ι b).cap * ie.size ≤ arr.size ∧ ∀ k, k < (ι b).cap * ie.size → Free fz k) →
          Holds ι h.nx ie.size x' (n0 + n) (L0 ++ news) → (∀ v ∈ news, isCellV v = true) → h.setK b .dead (fun h1 => h1.pushK x' fun b' h' => K (.slc b' ie.size 0 (n0 + n)) h') →
          ∃ cv w', (Builtin.append_ argTypes ty #[.slice (some a) n0 (ι b).cap, cx]).run C.P w = .ok cv w' ∧ Done w0 O ι h K cv w' := by
        intro blk x' L0 hblk hwr hbd hL0 ⟨arr, e', fz, hw, hpre, hsz, hfree⟩ hh hcell hk
        rw [setK_heap] at hk; obtain ⟨hsome, hk⟩ := hk
        by_cases hroom : n0 + n ≤ (ι b).cap
        · have hrun := append_room (ty := ty) (base := some a) (sLen := n0) (sCap := (ι b).cap) h0 h1 hst hi hxt hxd hlen (hfc w rfl) hroom
          have hcapz := Nat.mul_le_mul_right ie.size hroom
          rw [Nat.add_mul] at hcapz
          have hfin : ∃ w', (storeCells (a.add (n0 * ie.size)) news).run C.P w = .ok () w' ∧ Turn w w' (ι b).blk (.cells ⟨putL arr.toList (n0 * ie.size) news⟩ e' fz) := by
            rcases hco with hc0 | hc0
            · have hn00 : n0 = 0 := by omega
              have hn0 : n = 0 := by omega
              subst hn00; subst hn0
              have hnews : news = [] := List.length_eq_zero_iff.1 (by simpa using hnl)
              subst hnews
              refine ⟨w, by simp [storeCells], ?_⟩
              have : (⟨putL arr.toList (0 * ie.size) []⟩ : Array Value) = arr := by simp [putL]
              rw [this]; exact Turn.refl hw
            · subst hc0
              rw [addr_add, Nat.zero_add]
              obtain ⟨w', hr, ht⟩ := run_storeCells (P := C.P) (b := (ι b).blk) (o := n0 * ie.size) news 0 w arr hw hcell (by omega) (fun m hm => hfree _ (by omega))
              exact ⟨w', hr, by simpa using ht⟩
          obtain ⟨w', hr, ht⟩ := hfin
          refine ⟨.slice (some a) (n0 + n) (ι b).cap, w', by rw [hrun]; simp [hr], ?_⟩
          rw [pushK_heap] at hk
          have hext := newI_ext ι h.nx ⟨(ι b).blk, (ι b).cap, n0 + n⟩
          have hple : n0 * ie.size + news.length ≤ arr.toList.length := by simp; omega
          have hbr := (hh.mono hext (Nat.le_succ _)).br (B := (ι b).blk) (arr := ⟨putL arr.toList (n0 * ie.size) news⟩) (e := e') (fz := fz) (cap := (ι b).cap) (fun k v hkv => by
            rw [show (⟨putL arr.toList (n0 * ie.size) news⟩ : Array Value) = (putL arr.toList (n0 * ie.size) news).toArray from rfl, List.getElem?_toArray, putL_get hple]
            rw [List.getElem?_append] at hkv
            split at hkv
            · rw [if_neg (by omega)]; simpa using hpre k v hkv
            · have := (List.getElem?_eq_some_iff.1 hkv).1
              rw [if_pos (by omega), ← hL0]; exact hkv) hroom (by
                show _ ≤ (putL _ _ _).length
                rw [putL_length hple]; simpa using hsz) hfree
          have H' := H.adopt hblk hwr ht (ι b).cap (n0 + n) hbr
          refine ⟨_, _, _, hk, hext, Nat.le_succ _, H', ?_⟩
          simp only [VR, newI_same]
          exact ⟨Nat.lt_succ_self _, by simp, hroom, a, ha, by simpa using hco, by simp⟩
        · obtain ⟨newCap, rest, hc, hr, hrun⟩ := append_grow (ty := ty) (base := some a) (sLen := n0) (sCap := (ι b).cap) (olds := L0) h0 h1 hst hi hxt hxd hlen hfc (fun w' hw' => by
            simp only [Builtin.firstCells]
            rcases hco with hc0 | hc0
            · have hn00 : n0 = 0 := by omega
              subst hn00
              have hL : L0 = [] := List.length_eq_zero_iff.1 (by simpa using hL0)
              subst hL
              simp [loadCells, loadCellsFrom]
            · subst hc0
              have hrl := run_loadCells (P := C.P) (w := w') (b := (ι b).blk) (o := 0) L0
              rw [hL0] at hrl
              exact hrl fun q v hq => by rw [cell_of (by rw [hw']; exact hw), Nat.zero_add]; exact hpre q v hq) hz hzs (by omega) hbd
          refine ⟨_, _, hrun, ?_⟩
          exact fresh_done (h0 := ⟨h.nx, updL h.bl b .dead⟩) H hh hc hr rfl (H.kill hsome) hk _
      split at hk
      · exact same hsr hk
      · exact same hsr.1.symm hk
      · rename_i m csn
        obtain ⟨rfl, hv⟩ := hsr
        rw [assertB_iff] at hk; obtain ⟨hbd, hk⟩ := hk
        simp only [Bool.and_eq_true] at hbd
        obtain ⟨hbd, hall⟩ := hbd
        have hcell := VRs_isCell hv hall
        rw [getK_heap] at hk; obtain ⟨blk, hblk, hk⟩ := hk
        split at hk
        · rename_i z2 cap old
          rw [assertB_iff] at hk; obtain ⟨hz2, hk⟩ := hk
          have hz2 : z2 = ie.size := Nat.eq_of_beq_eq_true hz2
          subst hz2
          rw [takeK_iff] at hk; obtain ⟨hle, hk⟩ := hk
          rw [appK_iff] at hk
          obtain ⟨ob, ho, arr, e', fz, rfl, hcs, _, _, hwr⟩ := H.get hblk rfl
          obtain ⟨hw1, hw2, hw3⟩ := hwr rfl
          have hn0 : n0 * ie.size ≤ arr.size := Nat.le_trans (Nat.mul_le_mul_right _ (by omega)) hw2
          refine on (x' := .cells true ie.size none _) (L0 := arr.toList.take (n0 * ie.size)) hblk rfl hbd (by simp; omega) ⟨arr, e', fz, ho, pre_take arr _, hw2, hw3⟩ ⟨rfl, VRs.append (VRs.of_get (by simp; omega) fun k a ha => ?_) hv, by simp [hnl, Nat.add_mul]; omega⟩ hcell hk
          simp only [List.drop_zero, List.getElem?_take] at ha
          split at ha
          · rename_i hkl
            obtain ⟨y, hy, hvr⟩ := hcs k a ha
            exact ⟨y, by rw [List.getElem?_take, if_pos hkl]; simpa using hy, hvr⟩
          · cases ha
        · rename_i cap mm cols
          obtain ⟨cs', hk, h1, h2, h3⟩ := addCells_elim hk
          obtain ⟨ob, ho, arr, e', fz, rfl, hcs, _, hlen2, hmc, hwr⟩ := H.get hblk rfl
          obtain ⟨hw2, hw3⟩ := hwr rfl
          have hz : cols.length = ie.size := by
            rcases h2 with h2 | h2
            · omega
            · exact h2.1
          rw [hz] at hw2 hw3 hcs
          have hn0 : n0 * ie.size ≤ arr.size := Nat.le_trans (Nat.mul_le_mul_right _ (by omega)) hw2
          refine on (L0 := arr.toList.take (n0 * ie.size)) hblk rfl hbd (by simp; omega) ⟨arr, e', fz, ho, pre_take arr _, hw2, hw3⟩ (rowHolds (by omega) (by simp; omega) hnl fun j c hc => ?_) hcell hk
          obtain ⟨c1, hc1, h4, h5⟩ := h3 j c hc
          refine ⟨fun i hi => ?_, fun i hi => ?_⟩
          · have hjz : j < ie.size := by have := (List.getElem?_eq_some_iff.1 hc1).1; omega
            rw [List.getElem?_take, if_pos (row_lt hi hjz), h4 i hi]
            simpa using hcs i (by omega) j c1 hc1
          · obtain ⟨y, hy, hvr⟩ := hv.get (h5 i hi)
            rw [hy, VR_at_eq hvr]
        · exact hk.elim
      · rename_i m o' cols'
        obtain ⟨rfl, hzc, hr⟩ := hsr
        rw [assertB_iff] at hk; obtain ⟨hbd, hk⟩ := hk
        rw [getK_heap] at hk; obtain ⟨blk, hblk, hk⟩ := hk
        have hcell : ∀ v ∈ news, isCellV v = true := by
          intro v hv
          obtain ⟨k, hkv⟩ := List.getElem?_of_mem hv
          have hkl := (List.getElem?_eq_some_iff.1 hkv).1
          have hz0 : 0 < ie.size := by
            rcases Nat.eq_zero_or_pos ie.size with h0 | h0
            · rw [hnl, h0] at hkl; simp at hkl
            · exact h0
          have hj : k % ie.size < cols'.length := by rw [← hzc]; exact Nat.mod_lt _ hz0
          have hi : k / ie.size < m := by
            rw [Nat.div_lt_iff_lt_mul hz0, ← hnl]; exact hkl
          have := hr (k / ie.size) hi (k % ie.size) _ (List.getElem?_eq_getElem hj)
          rw [show k / ie.size * ie.size + k % ie.size = k from by rw [Nat.mul_comm]; exact Nat.div_add_mod k ie.size, hkv] at this
          cases this
          exact isCell_val _ _
        split at hk
        · rename_i z2 cap
          rw [assertB_iff] at hk; obtain ⟨hn0, hk⟩ := hk
          simp only [Bool.and_eq_true] at hn0
          have hz2 : z2 = ie.size := Nat.eq_of_beq_eq_true hn0.2
          have hn0 : n0 = 0 := Nat.eq_of_beq_eq_true hn0.1
          subst hn0; subst hz2
          obtain ⟨cs, hk, hl, hcs⟩ := holds_shift hk
          obtain ⟨ob, ho, arr, e', fz, rfl, _, _, _, hwr⟩ := H.get hblk rfl
          obtain ⟨hw1, hw2, hw3⟩ := hwr rfl
          have hk' : h.setK b .dead (fun h1 => h1.pushK (.row true none (0 + m) cs) fun b' h' => K (.slc b' ie.size 0 (0 + m)) h') := by simpa using hk
          refine on (L0 := []) hblk rfl hbd (by simp) ⟨arr, e', fz, ho, fun k v hkv => by simp at hkv, hw2, hw3⟩ (rowHolds (by omega) (by simp) hnl fun j c hc => ?_) hcell hk'
          obtain ⟨c', hc', hv⟩ := hcs j c hc
          refine ⟨fun i hi => by omega, fun i hi => ?_⟩
          rw [hv (0 + i), Nat.zero_add]
          exact hr i hi j c' hc'
        · rename_i z2 cap kd v0 r0
          rw [assertB_iff] at hk; obtain ⟨hn0, hk⟩ := hk
          simp only [Bool.and_eq_true] at hn0
          obtain ⟨⟨hz2, hz1⟩, hints⟩ := hn0
          have hz2 : z2 = ie.size := Nat.eq_of_beq_eq_true hz2
          have hz1 : ie.size = 1 := Nat.eq_of_beq_eq_true hz1
          subst hz2
          rw [takeK_iff] at hk; obtain ⟨hle, hk⟩ := hk
          split at hk
          · rename_i kd' g'
            rw [assertB_iff] at hk; obtain ⟨hkd, hk⟩ := hk
            have hkd := of_decide_eq_true hkd
            subst hkd
            obtain ⟨ob, ho, arr, e', fz, rfl, hcs, _, _, hwr⟩ := H.get hblk rfl
            obtain ⟨hw1, hw2, hw3⟩ := hwr rfl
            have hn0 : n0 * ie.size ≤ arr.size := Nat.le_trans (Nat.mul_le_mul_right _ (by omega)) hw2
            refine on (L0 := arr.toList.take (n0 * ie.size)) hblk rfl hbd (by simp; omega) ⟨arr, e', fz, ho, pre_take arr _, hw2, hw3⟩ (rowHolds (by simp; omega) (by simp; omega) hnl fun j c hc => ?_) hcell hk
            have hj : j = 0 := by
              cases j with
              | zero => rfl
              | succ j => simp at hc
            subst hj
            simp at hc
            subst hc
            refine ⟨fun i hi => ?_, fun i hi => ?_⟩
            · have hlt : i < (AV.int kd' v0 :: r0).length := by omega
              obtain ⟨x, hx⟩ : ∃ x, (AV.int kd' v0 :: r0)[i]? = some (.int kd' x) := by
                cases i with
                | zero => exact ⟨v0, rfl⟩
                | succ i =>
                  have hl2 : i < r0.length := by simpa using hlt
                  have hm := List.all_eq_true.1 hints r0[i] (List.getElem_mem hl2)
                  rw [List.getElem?_cons_succ, List.getElem?_eq_getElem hl2]
                  generalize r0[i] = q at hm
                  cases q <;> simp only [isIntA, Bool.false_eq_true] at hm
                  have := of_decide_eq_true hm
                  subst this
                  exact ⟨_, rfl⟩
              obtain ⟨y, hy, hvr⟩ := hcs i _ hx
              simp only [VR] at hvr
              subst hvr
              rw [hz1, Nat.mul_one, Nat.mul_one, Nat.add_zero, List.getElem?_take, if_pos hi]
              simp only [Col.val, joinF, hi, if_true, Nat.zero_add]
              rw [intAt_get (cs := (AV.int kd' v0 :: r0).take n0) (i := i) (kd := kd') (x := x) (by rw [List.getElem?_take, if_pos hi]; exact hx)]
              simpa using hy
            · have h7 := hr i hi 0 _ rfl
              rw [h7]
              simp only [Col.val, joinF, if_neg (show ¬ n0 + i < n0 by omega), show n0 + i - n0 = i from by omega]
          · exact hk.elim
        · rename_i cap mm cols
          obtain ⟨cs, hk, h1, h2, h3⟩ := joinCols_elim hk
          obtain ⟨ob, ho, arr, e', fz, rfl, hcs, _, hlen2, hmc, hwr⟩ := H.get hblk rfl
          obtain ⟨hw2, hw3⟩ := hwr rfl
          have hz : cols.length = ie.size := by omega
          rw [hz] at hw2 hw3 hcs
          have hn0 : n0 * ie.size ≤ arr.size := Nat.le_trans (Nat.mul_le_mul_right _ (by omega)) hw2
          refine on (L0 := arr.toList.take (n0 * ie.size)) hblk rfl hbd (by simp; omega) ⟨arr, e', fz, ho, pre_take arr _, hw2, hw3⟩ (rowHolds (by omega) (by simp; omega) hnl fun j c hc => ?_) hcell hk
          obtain ⟨c1, c2, hc1, hc2, hv⟩ := h3 j c hc
          have hjz : j < ie.size := by have := (List.getElem?_eq_some_iff.1 hc1).1; omega
          refine ⟨fun i hi => ?_, fun i hi => ?_⟩
          · rw [List.getElem?_take, if_pos (row_lt hi hjz), hv i, if_pos hi, Nat.zero_add]
            simpa using hcs i (by omega) j c1 hc1
          · rw [hv (n0 + i), if_neg (by omega), show n0 + i - n0 = i from by omega]
            exact hr i hi j c2 hc2
        · exact hk.elim
    · exact hk.elim
  · exact hk.elim
end Go.Am
