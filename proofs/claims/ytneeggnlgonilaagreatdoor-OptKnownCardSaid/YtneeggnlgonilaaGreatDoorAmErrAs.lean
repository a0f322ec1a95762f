/- errors.As at a number's own type, as a specification for the abstract machine. -/
import Derived.Test.YtneeggnlgonilaaGreatDoorAmSpec
namespace Go.Am
open Go.RowKit
variable {C : Ctx} {w0 : World} {O : Nat → Prop}

/-- Block 0: the variable errors.errorType; block 1: where the types' handles lie. -/
def errAsSpec (te tp rt terr : TypeId) : Spec := fun args h K _ => match args with
  | [.nili, .iface t v] => K (.bool false) h
  | [.iface t1 (.int .i64 n), .iface t2 (.ptr b 0 0 0)] => assertB (Nat.beq t1 te && Nat.beq t2 tp) (h.getK 0 fun
    | .cells _ _ _ [.iface r (.agg [.ptr d 0 0 j])] => assertB (Nat.beq r rt && Nat.beq d 1 && Nat.beq j terr) (h.getK b fun
      | .cells true z cap [.int .i64 _] => assertB (Nat.beq z 1) (h.setK b (.cells true z cap [.int .i64 n]) fun h' => K (.bool true) h')
      | _ => False)
    | _ => False)
  | _ => False

theorem turn_setCell {w : World} {k o : Nat} {arr : Array Value} {e : TypeId} {fz : Nat × Nat} {v : Value} (h : w.heap[k]? = some (.cells arr e fz)) : Turn w (w.setCell ⟨k, o, none⟩ v) k (.cells (arr.setIfInBounds o v) e fz) := by
  refine ⟨rfl, rfl, rfl, by simp [World.setCell], ?_, fun j hj => ?_⟩
  · simp only [World.setCell, Array.getElem?_modify, h]
    simp
  · simp only [World.setCell, Array.getElem?_modify]
    rw [if_neg (by simpa using fun h => hj h.symm)]

theorem below_alloc (u : World) (o : Obj) : Below u.heap.size u (u.alloc o) := by
  have e : (u.alloc o).heap = u.heap.push o := rfl
  refine ⟨rfl, rfl, rfl, ?_, fun k hk => ?_⟩
  · rw [e, Array.size_push]; omega
  · rw [e, Array.getElem?_push, if_neg (Nat.ne_of_lt hk)]

theorem errAs_ok {f : FuncId} {fn : Func} (hfn : C.P.funcs[f]? = some fn) (hbody : fn.body.isSome = true) (hg : (fn.name == "runtime.NumGoroutine") = false) {te tp rt terr door rv : TypeId}
    (hg0 : lookupB C.glob 0 = some 0) (hg1 : lookupB C.glob door = some 1) {fl : Int}
    (hnil : ∀ (t : Value) (w : World), Calls C.P f #[.nilIface, t] w fun e w' => e = .returned (.bool false) ∧ w' = w)
    (hhit : ∀ (e : Int) (t : Addr) (old : Value) (w : World), w.cell? ⟨0, 0, none⟩ = some (.iface rt (.agg #[.pointer (some ⟨door, terr, none⟩)])) → w.cell? t = some old → w.frozen? t = false →
      Calls C.P f #[.iface te (.int .i64 e), .iface tp (.pointer (some t))] w fun ev w' => ev = .returned (.bool true) ∧ w' = ((((w.alloc (.cells #[.pointer (some t)] tp)).alloc (.cells #[.pointer (some ⟨door, tp, none⟩), .pointer (some ⟨w.heap.size, 0, none⟩), .int .u64 fl] rv)).alloc (.cells #[.pointer (some ⟨door, tp, none⟩), .pointer (some ⟨w.heap.size, 0, none⟩), .int .u64 fl] rv)).alloc (.cells #[.int .i64 e] te)).setCell t (.int .i64 e)) :
    SpecOK C f (errAsSpec te tp rt terr) := by
  refine ⟨fun {args h K KP} hk {w0 O ι w cargs} H G hv => ?_, fun args h => ?_⟩
  · refine ⟨by
      have hg' : ¬ fn.name = "runtime.NumGoroutine" := by simpa using hg
      obtain ⟨body, hbody⟩ := Option.isSome_iff_exists.1 hbody
      simp [callFunc, hfn, hg', hbody], ?_⟩
    unfold errAsSpec at hk
    split at hk
    · rename_i t v
      obtain ⟨c1, r1, e1, h1, c2, r2, e2, h2, e3⟩ := hv
      have e : cargs = #[c1, c2] := by rw [← Array.toList_inj, e1, e2, e3]
      subst e
      simp only [VR] at h1; subst h1
      refine callsIn_wide.2 ((hnil c2 w).mono fun e w' ⟨he, hw⟩ => ?_)
      subst he hw
      exact ⟨ι, h, _, hk, Ext.refl _ _, Nat.le_refl _, H, rfl⟩
    · rename_i t1 n t2 b
      rw [assertB_iff, Bool.and_eq_true] at hk; obtain ⟨⟨ht1, ht2⟩, hk⟩ := hk
      have ht1 := Nat.eq_of_beq_eq_true ht1
      have ht2 := Nat.eq_of_beq_eq_true ht2
      subst ht1 ht2
      rw [getK_heap] at hk; obtain ⟨x, hx, hk⟩ := hk
      split at hk
      · rename_i wr0 z0 cap0 r d j
        rw [assertB_iff] at hk; obtain ⟨hb, hk⟩ := hk
        simp only [Bool.and_eq_true] at hb
        obtain ⟨⟨hb1, hb2⟩, hb3⟩ := hb
        have hb1 := Nat.eq_of_beq_eq_true hb1
        have hb2 := Nat.eq_of_beq_eq_true hb2
        have hb3 := Nat.eq_of_beq_eq_true hb3
        subst hb1 hb2 hb3
        rw [getK_heap] at hk; obtain ⟨y, hy, hk⟩ := hk
        split at hk
        · rename_i z cap old
          rw [assertB_iff] at hk; obtain ⟨hz, hk⟩ := hk
          have hz := Nat.eq_of_beq_eq_true hz
          subst hz
          rw [setK_heap] at hk; obtain ⟨_, hk⟩ := hk
          obtain ⟨c1, r1, e1, h1, c2, r2, e2, h2, e3⟩ := hv
          have e : cargs = #[c1, c2] := by rw [← Array.toList_inj, e1, e2, e3]
          subst e
          obtain ⟨y1, rfl, h1⟩ := h1
          obtain ⟨y2, rfl, h2⟩ := h2
          simp only [VR] at h1 h2
          subst h1
          obtain ⟨hbn, _, rfl⟩ := h2
          obtain ⟨g0a, g0b⟩ := G 0 0 hg0
          obtain ⟨g1a, g1b⟩ := G door 1 hg1
          obtain ⟨o0, ho0, arr0, e0, fz0, rfl, hc0, _⟩ := H.get hx rfl
          obtain ⟨cv0, hcv0, hvr0⟩ := hc0 0 _ rfl
          obtain ⟨y3, rfl, h3⟩ := hvr0
          obtain ⟨a3, rfl, h4⟩ := h3
          obtain ⟨y5, ys5, e5, h5, h6⟩ := h4
          simp only [VRs] at h6; subst h6
          obtain ⟨_, _, h5⟩ := h5
          have ea3 : a3 = #[.pointer (some ⟨door, j, none⟩)] := by
            rw [← Array.toList_inj, e5, h5, g1b]; simp
          have hcell : w.cell? ⟨0, 0, none⟩ = some (.iface r (.agg #[.pointer (some ⟨door, j, none⟩)])) := by
            rw [g0b] at ho0
            rw [cell_of ho0, hcv0, ea3]
          obtain ⟨o1, ho1, arr1, ex1, fz1, rfl, hc1, hcap1, hlc1, hwr1⟩ := H.get hy rfl
          obtain ⟨cv1, hcv1, hvr1⟩ := hc1 0 _ rfl
          obtain ⟨hw1, hw2, hw3⟩ := hwr1 rfl
          have hfr := frozen_of ho1 (hw3 0 (by simp at hw1; omega))
          have hcall := hhit n ⟨(ι b).blk, 0 * 0 + 0, none⟩ cv1 w hcell (by rw [cell_of ho1]; simpa using hcv1) (by simpa using hfr)
          refine callsIn_wide.2 (hcall.mono fun ev w' ⟨he, hw⟩ => ?_)
          subst he
          have hal : ∀ (u : World) (o : Obj), Below u.heap.size u (u.alloc o) := fun u o => below_alloc u o
          have H1 := (((H.below (hal _ (.cells #[.pointer (some ⟨(ι b).blk, 0 * 0 + 0, none⟩)] t2))).below (hal _ (.cells #[.pointer (some ⟨door, t2, none⟩), .pointer (some ⟨w.heap.size, 0, none⟩), .int .u64 fl] rv))).below (hal _ (.cells #[.pointer (some ⟨door, t2, none⟩), .pointer (some ⟨w.heap.size, 0, none⟩), .int .u64 fl] rv))).below (hal _ (.cells #[.int .i64 n] t1))
          obtain ⟨o2, ho2, arr2, ex2, fz2, rfl, hc2, hcap2, hlc2, hwr2⟩ := H1.get hy rfl
          have HT := turn_setCell (o := 0) (v := .int .i64 n) ho2
          have H2 := H1.set (x' := .cells true 1 cap [.int .i64 n]) hy rfl HT ⟨_, _, _, rfl, fun k a hk => by
            cases k with
            | zero =>
              simp at hk; subst hk
              obtain ⟨cv, hcv, _⟩ := hc2 0 _ rfl
              have hlt := (Array.getElem?_eq_some_iff.1 hcv).1
              exact ⟨.int .i64 n, by simp [hlt], rfl⟩
            | succ k => simp at hk, hcap2, hlc2, fun hw => by
              obtain ⟨q1, q2, q3⟩ := hwr2 hw
              exact ⟨q1, by rw [Array.size_setIfInBounds]; exact q2, q3⟩⟩
          subst hw
          exact ⟨ι, _, _, hk, Ext.refl _ _, Nat.le_refl _, H2, rfl⟩
        · exact hk.elim
      · exact hk.elim
    · exact hk.elim
  · refine sh_of2 ?_
    show Sh fun K : AV × Heap → Prop => errAsSpec te tp rt terr args h (fun a b => K (a, b)) noKP
    unfold errAsSpec
    split
    · exact sh_pure (AV.bool false, h)
    · refine sh_assert (sh_bind (sh_hgetK _ _) fun blk => ?_)
      split
      · refine sh_assert (sh_bind (sh_hgetK _ _) fun blk => ?_)
        split
        · exact sh_assert (sh_bind (sh_hsetK _ _ _) fun h' => sh_pure (AV.bool true, h'))
        · exact sh_false
      · exact sh_false
    · exact sh_false
end Go.Am
