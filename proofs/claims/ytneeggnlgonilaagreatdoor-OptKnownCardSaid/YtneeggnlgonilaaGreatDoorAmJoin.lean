/- Functions that are met by a contract of the model's own: specifications for the abstract machine. strings.Join, with nothing between. -/
import Derived.Test.YtneeggnlgonilaaGreatDoorAmTop
import Derived.Lib.Join
import Derived.Below
namespace Go.Am
open Go.RowKit
variable {C : Ctx} {w0 : World} {O : Nat → Prop}

/-- New blocks alone change nothing that the abstract heap knows. -/
theorem HR.below {ι : Inj} {h : Heap} {w w' : World} (H : HR w0 O ι h w) (hb : Below w.heap.size w w') : HR w0 O ι h w' := by
  have hlt : ∀ {k : Nat} {o : Obj}, w.heap[k]? = some o → w'.heap[k]? = some o := fun {k o} ho => by rw [hb.block k (heap_lt ho)]; exact ho
  refine ⟨hb.os.trans H.os, hb.tape.trans H.tape, hb.output.trans H.output, Nat.le_trans H.size hb.size, fun k hk hO => ?_, fun b x hx => ?_, H.inj⟩
  · rw [hb.block k (Nat.lt_of_lt_of_le hk H.size)]; exact H.old k hk hO
  · obtain ⟨h1, h2, h3⟩ := H.blk b x hx
    refine ⟨h1, fun hl => ?_, h3⟩
    obtain ⟨o, ho, hr⟩ := h2 hl
    exact ⟨o, hlt ho, hr⟩

theorem specOK_of_calls {f : FuncId} {fn : Func} (hfn : C.P.funcs[f]? = some fn) (hbody : fn.body.isSome = true) (hg : (fn.name == "runtime.NumGoroutine") = false) {s : Spec}
    (hs : ∀ {args : List AV} {h : Heap} {K KP : KR}, s args h K KP → ∀ {w0 : World} {O : Nat → Prop} {ι : Inj} {w : World} {cargs : Array Value}, HR w0 O ι h w → VRs ι h.nx args cargs.toList →
      ∃ v cv, K v h ∧ VR ι h.nx v cv ∧ Calls C.P f cargs w fun e w' => e = .returned cv ∧ Below w.heap.size w w')
    (sharp : ∀ args h, Sh2 fun K => s args h K noKP) : SpecOK C f s := by
  refine ⟨fun {args h K KP} hk {w0 O ι w cargs} H G hv => ?_, sharp⟩
  obtain ⟨v, cv, hk, hr, hc⟩ := hs hk H hv
  refine ⟨?_, callsIn_wide.2 (hc.mono fun e w' ⟨he, hb⟩ => ?_)⟩
  · have hg' : ¬ fn.name = "runtime.NumGoroutine" := by simpa using hg
    obtain ⟨body, hbody⟩ := Option.isSome_iff_exists.1 hbody
    simp [callFunc, hfn, hg', hbody]
  · subst he
    exact ⟨ι, h, v, hk, Ext.refl _ _, Nat.le_refl _, H.below hb, hr⟩

def strsK : List AV → (List ByteArray → Prop) → Prop
  | [], k => k []
  | .str s :: r, k => strsK r fun l => k (s :: l)
  | _ :: _, _ => False

/-- All together. -/
def catB : List ByteArray → ByteArray
  | [] => ByteArray.empty
  | [s] => s
  | s :: r => s ++ catB r

def joinSpec : Spec := fun args h K _ => match args with
  | [.slc b z o n, .str sep] => h.getK b fun
    | .cells _ _ _ cs => assertB (Nat.beq z 1 && Nat.beq sep.size 0 && Nat.blt 0 n) (takeK cs o n fun r => strsK r fun xs => assertB (Nat.ble (catB xs).size 140737488355328 && Nat.ble n 1000) (K (.str (catB xs)) h))
    | _ => False
  | _ => False

theorem strsK_elim {ι : Inj} {n : Nat} : ∀ {l : List AV} {k : List ByteArray → Prop}, strsK l k → ∃ xs, k xs ∧ l = xs.map .str
  | [], k, h => ⟨[], h, rfl⟩
  | x :: r, k, h => by
    cases x <;> try exact h.elim
    simp only [strsK] at h
    obtain ⟨xs, hk, e⟩ := strsK_elim (ι := ι) (n := n) h
    exact ⟨_ :: xs, hk, by simp [e]⟩

theorem join_cat : ∀ xs : List ByteArray, Lib.join (xs.map (·.data.toList)) [] = (catB xs).data.toList
  | [] => by simp [Lib.join, catB]
  | [s] => by simp [Lib.join, catB]
  | s :: t :: r => by
    have ih := join_cat (t :: r)
    have e : (catB (s :: t :: r)).data.toList = s.data.toList ++ (catB (t :: r)).data.toList := by simp [catB]
    rw [e, ← ih]
    simp [Lib.join]

theorem sh_strsK : ∀ l : List AV, Sh fun K => strsK l K
  | [] => sh_pure _
  | x :: r => by
    cases x <;> first | exact sh_false | skip
    simp only [strsK]
    exact sh_bind (sh_strsK r) fun l => sh_pure _

theorem joinSpec_ok {f : FuncId} {fn : Func} (hfn : C.P.funcs[f]? = some fn) (hbody : fn.body.isSome = true) (hg : (fn.name == "runtime.NumGoroutine") = false)
    (hj : ∀ (bk o c : Nat) (xs : List ByteArray) (sep : ByteArray) (w : World), (∀ (j : Nat) x, xs[j]? = some x → w.cell? ⟨bk, o + j, none⟩ = some (.string x)) → bk < w.heap.size → xs.length ≤ 140737488355328 → xs.length ≤ c →
      (Lib.join (xs.map (·.data.toList)) sep.data.toList).length ≤ 140737488355328 →
      Calls C.P f #[.slice (some ⟨bk, o, none⟩) xs.length c, .string sep] w fun e w' => e = .returned (.string ⟨(Lib.join (xs.map (·.data.toList)) sep.data.toList).toArray⟩) ∧ Below w.heap.size w w') :
    SpecOK C f joinSpec := by
  refine specOK_of_calls hfn hbody hg ?_ ?_
  · intro args h K KP hk w0 O ι w cargs H hv
    unfold joinSpec at hk
    split at hk
    · rename_i b z o n sep
      rw [getK_heap] at hk; obtain ⟨x, hx, hk⟩ := hk
      cases x <;> try exact hk.elim
      rename_i wr z' cap cs
      simp only at hk
      rw [assertB_iff] at hk; obtain ⟨ha, hk⟩ := hk
      simp only [Bool.and_eq_true] at ha
      obtain ⟨⟨ha1, ha2⟩, ha3⟩ := ha
      have hz : z = 1 := Nat.eq_of_beq_eq_true ha1
      have hsep : sep.size = 0 := Nat.eq_of_beq_eq_true ha2
      have hn : 0 < n := Nat.le_of_ble_eq_true ha3
      subst hz
      rw [takeK_iff] at hk; obtain ⟨hle, hk⟩ := hk
      obtain ⟨xs, hk, hxs⟩ := strsK_elim (ι := ι) (n := h.nx) hk
      rw [assertB_iff, Bool.and_eq_true] at hk; obtain ⟨⟨hb1, hb2⟩, hk⟩ := hk
      have hb1 := Nat.le_of_ble_eq_true hb1
      have hb2 := Nat.le_of_ble_eq_true hb2
      obtain ⟨cslc, r1, e1, h1, csep, r2, e2, h2, e3⟩ := hv
      have e : cargs = #[cslc, csep] := by rw [← Array.toList_inj, e1, e2, e3]
      subst e
      simp only [VR] at h1 h2
      obtain ⟨hbn, hol, hlc, a, ha, hoc, rfl⟩ := h1
      subst h2
      obtain ⟨ob, hob, arr, e, fz, rfl, hcs, _⟩ := H.get hx rfl
      have hlen : xs.length = n := by
        have := congrArg List.length hxs
        simp at this; omega
      rcases hoc with hoc | hoc
      · omega
      · subst hoc
        have hse : sep.data.toList = [] := by
          obtain ⟨⟨l⟩⟩ := sep
          cases l with
          | nil => rfl
          | cons x r => simp [ByteArray.size] at hsep
        refine ⟨_, .string (catB xs), hk, rfl, ?_⟩
        have hcall := hj (ι b).blk (o * 1) ((ι b).cap - o) xs sep w ?_ (heap_lt hob) (by omega) (by omega) (by rw [hse, join_cat]; exact hb1)
        · rw [hse, join_cat, hlen] at hcall
          exact hcall
        · intro j x hj
          have : cs[o + j]? = some (.str x) := by
            have := congrArg (fun l => l[j]?) hxs
            simp only [List.getElem?_take, List.getElem?_drop, List.getElem?_map, hj] at this
            split at this
            · simpa using this
            · simp at this
          obtain ⟨y, hy, hvr⟩ := hcs _ _ this
          simp only [VR] at hvr; subst hvr
          rw [Nat.mul_one, cell_of hob]
          exact hy
    · exact hk.elim
  · intro args h
    refine sh_of2 ?_
    show Sh fun K : AV × Heap → Prop => joinSpec args h (fun a b => K (a, b)) noKP
    unfold joinSpec
    split
    · refine sh_bind (sh_hgetK _ _) fun blk => ?_
      cases blk <;> first | exact sh_false | skip
      exact sh_assert (sh_bind (sh_takeK _ _ _) fun r => sh_bind (sh_strsK _) fun xs => sh_assert (sh_pure (AV.str (catB xs), h)))
    · exact sh_false
end Go.Am
