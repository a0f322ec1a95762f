/- The cursor: reading numbers and texts, its end: their specifications. -/
import Derived.Test.YtneeggnlgonilaaGreatDoorSGamA
namespace Go.Proofs.YtneeggnlgonilaaGreatDoor.sp
open Go.Am

set_option maxRecDepth 100000 in
theorem nfU8 (s : ByteArray) (at_ : Int) (br : Bool) (cap : Option Nat) (k : AV → Blk → Prop) : (EA.call 129 [.ptr 0 0 0 0] ⟨1, [(0, .cells true 1 cap [.str s, .int .i64 at_, .bool br])]⟩ (fun v h => h.getK 0 fun x => k v x) noKP) =
  (bif br then k (AV.int IntKind.u8 0) (Blk.cells true 1 cap [AV.str s, AV.int IntKind.i64 at_, AV.bool br])
  else
    bif decide (1 > IntKind.wrap IntKind.i64 (↑(ByteArray.size s) - at_)) then
      k (AV.int IntKind.u8 0) (Blk.cells true 1 cap [AV.str s, AV.int IntKind.i64 at_, AV.bool true])
    else
      bif
          decide (0 ≤ IntKind.wrap IntKind.i64 (at_ + 1)) &&
            decide (IntKind.wrap IntKind.i64 (at_ + 1) ≤ ↑(ByteArray.size s)) then
        bif
            decide (0 ≤ IntKind.wrap IntKind.i64 (IntKind.wrap IntKind.i64 (at_ + 1) - 1)) &&
              decide
                (IntKind.wrap IntKind.i64 (IntKind.wrap IntKind.i64 (at_ + 1) - 1) ≤
                  IntKind.wrap IntKind.i64 (at_ + 1)) then
          bif
              Nat.beq
                (ByteArray.size
                  (ByteArray.extract s (Int.toNat (IntKind.wrap IntKind.i64 (IntKind.wrap IntKind.i64 (at_ + 1) - 1)))
                    (Int.toNat (IntKind.wrap IntKind.i64 (at_ + 1)))))
                1 then
            k
              (AV.int IntKind.u8
                (numB
                  (ByteArray.extract s (Int.toNat (IntKind.wrap IntKind.i64 (IntKind.wrap IntKind.i64 (at_ + 1) - 1)))
                    (Int.toNat (IntKind.wrap IntKind.i64 (at_ + 1))))
                  0 1))
              (Blk.cells true 1 cap [AV.str s, AV.int IntKind.i64 (IntKind.wrap IntKind.i64 (at_ + 1)), AV.bool br])
          else False
        else False
      else False) := by kernel_rfl

set_option maxRecDepth 100000 in
theorem nfU16 (s : ByteArray) (at_ : Int) (br : Bool) (cap : Option Nat) (k : AV → Blk → Prop) : (EA.call 128 [.ptr 0 0 0 0] ⟨1, [(0, .cells true 1 cap [.str s, .int .i64 at_, .bool br])]⟩ (fun v h => h.getK 0 fun x => k v x) noKP) =
  (bif br then k (AV.int IntKind.u16 0) (Blk.cells true 1 cap [AV.str s, AV.int IntKind.i64 at_, AV.bool br])
  else
    bif decide (2 > IntKind.wrap IntKind.i64 (↑(ByteArray.size s) - at_)) then
      k (AV.int IntKind.u16 0) (Blk.cells true 1 cap [AV.str s, AV.int IntKind.i64 at_, AV.bool true])
    else
      bif
          decide (0 ≤ IntKind.wrap IntKind.i64 (at_ + 2)) &&
            decide (IntKind.wrap IntKind.i64 (at_ + 2) ≤ ↑(ByteArray.size s)) then
        bif
            decide (0 ≤ IntKind.wrap IntKind.i64 (IntKind.wrap IntKind.i64 (at_ + 2) - 2)) &&
              decide
                (IntKind.wrap IntKind.i64 (IntKind.wrap IntKind.i64 (at_ + 2) - 2) ≤
                  IntKind.wrap IntKind.i64 (at_ + 2)) then
          bif
              Nat.beq
                (ByteArray.size
                  (ByteArray.extract s (Int.toNat (IntKind.wrap IntKind.i64 (IntKind.wrap IntKind.i64 (at_ + 2) - 2)))
                    (Int.toNat (IntKind.wrap IntKind.i64 (at_ + 2)))))
                2 then
            k
              (AV.int IntKind.u16
                (numB
                  (ByteArray.extract s (Int.toNat (IntKind.wrap IntKind.i64 (IntKind.wrap IntKind.i64 (at_ + 2) - 2)))
                    (Int.toNat (IntKind.wrap IntKind.i64 (at_ + 2))))
                  0 2))
              (Blk.cells true 1 cap [AV.str s, AV.int IntKind.i64 (IntKind.wrap IntKind.i64 (at_ + 2)), AV.bool br])
          else False
        else False
      else False) := by kernel_rfl

set_option maxRecDepth 100000 in
theorem nfU32 (s : ByteArray) (at_ : Int) (br : Bool) (cap : Option Nat) (k : AV → Blk → Prop) : (EA.call 135 [.ptr 0 0 0 0] ⟨1, [(0, .cells true 1 cap [.str s, .int .i64 at_, .bool br])]⟩ (fun v h => h.getK 0 fun x => k v x) noKP) =
  (bif br then k (AV.int IntKind.u32 0) (Blk.cells true 1 cap [AV.str s, AV.int IntKind.i64 at_, AV.bool br])
  else
    bif decide (4 > IntKind.wrap IntKind.i64 (↑(ByteArray.size s) - at_)) then
      k (AV.int IntKind.u32 0) (Blk.cells true 1 cap [AV.str s, AV.int IntKind.i64 at_, AV.bool true])
    else
      bif
          decide (0 ≤ IntKind.wrap IntKind.i64 (at_ + 4)) &&
            decide (IntKind.wrap IntKind.i64 (at_ + 4) ≤ ↑(ByteArray.size s)) then
        bif
            decide (0 ≤ IntKind.wrap IntKind.i64 (IntKind.wrap IntKind.i64 (at_ + 4) - 4)) &&
              decide
                (IntKind.wrap IntKind.i64 (IntKind.wrap IntKind.i64 (at_ + 4) - 4) ≤
                  IntKind.wrap IntKind.i64 (at_ + 4)) then
          bif
              Nat.beq
                (ByteArray.size
                  (ByteArray.extract s (Int.toNat (IntKind.wrap IntKind.i64 (IntKind.wrap IntKind.i64 (at_ + 4) - 4)))
                    (Int.toNat (IntKind.wrap IntKind.i64 (at_ + 4)))))
                4 then
            k
              (AV.int IntKind.u32
                (numB
                  (ByteArray.extract s (Int.toNat (IntKind.wrap IntKind.i64 (IntKind.wrap IntKind.i64 (at_ + 4) - 4)))
                    (Int.toNat (IntKind.wrap IntKind.i64 (at_ + 4))))
                  0 4))
              (Blk.cells true 1 cap [AV.str s, AV.int IntKind.i64 (IntKind.wrap IntKind.i64 (at_ + 4)), AV.bool br])
          else False
        else False
      else False) := by kernel_rfl

set_option maxRecDepth 100000 in
theorem nfU64 (s : ByteArray) (at_ : Int) (br : Bool) (cap : Option Nat) (k : AV → Blk → Prop) : (EA.call 126 [.ptr 0 0 0 0] ⟨1, [(0, .cells true 1 cap [.str s, .int .i64 at_, .bool br])]⟩ (fun v h => h.getK 0 fun x => k v x) noKP) =
  (bif br then k (AV.int IntKind.u64 0) (Blk.cells true 1 cap [AV.str s, AV.int IntKind.i64 at_, AV.bool br])
  else
    bif decide (8 > IntKind.wrap IntKind.i64 (↑(ByteArray.size s) - at_)) then
      k (AV.int IntKind.u64 0) (Blk.cells true 1 cap [AV.str s, AV.int IntKind.i64 at_, AV.bool true])
    else
      bif
          decide (0 ≤ IntKind.wrap IntKind.i64 (at_ + 8)) &&
            decide (IntKind.wrap IntKind.i64 (at_ + 8) ≤ ↑(ByteArray.size s)) then
        bif
            decide (0 ≤ IntKind.wrap IntKind.i64 (IntKind.wrap IntKind.i64 (at_ + 8) - 8)) &&
              decide
                (IntKind.wrap IntKind.i64 (IntKind.wrap IntKind.i64 (at_ + 8) - 8) ≤
                  IntKind.wrap IntKind.i64 (at_ + 8)) then
          bif
              Nat.beq
                (ByteArray.size
                  (ByteArray.extract s (Int.toNat (IntKind.wrap IntKind.i64 (IntKind.wrap IntKind.i64 (at_ + 8) - 8)))
                    (Int.toNat (IntKind.wrap IntKind.i64 (at_ + 8)))))
                8 then
            k
              (AV.int IntKind.u64
                (numB
                  (ByteArray.extract s (Int.toNat (IntKind.wrap IntKind.i64 (IntKind.wrap IntKind.i64 (at_ + 8) - 8)))
                    (Int.toNat (IntKind.wrap IntKind.i64 (at_ + 8))))
                  0 8))
              (Blk.cells true 1 cap [AV.str s, AV.int IntKind.i64 (IntKind.wrap IntKind.i64 (at_ + 8)), AV.bool br])
          else False
        else False
      else False) := by kernel_rfl

set_option maxRecDepth 100000 in
theorem nfTake (s : ByteArray) (at_ n : Int) (br : Bool) (cap : Option Nat) (k : AV → Blk → Prop) : (EA.call 136 [.ptr 0 0 0 0, .int .i64 n] ⟨1, [(0, .cells true 1 cap [.str s, .int .i64 at_, .bool br])]⟩ (fun v h => h.getK 0 fun x => k v x) noKP) =
  (bif br then k (AV.str { data := #[] }) (Blk.cells true 1 cap [AV.str s, AV.int IntKind.i64 at_, AV.bool br])
  else
    bif decide (n < 0) then
      k (AV.str { data := #[] }) (Blk.cells true 1 cap [AV.str s, AV.int IntKind.i64 at_, AV.bool true])
    else
      bif decide (n > IntKind.wrap IntKind.i64 (↑(ByteArray.size s) - at_)) then
        k (AV.str { data := #[] }) (Blk.cells true 1 cap [AV.str s, AV.int IntKind.i64 at_, AV.bool true])
      else
        bif
            decide (0 ≤ IntKind.wrap IntKind.i64 (at_ + n)) &&
              decide (IntKind.wrap IntKind.i64 (at_ + n) ≤ ↑(ByteArray.size s)) then
          bif
              decide (0 ≤ IntKind.wrap IntKind.i64 (IntKind.wrap IntKind.i64 (at_ + n) - n)) &&
                decide
                  (IntKind.wrap IntKind.i64 (IntKind.wrap IntKind.i64 (at_ + n) - n) ≤
                    IntKind.wrap IntKind.i64 (at_ + n)) then
            k
              (AV.str
                (ByteArray.extract s (Int.toNat (IntKind.wrap IntKind.i64 (IntKind.wrap IntKind.i64 (at_ + n) - n)))
                  (Int.toNat (IntKind.wrap IntKind.i64 (at_ + n)))))
              (Blk.cells true 1 cap [AV.str s, AV.int IntKind.i64 (IntKind.wrap IntKind.i64 (at_ + n)), AV.bool br])
          else False
        else False) := by kernel_rfl

set_option maxRecDepth 100000 in
theorem nfEnd (s : ByteArray) (at_ : Int) (br : Bool) (cap : Option Nat) (k : AV → Blk → Prop) : (EA.call 141 [.ptr 0 0 0 0] ⟨1, [(0, .cells true 1 cap [.str s, .int .i64 at_, .bool br])]⟩ (fun v h => h.getK 0 fun x => k v x) noKP) =
  (bif br then k (AV.int IntKind.i64 4) (Blk.cells true 1 cap [AV.str s, AV.int IntKind.i64 at_, AV.bool br])
  else
    bif decide (at_ < ↑(ByteArray.size s)) then
      k (AV.int IntKind.i64 5) (Blk.cells true 1 cap [AV.str s, AV.int IntKind.i64 at_, AV.bool br])
    else k (AV.int IntKind.i64 0) (Blk.cells true 1 cap [AV.str s, AV.int IntKind.i64 at_, AV.bool br])) := by kernel_rfl

set_option maxRecDepth 100000 in
theorem nfLeft (s : ByteArray) (at_ : Int) (br : Bool) (cap : Option Nat) (k : AV → Blk → Prop) : (EA.call 143 [.ptr 0 0 0 0] ⟨1, [(0, .cells true 1 cap [.str s, .int .i64 at_, .bool br])]⟩ (fun v h => h.getK 0 fun x => k v x) noKP) =
  (bif br then k (AV.int IntKind.i64 0) (Blk.cells true 1 cap [AV.str s, AV.int IntKind.i64 at_, AV.bool br])
  else
    k (AV.int IntKind.i64 (IntKind.wrap IntKind.i64 (↑(ByteArray.size s) - at_)))
      (Blk.cells true 1 cap [AV.str s, AV.int IntKind.i64 at_, AV.bool br])) := by kernel_rfl

set_option maxRecDepth 100000 in
theorem nfPutc8 (s : ByteArray) (n : Int) (k : AV → Prop) : (EA.call 120 [.str s, .int .u8 n] ⟨0, []⟩ (fun v _ => k v) noKP) =
  (bif true && Nat.ble (ByteArray.size s + 1) 9223372036854775807 then k (AV.str (s ++ bs (beL 1 n))) else False) := by kernel_rfl

set_option maxRecDepth 100000 in
theorem nfPutc16 (s : ByteArray) (n : Int) (k : AV → Prop) : (EA.call 122 [.str s, .int .u16 n] ⟨0, []⟩ (fun v _ => k v) noKP) =
  (bif true && Nat.ble (ByteArray.size s + 2) 9223372036854775807 then k (AV.str (s ++ bs (beL 2 n))) else False) := by kernel_rfl

set_option maxRecDepth 100000 in
theorem nfPutc32 (s : ByteArray) (n : Int) (k : AV → Prop) : (EA.call 132 [.str s, .int .u32 n] ⟨0, []⟩ (fun v _ => k v) noKP) =
  (bif true && Nat.ble (ByteArray.size s + 4) 9223372036854775807 then k (AV.str (s ++ bs (beL 4 n))) else False) := by kernel_rfl

set_option maxRecDepth 100000 in
theorem nfPutc64 (s : ByteArray) (n : Int) (k : AV → Prop) : (EA.call 121 [.str s, .int .u64 n] ⟨0, []⟩ (fun v _ => k v) noKP) =
  (bif true && Nat.ble (ByteArray.size s + 8) 9223372036854775807 then k (AV.str (s ++ bs (beL 8 n))) else False) := by kernel_rfl

/-- A cursor that may be: within its text, which is not too long. -/
def curOK (s : ByteArray) (a : Int) : Bool := decide (0 ≤ a) && decide (a ≤ (s.size : Int)) && Nat.ble s.size 4611686018427387904
theorem curOK_iff {s : ByteArray} {a : Int} (h : curOK s a = true) : 0 ≤ a ∧ a ≤ (s.size : Int) ∧ s.size ≤ 4611686018427387904 := by
  simp only [curOK, Bool.and_eq_true, decide_eq_true_eq] at h
  exact ⟨h.1.1, h.1.2, Nat.le_of_ble_eq_true h.2⟩

def u8F : List AV → List AV → List AV → Tree (AV × List AV)
  | [], [], [.str s, .int .i64 a, .bool br] => .br (curOK s a) (.br br (.leaf (.int .u8 0, [.str s, .int .i64 a, .bool true]))
      (.br (decide (a + 1 ≤ (s.size : Int))) (.leaf (.int .u8 (numB s a.toNat 1), [.str s, .int .i64 (a + 1), .bool false])) (.leaf (.int .u8 0, [.str s, .int .i64 a, .bool true])))) .no
  | _, _, _ => .no
theorem u8_ok : SpecOK C0 129 (ptrSpec 0 u8F) := ptrSpec_ok glob0 EA_ok fun a b cs v cs' hl hF => by
  unfold u8F at hF; split at hF
  · rename_i s a br
    simp only [Tree.val] at hF
    cases hc : curOK s a with
    | false => rw [hc] at hF; cases hF
    | true =>
      rw [hc, cond_true] at hF
      obtain ⟨h0, h1, h2⟩ := curOK_iff hc
      have e1 : IntKind.i64.wrap ((s.size : Int) - a) = (s.size : Int) - a := wrap_i64 (by omega) (by omega)
      have e2 : IntKind.i64.wrap (a + 1) = a + 1 := wrap_i64 (by omega) (by omega)
      have e3 : IntKind.i64.wrap (a + 1 - 1) = a := by rw [show a + 1 - 1 = a from by omega]; exact wrap_i64 (by omega) (by omega)
      have nf := fun cap k => nfU8 s a br cap k
      simp only [e1, e2, e3] at nf
      cases br with
      | true =>
        rw [cond_true] at hF; cases hF
        refine ⟨⟨trivial, trivial, ⟨trivial, trivial, trivial, trivial⟩, trivial, ⟨trivial, trivial, trivial, trivial⟩⟩, fun cap k hk => ?_⟩
        rw [List.nil_append, nf]
        exact hk
      | false =>
        rw [cond_false] at hF
        cases hd : decide (a + 1 ≤ (s.size : Int)) with
        | true =>
          rw [hd, cond_true] at hF; cases hF
          have hd := of_decide_eq_true hd
          have t1 : decide (1 > (s.size : Int) - a) = false := decide_eq_false (by omega)
          have t2 : (decide (0 ≤ a + 1) && decide (a + 1 ≤ (s.size : Int))) = true := by simp; omega
          have t3 : (decide (0 ≤ a) && decide (a ≤ a + 1)) = true := by simp; omega
          have hb : (a + 1).toNat ≤ s.size := by omega
          have t4 : Nat.beq (ByteArray.size (ByteArray.extract s a.toNat (a + 1).toNat)) 1 = true := by
            rw [size_extract s hb, show (a + 1).toNat - a.toNat = 1 from by omega]; rfl
          have t5 := numB_extract s (a := a.toNat) hb 1 (by omega)
          simp only [t1, t2, t3, t4, t5, cond_true, cond_false] at nf
          refine ⟨⟨trivial, trivial, ⟨trivial, trivial, trivial, trivial⟩, trivial, ⟨trivial, trivial, trivial, trivial⟩⟩, fun cap k hk => ?_⟩
          rw [List.nil_append, nf]
          exact hk
        | false =>
          rw [hd, cond_false] at hF; cases hF
          have hd := of_decide_eq_false hd
          have t1 : decide (1 > (s.size : Int) - a) = true := decide_eq_true (by omega)
          simp only [t1, cond_true, cond_false] at nf
          refine ⟨⟨trivial, trivial, ⟨trivial, trivial, trivial, trivial⟩, trivial, ⟨trivial, trivial, trivial, trivial⟩⟩, fun cap k hk => ?_⟩
          rw [List.nil_append, nf]
          exact hk
  · cases hF

def u16F : List AV → List AV → List AV → Tree (AV × List AV)
  | [], [], [.str s, .int .i64 a, .bool br] => .br (curOK s a) (.br br (.leaf (.int .u16 0, [.str s, .int .i64 a, .bool true]))
      (.br (decide (a + 2 ≤ (s.size : Int))) (.leaf (.int .u16 (numB s a.toNat 2), [.str s, .int .i64 (a + 2), .bool false])) (.leaf (.int .u16 0, [.str s, .int .i64 a, .bool true])))) .no
  | _, _, _ => .no
theorem u16_ok : SpecOK C0 128 (ptrSpec 0 u16F) := ptrSpec_ok glob0 EA_ok fun a b cs v cs' hl hF => by
  unfold u16F at hF; split at hF
  · rename_i s a br
    simp only [Tree.val] at hF
    cases hc : curOK s a with
    | false => rw [hc] at hF; cases hF
    | true =>
      rw [hc, cond_true] at hF
      obtain ⟨h0, h1, h2⟩ := curOK_iff hc
      have e1 : IntKind.i64.wrap ((s.size : Int) - a) = (s.size : Int) - a := wrap_i64 (by omega) (by omega)
      have e2 : IntKind.i64.wrap (a + 2) = a + 2 := wrap_i64 (by omega) (by omega)
      have e3 : IntKind.i64.wrap (a + 2 - 2) = a := by rw [show a + 2 - 2 = a from by omega]; exact wrap_i64 (by omega) (by omega)
      have nf := fun cap k => nfU16 s a br cap k
      simp only [e1, e2, e3] at nf
      cases br with
      | true =>
        rw [cond_true] at hF; cases hF
        refine ⟨⟨trivial, trivial, ⟨trivial, trivial, trivial, trivial⟩, trivial, ⟨trivial, trivial, trivial, trivial⟩⟩, fun cap k hk => ?_⟩
        rw [List.nil_append, nf]
        exact hk
      | false =>
        rw [cond_false] at hF
        cases hd : decide (a + 2 ≤ (s.size : Int)) with
        | true =>
          rw [hd, cond_true] at hF; cases hF
          have hd := of_decide_eq_true hd
          have t1 : decide (2 > (s.size : Int) - a) = false := decide_eq_false (by omega)
          have t2 : (decide (0 ≤ a + 2) && decide (a + 2 ≤ (s.size : Int))) = true := by simp; omega
          have t3 : (decide (0 ≤ a) && decide (a ≤ a + 2)) = true := by simp; omega
          have hb : (a + 2).toNat ≤ s.size := by omega
          have t4 : Nat.beq (ByteArray.size (ByteArray.extract s a.toNat (a + 2).toNat)) 2 = true := by
            rw [size_extract s hb, show (a + 2).toNat - a.toNat = 2 from by omega]; rfl
          have t5 := numB_extract s (a := a.toNat) hb 2 (by omega)
          simp only [t1, t2, t3, t4, t5, cond_true, cond_false] at nf
          refine ⟨⟨trivial, trivial, ⟨trivial, trivial, trivial, trivial⟩, trivial, ⟨trivial, trivial, trivial, trivial⟩⟩, fun cap k hk => ?_⟩
          rw [List.nil_append, nf]
          exact hk
        | false =>
          rw [hd, cond_false] at hF; cases hF
          have hd := of_decide_eq_false hd
          have t1 : decide (2 > (s.size : Int) - a) = true := decide_eq_true (by omega)
          simp only [t1, cond_true, cond_false] at nf
          refine ⟨⟨trivial, trivial, ⟨trivial, trivial, trivial, trivial⟩, trivial, ⟨trivial, trivial, trivial, trivial⟩⟩, fun cap k hk => ?_⟩
          rw [List.nil_append, nf]
          exact hk
  · cases hF

def u32F : List AV → List AV → List AV → Tree (AV × List AV)
  | [], [], [.str s, .int .i64 a, .bool br] => .br (curOK s a) (.br br (.leaf (.int .u32 0, [.str s, .int .i64 a, .bool true]))
      (.br (decide (a + 4 ≤ (s.size : Int))) (.leaf (.int .u32 (numB s a.toNat 4), [.str s, .int .i64 (a + 4), .bool false])) (.leaf (.int .u32 0, [.str s, .int .i64 a, .bool true])))) .no
  | _, _, _ => .no
theorem u32_ok : SpecOK C0 135 (ptrSpec 0 u32F) := ptrSpec_ok glob0 EA_ok fun a b cs v cs' hl hF => by
  unfold u32F at hF; split at hF
  · rename_i s a br
    simp only [Tree.val] at hF
    cases hc : curOK s a with
    | false => rw [hc] at hF; cases hF
    | true =>
      rw [hc, cond_true] at hF
      obtain ⟨h0, h1, h2⟩ := curOK_iff hc
      have e1 : IntKind.i64.wrap ((s.size : Int) - a) = (s.size : Int) - a := wrap_i64 (by omega) (by omega)
      have e2 : IntKind.i64.wrap (a + 4) = a + 4 := wrap_i64 (by omega) (by omega)
      have e3 : IntKind.i64.wrap (a + 4 - 4) = a := by rw [show a + 4 - 4 = a from by omega]; exact wrap_i64 (by omega) (by omega)
      have nf := fun cap k => nfU32 s a br cap k
      simp only [e1, e2, e3] at nf
      cases br with
      | true =>
        rw [cond_true] at hF; cases hF
        refine ⟨⟨trivial, trivial, ⟨trivial, trivial, trivial, trivial⟩, trivial, ⟨trivial, trivial, trivial, trivial⟩⟩, fun cap k hk => ?_⟩
        rw [List.nil_append, nf]
        exact hk
      | false =>
        rw [cond_false] at hF
        cases hd : decide (a + 4 ≤ (s.size : Int)) with
        | true =>
          rw [hd, cond_true] at hF; cases hF
          have hd := of_decide_eq_true hd
          have t1 : decide (4 > (s.size : Int) - a) = false := decide_eq_false (by omega)
          have t2 : (decide (0 ≤ a + 4) && decide (a + 4 ≤ (s.size : Int))) = true := by simp; omega
          have t3 : (decide (0 ≤ a) && decide (a ≤ a + 4)) = true := by simp; omega
          have hb : (a + 4).toNat ≤ s.size := by omega
          have t4 : Nat.beq (ByteArray.size (ByteArray.extract s a.toNat (a + 4).toNat)) 4 = true := by
            rw [size_extract s hb, show (a + 4).toNat - a.toNat = 4 from by omega]; rfl
          have t5 := numB_extract s (a := a.toNat) hb 4 (by omega)
          simp only [t1, t2, t3, t4, t5, cond_true, cond_false] at nf
          refine ⟨⟨trivial, trivial, ⟨trivial, trivial, trivial, trivial⟩, trivial, ⟨trivial, trivial, trivial, trivial⟩⟩, fun cap k hk => ?_⟩
          rw [List.nil_append, nf]
          exact hk
        | false =>
          rw [hd, cond_false] at hF; cases hF
          have hd := of_decide_eq_false hd
          have t1 : decide (4 > (s.size : Int) - a) = true := decide_eq_true (by omega)
          simp only [t1, cond_true, cond_false] at nf
          refine ⟨⟨trivial, trivial, ⟨trivial, trivial, trivial, trivial⟩, trivial, ⟨trivial, trivial, trivial, trivial⟩⟩, fun cap k hk => ?_⟩
          rw [List.nil_append, nf]
          exact hk
  · cases hF

def u64F : List AV → List AV → List AV → Tree (AV × List AV)
  | [], [], [.str s, .int .i64 a, .bool br] => .br (curOK s a) (.br br (.leaf (.int .u64 0, [.str s, .int .i64 a, .bool true]))
      (.br (decide (a + 8 ≤ (s.size : Int))) (.leaf (.int .u64 (numB s a.toNat 8), [.str s, .int .i64 (a + 8), .bool false])) (.leaf (.int .u64 0, [.str s, .int .i64 a, .bool true])))) .no
  | _, _, _ => .no
theorem u64_ok : SpecOK C0 126 (ptrSpec 0 u64F) := ptrSpec_ok glob0 EA_ok fun a b cs v cs' hl hF => by
  unfold u64F at hF; split at hF
  · rename_i s a br
    simp only [Tree.val] at hF
    cases hc : curOK s a with
    | false => rw [hc] at hF; cases hF
    | true =>
      rw [hc, cond_true] at hF
      obtain ⟨h0, h1, h2⟩ := curOK_iff hc
      have e1 : IntKind.i64.wrap ((s.size : Int) - a) = (s.size : Int) - a := wrap_i64 (by omega) (by omega)
      have e2 : IntKind.i64.wrap (a + 8) = a + 8 := wrap_i64 (by omega) (by omega)
      have e3 : IntKind.i64.wrap (a + 8 - 8) = a := by rw [show a + 8 - 8 = a from by omega]; exact wrap_i64 (by omega) (by omega)
      have nf := fun cap k => nfU64 s a br cap k
      simp only [e1, e2, e3] at nf
      cases br with
      | true =>
        rw [cond_true] at hF; cases hF
        refine ⟨⟨trivial, trivial, ⟨trivial, trivial, trivial, trivial⟩, trivial, ⟨trivial, trivial, trivial, trivial⟩⟩, fun cap k hk => ?_⟩
        rw [List.nil_append, nf]
        exact hk
      | false =>
        rw [cond_false] at hF
        cases hd : decide (a + 8 ≤ (s.size : Int)) with
        | true =>
          rw [hd, cond_true] at hF; cases hF
          have hd := of_decide_eq_true hd
          have t1 : decide (8 > (s.size : Int) - a) = false := decide_eq_false (by omega)
          have t2 : (decide (0 ≤ a + 8) && decide (a + 8 ≤ (s.size : Int))) = true := by simp; omega
          have t3 : (decide (0 ≤ a) && decide (a ≤ a + 8)) = true := by simp; omega
          have hb : (a + 8).toNat ≤ s.size := by omega
          have t4 : Nat.beq (ByteArray.size (ByteArray.extract s a.toNat (a + 8).toNat)) 8 = true := by
            rw [size_extract s hb, show (a + 8).toNat - a.toNat = 8 from by omega]; rfl
          have t5 := numB_extract s (a := a.toNat) hb 8 (by omega)
          simp only [t1, t2, t3, t4, t5, cond_true, cond_false] at nf
          refine ⟨⟨trivial, trivial, ⟨trivial, trivial, trivial, trivial⟩, trivial, ⟨trivial, trivial, trivial, trivial⟩⟩, fun cap k hk => ?_⟩
          rw [List.nil_append, nf]
          exact hk
        | false =>
          rw [hd, cond_false] at hF; cases hF
          have hd := of_decide_eq_false hd
          have t1 : decide (8 > (s.size : Int) - a) = true := decide_eq_true (by omega)
          simp only [t1, cond_true, cond_false] at nf
          refine ⟨⟨trivial, trivial, ⟨trivial, trivial, trivial, trivial⟩, trivial, ⟨trivial, trivial, trivial, trivial⟩⟩, fun cap k hk => ?_⟩
          rw [List.nil_append, nf]
          exact hk
  · cases hF

def takeF : List AV → List AV → List AV → Tree (AV × List AV)
  | [], [.int .i64 n], [.str s, .int .i64 a, .bool br] => .br (curOK s a && decide (0 ≤ n) && decide (n ≤ 4611686018427387904)) (.br br (.leaf (.str (bs []), [.str s, .int .i64 a, .bool true]))
      (.br (decide (a + n ≤ (s.size : Int))) (.leaf (.str (s.extract a.toNat (a + n).toNat), [.str s, .int .i64 (a + n), .bool false])) (.leaf (.str (bs []), [.str s, .int .i64 a, .bool true])))) .no
  | _, _, _ => .no
theorem take_ok : SpecOK C0 136 (ptrSpec 0 takeF) := ptrSpec_ok glob0 EA_ok fun a b cs v cs' hl hF => by
  unfold takeF at hF; split at hF
  · rename_i n s a br
    simp only [Tree.val] at hF
    cases hc : (curOK s a && decide (0 ≤ n) && decide (n ≤ 4611686018427387904)) with
    | false => rw [hc] at hF; cases hF
    | true =>
      rw [hc, cond_true] at hF
      simp only [Bool.and_eq_true, decide_eq_true_eq] at hc
      obtain ⟨⟨hc, hn⟩, hn2⟩ := hc
      obtain ⟨h0, h1, h2⟩ := curOK_iff hc
      have e1 : IntKind.i64.wrap ((s.size : Int) - a) = (s.size : Int) - a := wrap_i64 (by omega) (by omega)
      have nf := fun cap k => nfTake s a n br cap k
      have t0 : decide (n < 0) = false := decide_eq_false (by omega)
      simp only [e1, t0, cond_false] at nf
      cases br with
      | true =>
        rw [cond_true] at hF; cases hF
        refine ⟨⟨trivial, ⟨trivial, trivial⟩, ⟨trivial, trivial, trivial, trivial⟩, trivial, ⟨trivial, trivial, trivial, trivial⟩⟩, fun cap k hk => ?_⟩
        rw [List.nil_append, nf]
        exact hk
      | false =>
        rw [cond_false] at hF
        cases hd : decide (a + n ≤ (s.size : Int)) with
        | true =>
          rw [hd, cond_true] at hF; cases hF
          have hd := of_decide_eq_true hd
          have e2 : IntKind.i64.wrap (a + n) = a + n := wrap_i64 (by omega) (by omega)
          have e3 : IntKind.i64.wrap (a + n - n) = a := by rw [show a + n - n = a from by omega]; exact wrap_i64 (by omega) (by omega)
          have t1 : decide (n > (s.size : Int) - a) = false := decide_eq_false (by omega)
          have t2 : (decide (0 ≤ a + n) && decide (a + n ≤ (s.size : Int))) = true := by simp; omega
          have t3 : (decide (0 ≤ a) && decide (a ≤ a + n)) = true := by simp; omega
          simp only [e2, e3, t1, t2, t3, cond_true, cond_false] at nf
          refine ⟨⟨trivial, ⟨trivial, trivial⟩, ⟨trivial, trivial, trivial, trivial⟩, trivial, ⟨trivial, trivial, trivial, trivial⟩⟩, fun cap k hk => ?_⟩
          rw [List.nil_append, nf]
          exact hk
        | false =>
          rw [hd, cond_false] at hF; cases hF
          have hd := of_decide_eq_false hd
          have t1 : decide (n > (s.size : Int) - a) = true := decide_eq_true (by omega)
          simp only [t1, cond_true, cond_false] at nf
          refine ⟨⟨trivial, ⟨trivial, trivial⟩, ⟨trivial, trivial, trivial, trivial⟩, trivial, ⟨trivial, trivial, trivial, trivial⟩⟩, fun cap k hk => ?_⟩
          rw [List.nil_append, nf]
          exact hk
  · cases hF

end Go.Proofs.YtneeggnlgonilaaGreatDoor.sp
