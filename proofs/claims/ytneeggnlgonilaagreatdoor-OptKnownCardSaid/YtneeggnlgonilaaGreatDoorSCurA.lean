/- The cursor's functions that lay numbers, and read them: their specifications for the abstract machine. -/
import Derived.Test.YtneeggnlgonilaaGreatDoorSBase
namespace Go.Proofs.YtneeggnlgonilaaGreatDoor.sp
open Go.Am

set_option maxRecDepth 100000 in
theorem nfPut8 (s : ByteArray) (n : Int) (k : AV → Prop) : (E0.call 160 [.str s, .int .u8 n, .int .i64 1] ⟨0, []⟩ (fun v _ => k v) noKP) =
  (bif
      Nat.ble
        (ByteArray.size s +
          ByteArray.size (strOf (intAt [AV.int IntKind.u8 (IntKind.wrap IntKind.u8 (IntKind.wrap IntKind.u64 n))]) 0 1))
        9223372036854775807 then
    k (AV.str (s ++ strOf (intAt [AV.int IntKind.u8 (IntKind.wrap IntKind.u8 (IntKind.wrap IntKind.u64 n))]) 0 1))
  else False) := by kernel_rfl

set_option maxRecDepth 100000 in
theorem nfPut16 (s : ByteArray) (n : Int) (k : AV → Prop) : (E0.call 162 [.str s, .int .u16 n, .int .i64 2] ⟨0, []⟩ (fun v _ => k v) noKP) =
  (bif
      Nat.ble
        (ByteArray.size s +
          ByteArray.size
            (strOf
              (intAt
                [AV.int IntKind.u8 (IntKind.wrap IntKind.u8 (shrA IntKind.u64 (IntKind.wrap IntKind.u64 n) 8)),
                  AV.int IntKind.u8 (IntKind.wrap IntKind.u8 (IntKind.wrap IntKind.u64 n))])
              0 2))
        9223372036854775807 then
    k
      (AV.str
        (s ++
          strOf
            (intAt
              [AV.int IntKind.u8 (IntKind.wrap IntKind.u8 (shrA IntKind.u64 (IntKind.wrap IntKind.u64 n) 8)),
                AV.int IntKind.u8 (IntKind.wrap IntKind.u8 (IntKind.wrap IntKind.u64 n))])
            0 2))
  else False) := by kernel_rfl

set_option maxRecDepth 100000 in
theorem nfPut32 (s : ByteArray) (n : Int) (k : AV → Prop) : (E0.call 166 [.str s, .int .u32 n, .int .i64 4] ⟨0, []⟩ (fun v _ => k v) noKP) =
  (bif
      Nat.ble
        (ByteArray.size s +
          ByteArray.size
            (strOf
              (intAt
                [AV.int IntKind.u8
                    (IntKind.wrap IntKind.u8
                      (shrA IntKind.u64 (shrA IntKind.u64 (shrA IntKind.u64 (IntKind.wrap IntKind.u64 n) 8) 8) 8)),
                  AV.int IntKind.u8
                    (IntKind.wrap IntKind.u8 (shrA IntKind.u64 (shrA IntKind.u64 (IntKind.wrap IntKind.u64 n) 8) 8)),
                  AV.int IntKind.u8 (IntKind.wrap IntKind.u8 (shrA IntKind.u64 (IntKind.wrap IntKind.u64 n) 8)),
                  AV.int IntKind.u8 (IntKind.wrap IntKind.u8 (IntKind.wrap IntKind.u64 n))])
              0 4))
        9223372036854775807 then
    k
      (AV.str
        (s ++
          strOf
            (intAt
              [AV.int IntKind.u8
                  (IntKind.wrap IntKind.u8
                    (shrA IntKind.u64 (shrA IntKind.u64 (shrA IntKind.u64 (IntKind.wrap IntKind.u64 n) 8) 8) 8)),
                AV.int IntKind.u8
                  (IntKind.wrap IntKind.u8 (shrA IntKind.u64 (shrA IntKind.u64 (IntKind.wrap IntKind.u64 n) 8) 8)),
                AV.int IntKind.u8 (IntKind.wrap IntKind.u8 (shrA IntKind.u64 (IntKind.wrap IntKind.u64 n) 8)),
                AV.int IntKind.u8 (IntKind.wrap IntKind.u8 (IntKind.wrap IntKind.u64 n))])
            0 4))
  else False) := by kernel_rfl

set_option maxRecDepth 100000 in
theorem nfPut64 (s : ByteArray) (n : Int) (k : AV → Prop) : (E0.call 161 [.str s, .int .u64 n, .int .i64 8] ⟨0, []⟩ (fun v _ => k v) noKP) =
  (bif
      Nat.ble
        (ByteArray.size s +
          ByteArray.size
            (strOf
              (intAt
                [AV.int IntKind.u8
                    (IntKind.wrap IntKind.u8
                      (shrA IntKind.u64
                        (shrA IntKind.u64
                          (shrA IntKind.u64
                            (shrA IntKind.u64 (shrA IntKind.u64 (shrA IntKind.u64 (shrA IntKind.u64 n 8) 8) 8) 8) 8)
                          8)
                        8)),
                  AV.int IntKind.u8
                    (IntKind.wrap IntKind.u8
                      (shrA IntKind.u64
                        (shrA IntKind.u64
                          (shrA IntKind.u64 (shrA IntKind.u64 (shrA IntKind.u64 (shrA IntKind.u64 n 8) 8) 8) 8) 8)
                        8)),
                  AV.int IntKind.u8
                    (IntKind.wrap IntKind.u8
                      (shrA IntKind.u64
                        (shrA IntKind.u64 (shrA IntKind.u64 (shrA IntKind.u64 (shrA IntKind.u64 n 8) 8) 8) 8) 8)),
                  AV.int IntKind.u8
                    (IntKind.wrap IntKind.u8
                      (shrA IntKind.u64 (shrA IntKind.u64 (shrA IntKind.u64 (shrA IntKind.u64 n 8) 8) 8) 8)),
                  AV.int IntKind.u8
                    (IntKind.wrap IntKind.u8 (shrA IntKind.u64 (shrA IntKind.u64 (shrA IntKind.u64 n 8) 8) 8)),
                  AV.int IntKind.u8 (IntKind.wrap IntKind.u8 (shrA IntKind.u64 (shrA IntKind.u64 n 8) 8)),
                  AV.int IntKind.u8 (IntKind.wrap IntKind.u8 (shrA IntKind.u64 n 8)),
                  AV.int IntKind.u8 (IntKind.wrap IntKind.u8 n)])
              0 8))
        9223372036854775807 then
    k
      (AV.str
        (s ++
          strOf
            (intAt
              [AV.int IntKind.u8
                  (IntKind.wrap IntKind.u8
                    (shrA IntKind.u64
                      (shrA IntKind.u64
                        (shrA IntKind.u64
                          (shrA IntKind.u64 (shrA IntKind.u64 (shrA IntKind.u64 (shrA IntKind.u64 n 8) 8) 8) 8) 8)
                        8)
                      8)),
                AV.int IntKind.u8
                  (IntKind.wrap IntKind.u8
                    (shrA IntKind.u64
                      (shrA IntKind.u64
                        (shrA IntKind.u64 (shrA IntKind.u64 (shrA IntKind.u64 (shrA IntKind.u64 n 8) 8) 8) 8) 8)
                      8)),
                AV.int IntKind.u8
                  (IntKind.wrap IntKind.u8
                    (shrA IntKind.u64
                      (shrA IntKind.u64 (shrA IntKind.u64 (shrA IntKind.u64 (shrA IntKind.u64 n 8) 8) 8) 8) 8)),
                AV.int IntKind.u8
                  (IntKind.wrap IntKind.u8
                    (shrA IntKind.u64 (shrA IntKind.u64 (shrA IntKind.u64 (shrA IntKind.u64 n 8) 8) 8) 8)),
                AV.int IntKind.u8
                  (IntKind.wrap IntKind.u8 (shrA IntKind.u64 (shrA IntKind.u64 (shrA IntKind.u64 n 8) 8) 8)),
                AV.int IntKind.u8 (IntKind.wrap IntKind.u8 (shrA IntKind.u64 (shrA IntKind.u64 n 8) 8)),
                AV.int IntKind.u8 (IntKind.wrap IntKind.u8 (shrA IntKind.u64 n 8)),
                AV.int IntKind.u8 (IntKind.wrap IntKind.u8 n)])
            0 8))
  else False) := by kernel_rfl

set_option maxRecDepth 100000 in
theorem nfNum8 (b0 : UInt8) (o : Int) (cap : Option Nat) (k : AV → Blk → Prop) : (E0.call 177 [.str (bs [b0]), .ptr 0 0 0 0] ⟨1, [(0, .cells true 1 cap [.int .u8 o])]⟩ (fun v h => h.getK 0 fun x => k v x) noKP) =
  (k (AV.tup [])
    (Blk.cells true 1 cap
      [AV.int IntKind.u8
          (IntKind.wrap IntKind.u8
            (aBits BinOp.or IntKind.u64 (shlA IntKind.u64 0 8) (IntKind.wrap IntKind.u64 (bAt (bs [b0]) 0))))])) := by kernel_rfl

set_option maxRecDepth 100000 in
theorem nfNum16 (b0 b1 : UInt8) (o : Int) (cap : Option Nat) (k : AV → Blk → Prop) : (E0.call 176 [.str (bs [b0, b1]), .ptr 0 0 0 0] ⟨1, [(0, .cells true 1 cap [.int .u16 o])]⟩ (fun v h => h.getK 0 fun x => k v x) noKP) =
  (k (AV.tup [])
    (Blk.cells true 1 cap
      [AV.int IntKind.u16
          (IntKind.wrap IntKind.u16
            (aBits BinOp.or IntKind.u64
              (shlA IntKind.u64
                (aBits BinOp.or IntKind.u64 (shlA IntKind.u64 0 8) (IntKind.wrap IntKind.u64 (bAt (bs [b0, b1]) 0))) 8)
              (IntKind.wrap IntKind.u64 (bAt (bs [b0, b1]) 1))))])) := by kernel_rfl

set_option maxRecDepth 100000 in
theorem nfNum32 (b0 b1 b2 b3 : UInt8) (o : Int) (cap : Option Nat) (k : AV → Blk → Prop) : (E0.call 178 [.str (bs [b0, b1, b2, b3]), .ptr 0 0 0 0] ⟨1, [(0, .cells true 1 cap [.int .u32 o])]⟩ (fun v h => h.getK 0 fun x => k v x) noKP) =
  (k (AV.tup [])
    (Blk.cells true 1 cap
      [AV.int IntKind.u32
          (IntKind.wrap IntKind.u32
            (aBits BinOp.or IntKind.u64
              (shlA IntKind.u64
                (aBits BinOp.or IntKind.u64
                  (shlA IntKind.u64
                    (aBits BinOp.or IntKind.u64
                      (shlA IntKind.u64
                        (aBits BinOp.or IntKind.u64 (shlA IntKind.u64 0 8)
                          (IntKind.wrap IntKind.u64 (bAt (bs [b0, b1, b2, b3]) 0)))
                        8)
                      (IntKind.wrap IntKind.u64 (bAt (bs [b0, b1, b2, b3]) 1)))
                    8)
                  (IntKind.wrap IntKind.u64 (bAt (bs [b0, b1, b2, b3]) 2)))
                8)
              (IntKind.wrap IntKind.u64 (bAt (bs [b0, b1, b2, b3]) 3))))])) := by kernel_rfl

set_option maxRecDepth 100000 in
theorem nfNum64 (b0 b1 b2 b3 b4 b5 b6 b7 : UInt8) (o : Int) (cap : Option Nat) (k : AV → Blk → Prop) : (E0.call 175 [.str (bs [b0, b1, b2, b3, b4, b5, b6, b7]), .ptr 0 0 0 0] ⟨1, [(0, .cells true 1 cap [.int .u64 o])]⟩ (fun v h => h.getK 0 fun x => k v x) noKP) =
  (k (AV.tup [])
    (Blk.cells true 1 cap
      [AV.int IntKind.u64
          (aBits BinOp.or IntKind.u64
            (shlA IntKind.u64
              (aBits BinOp.or IntKind.u64
                (shlA IntKind.u64
                  (aBits BinOp.or IntKind.u64
                    (shlA IntKind.u64
                      (aBits BinOp.or IntKind.u64
                        (shlA IntKind.u64
                          (aBits BinOp.or IntKind.u64
                            (shlA IntKind.u64
                              (aBits BinOp.or IntKind.u64
                                (shlA IntKind.u64
                                  (aBits BinOp.or IntKind.u64
                                    (shlA IntKind.u64
                                      (aBits BinOp.or IntKind.u64 (shlA IntKind.u64 0 8)
                                        (IntKind.wrap IntKind.u64 (bAt (bs [b0, b1, b2, b3, b4, b5, b6, b7]) 0)))
                                      8)
                                    (IntKind.wrap IntKind.u64 (bAt (bs [b0, b1, b2, b3, b4, b5, b6, b7]) 1)))
                                  8)
                                (IntKind.wrap IntKind.u64 (bAt (bs [b0, b1, b2, b3, b4, b5, b6, b7]) 2)))
                              8)
                            (IntKind.wrap IntKind.u64 (bAt (bs [b0, b1, b2, b3, b4, b5, b6, b7]) 3)))
                          8)
                        (IntKind.wrap IntKind.u64 (bAt (bs [b0, b1, b2, b3, b4, b5, b6, b7]) 4)))
                      8)
                    (IntKind.wrap IntKind.u64 (bAt (bs [b0, b1, b2, b3, b4, b5, b6, b7]) 5)))
                  8)
                (IntKind.wrap IntKind.u64 (bAt (bs [b0, b1, b2, b3, b4, b5, b6, b7]) 6)))
              8)
            (IntKind.wrap IntKind.u64 (bAt (bs [b0, b1, b2, b3, b4, b5, b6, b7]) 7)))])) := by kernel_rfl

def put8F : List AV → Tree AV
  | [.str s, .int .u8 n, .int .i64 w] => .br (decide (w = 1) && Nat.ble (s.size + 1) 9223372036854775807) (.leaf (.str (s ++ bs (beL 1 n)))) .no
  | _ => .no
theorem put8_ok : SpecOK C0 160 (pureSpec put8F) := pureSpec_ok glob0 E0_ok fun args v hF => by
  unfold put8F at hF; split at hF
  · rename_i s n w
    cases hc : (decide (w = 1) && Nat.ble (s.size + 1) 9223372036854775807) with
    | false => rw [Tree.val, hc] at hF; cases hF
    | true =>
      rw [Tree.val, hc] at hF; cases hF
      simp only [Bool.and_eq_true, decide_eq_true_eq] at hc
      obtain ⟨rfl, hsz⟩ := hc
      refine ⟨⟨trivial, trivial, trivial, trivial⟩, trivial, fun k hk => ?_⟩
      rw [nfPut8, raw1]
      have e : Nat.ble (ByteArray.size s + ByteArray.size (bs (beL 1 n))) 9223372036854775807 = true := hsz
      rw [e]
      exact hk
  · cases hF

def put16F : List AV → Tree AV
  | [.str s, .int .u16 n, .int .i64 w] => .br (decide (w = 2) && Nat.ble (s.size + 2) 9223372036854775807) (.leaf (.str (s ++ bs (beL 2 n)))) .no
  | _ => .no
theorem put16_ok : SpecOK C0 162 (pureSpec put16F) := pureSpec_ok glob0 E0_ok fun args v hF => by
  unfold put16F at hF; split at hF
  · rename_i s n w
    cases hc : (decide (w = 2) && Nat.ble (s.size + 2) 9223372036854775807) with
    | false => rw [Tree.val, hc] at hF; cases hF
    | true =>
      rw [Tree.val, hc] at hF; cases hF
      simp only [Bool.and_eq_true, decide_eq_true_eq] at hc
      obtain ⟨rfl, hsz⟩ := hc
      refine ⟨⟨trivial, trivial, trivial, trivial⟩, trivial, fun k hk => ?_⟩
      rw [nfPut16, raw2]
      have e : Nat.ble (ByteArray.size s + ByteArray.size (bs (beL 2 n))) 9223372036854775807 = true := hsz
      rw [e]
      exact hk
  · cases hF

def put32F : List AV → Tree AV
  | [.str s, .int .u32 n, .int .i64 w] => .br (decide (w = 4) && Nat.ble (s.size + 4) 9223372036854775807) (.leaf (.str (s ++ bs (beL 4 n)))) .no
  | _ => .no
theorem put32_ok : SpecOK C0 166 (pureSpec put32F) := pureSpec_ok glob0 E0_ok fun args v hF => by
  unfold put32F at hF; split at hF
  · rename_i s n w
    cases hc : (decide (w = 4) && Nat.ble (s.size + 4) 9223372036854775807) with
    | false => rw [Tree.val, hc] at hF; cases hF
    | true =>
      rw [Tree.val, hc] at hF; cases hF
      simp only [Bool.and_eq_true, decide_eq_true_eq] at hc
      obtain ⟨rfl, hsz⟩ := hc
      refine ⟨⟨trivial, trivial, trivial, trivial⟩, trivial, fun k hk => ?_⟩
      rw [nfPut32, raw4]
      have e : Nat.ble (ByteArray.size s + ByteArray.size (bs (beL 4 n))) 9223372036854775807 = true := hsz
      rw [e]
      exact hk
  · cases hF

def put64F : List AV → Tree AV
  | [.str s, .int .u64 n, .int .i64 w] => .br (decide (w = 8) && Nat.ble (s.size + 8) 9223372036854775807) (.leaf (.str (s ++ bs (beL 8 n)))) .no
  | _ => .no
theorem put64_ok : SpecOK C0 161 (pureSpec put64F) := pureSpec_ok glob0 E0_ok fun args v hF => by
  unfold put64F at hF; split at hF
  · rename_i s n w
    cases hc : (decide (w = 8) && Nat.ble (s.size + 8) 9223372036854775807) with
    | false => rw [Tree.val, hc] at hF; cases hF
    | true =>
      rw [Tree.val, hc] at hF; cases hF
      simp only [Bool.and_eq_true, decide_eq_true_eq] at hc
      obtain ⟨rfl, hsz⟩ := hc
      refine ⟨⟨trivial, trivial, trivial, trivial⟩, trivial, fun k hk => ?_⟩
      rw [nfPut64, raw8]
      have e : Nat.ble (ByteArray.size s + ByteArray.size (bs (beL 8 n))) 9223372036854775807 = true := hsz
      rw [e]
      exact hk
  · cases hF

theorem numRaw1 (a : UInt8) : aBits .or .u64 (shlA .u64 (0) 8) (IntKind.u64.wrap (bAt (bs [a]) 0)) = numB (bs [a]) 0 1 := by
  have h0 := numStep (bs [a]) 0 0 (by omega)
  simp only [Nat.zero_add, Nat.reduceAdd] at h0
  have z : (0 : Int) = numB (bs [a]) 0 0 := rfl
  rw [z, h0]

theorem numRaw2 (a b : UInt8) : aBits .or .u64 (shlA .u64 (aBits .or .u64 (shlA .u64 (0) 8) (IntKind.u64.wrap (bAt (bs [a, b]) 0))) 8) (IntKind.u64.wrap (bAt (bs [a, b]) 1)) = numB (bs [a, b]) 0 2 := by
  have h0 := numStep (bs [a, b]) 0 0 (by omega)
  have h1 := numStep (bs [a, b]) 0 1 (by omega)
  simp only [Nat.zero_add, Nat.reduceAdd] at h0 h1
  have z : (0 : Int) = numB (bs [a, b]) 0 0 := rfl
  rw [z, h0, h1]

theorem numRaw4 (a b c d : UInt8) : aBits .or .u64 (shlA .u64 (aBits .or .u64 (shlA .u64 (aBits .or .u64 (shlA .u64 (aBits .or .u64 (shlA .u64 (0) 8) (IntKind.u64.wrap (bAt (bs [a, b, c, d]) 0))) 8) (IntKind.u64.wrap (bAt (bs [a, b, c, d]) 1))) 8) (IntKind.u64.wrap (bAt (bs [a, b, c, d]) 2))) 8) (IntKind.u64.wrap (bAt (bs [a, b, c, d]) 3)) = numB (bs [a, b, c, d]) 0 4 := by
  have h0 := numStep (bs [a, b, c, d]) 0 0 (by omega)
  have h1 := numStep (bs [a, b, c, d]) 0 1 (by omega)
  have h2 := numStep (bs [a, b, c, d]) 0 2 (by omega)
  have h3 := numStep (bs [a, b, c, d]) 0 3 (by omega)
  simp only [Nat.zero_add, Nat.reduceAdd] at h0 h1 h2 h3
  have z : (0 : Int) = numB (bs [a, b, c, d]) 0 0 := rfl
  rw [z, h0, h1, h2, h3]

theorem numRaw8 (a b c d e f g i : UInt8) : aBits .or .u64 (shlA .u64 (aBits .or .u64 (shlA .u64 (aBits .or .u64 (shlA .u64 (aBits .or .u64 (shlA .u64 (aBits .or .u64 (shlA .u64 (aBits .or .u64 (shlA .u64 (aBits .or .u64 (shlA .u64 (aBits .or .u64 (shlA .u64 (0) 8) (IntKind.u64.wrap (bAt (bs [a, b, c, d, e, f, g, i]) 0))) 8) (IntKind.u64.wrap (bAt (bs [a, b, c, d, e, f, g, i]) 1))) 8) (IntKind.u64.wrap (bAt (bs [a, b, c, d, e, f, g, i]) 2))) 8) (IntKind.u64.wrap (bAt (bs [a, b, c, d, e, f, g, i]) 3))) 8) (IntKind.u64.wrap (bAt (bs [a, b, c, d, e, f, g, i]) 4))) 8) (IntKind.u64.wrap (bAt (bs [a, b, c, d, e, f, g, i]) 5))) 8) (IntKind.u64.wrap (bAt (bs [a, b, c, d, e, f, g, i]) 6))) 8) (IntKind.u64.wrap (bAt (bs [a, b, c, d, e, f, g, i]) 7)) = numB (bs [a, b, c, d, e, f, g, i]) 0 8 := by
  have h0 := numStep (bs [a, b, c, d, e, f, g, i]) 0 0 (by omega)
  have h1 := numStep (bs [a, b, c, d, e, f, g, i]) 0 1 (by omega)
  have h2 := numStep (bs [a, b, c, d, e, f, g, i]) 0 2 (by omega)
  have h3 := numStep (bs [a, b, c, d, e, f, g, i]) 0 3 (by omega)
  have h4 := numStep (bs [a, b, c, d, e, f, g, i]) 0 4 (by omega)
  have h5 := numStep (bs [a, b, c, d, e, f, g, i]) 0 5 (by omega)
  have h6 := numStep (bs [a, b, c, d, e, f, g, i]) 0 6 (by omega)
  have h7 := numStep (bs [a, b, c, d, e, f, g, i]) 0 7 (by omega)
  simp only [Nat.zero_add, Nat.reduceAdd] at h0 h1 h2 h3 h4 h5 h6 h7
  have z : (0 : Int) = numB (bs [a, b, c, d, e, f, g, i]) 0 0 := rfl
  rw [z, h0, h1, h2, h3, h4, h5, h6, h7]

def num8F : List AV → List AV → List AV → Tree (AV × List AV)
  | [.str s], [], [.int .u8 _] => .br (Nat.beq s.size 1) (.leaf (.tup [], [.int .u8 (numB s 0 1)])) .no
  | _, _, _ => .no
theorem num8_ok : SpecOK C0 177 (ptrSpec 1 num8F) := ptrSpec_ok glob0 E0_ok fun a b cs v cs' hl hF => by
  unfold num8F at hF; split at hF
  · rename_i s o
    cases hc : Nat.beq s.size 1 with
    | false => rw [Tree.val, hc] at hF; cases hF
    | true =>
      rw [Tree.val, hc] at hF; cases hF
      obtain ⟨a, hs⟩ := list_len1 (size_list (Nat.eq_of_beq_eq_true hc))
      have hs : s = bs [a] := by rw [← bs_toList s, hs]
      subst hs
      refine ⟨⟨⟨trivial, trivial⟩, trivial, ⟨trivial, trivial⟩, trivial, ⟨trivial, trivial⟩⟩, fun cap k hk => ?_⟩
      have e := nfNum8 a o cap k
      rw [numRaw1, numWrap8] at e
      rw [List.cons_append, List.nil_append, e]
      exact hk
  · cases hF

def num16F : List AV → List AV → List AV → Tree (AV × List AV)
  | [.str s], [], [.int .u16 _] => .br (Nat.beq s.size 2) (.leaf (.tup [], [.int .u16 (numB s 0 2)])) .no
  | _, _, _ => .no
theorem num16_ok : SpecOK C0 176 (ptrSpec 1 num16F) := ptrSpec_ok glob0 E0_ok fun a b cs v cs' hl hF => by
  unfold num16F at hF; split at hF
  · rename_i s o
    cases hc : Nat.beq s.size 2 with
    | false => rw [Tree.val, hc] at hF; cases hF
    | true =>
      rw [Tree.val, hc] at hF; cases hF
      obtain ⟨a, b, hs⟩ := list_len2 (size_list (Nat.eq_of_beq_eq_true hc))
      have hs : s = bs [a, b] := by rw [← bs_toList s, hs]
      subst hs
      refine ⟨⟨⟨trivial, trivial⟩, trivial, ⟨trivial, trivial⟩, trivial, ⟨trivial, trivial⟩⟩, fun cap k hk => ?_⟩
      have e := nfNum16 a b o cap k
      rw [numRaw2, numWrap16] at e
      rw [List.cons_append, List.nil_append, e]
      exact hk
  · cases hF

def num32F : List AV → List AV → List AV → Tree (AV × List AV)
  | [.str s], [], [.int .u32 _] => .br (Nat.beq s.size 4) (.leaf (.tup [], [.int .u32 (numB s 0 4)])) .no
  | _, _, _ => .no
theorem num32_ok : SpecOK C0 178 (ptrSpec 1 num32F) := ptrSpec_ok glob0 E0_ok fun a b cs v cs' hl hF => by
  unfold num32F at hF; split at hF
  · rename_i s o
    cases hc : Nat.beq s.size 4 with
    | false => rw [Tree.val, hc] at hF; cases hF
    | true =>
      rw [Tree.val, hc] at hF; cases hF
      obtain ⟨a, b, c, d, hs⟩ := list_len4 (size_list (Nat.eq_of_beq_eq_true hc))
      have hs : s = bs [a, b, c, d] := by rw [← bs_toList s, hs]
      subst hs
      refine ⟨⟨⟨trivial, trivial⟩, trivial, ⟨trivial, trivial⟩, trivial, ⟨trivial, trivial⟩⟩, fun cap k hk => ?_⟩
      have e := nfNum32 a b c d o cap k
      rw [numRaw4, numWrap32] at e
      rw [List.cons_append, List.nil_append, e]
      exact hk
  · cases hF

def num64F : List AV → List AV → List AV → Tree (AV × List AV)
  | [.str s], [], [.int .u64 _] => .br (Nat.beq s.size 8) (.leaf (.tup [], [.int .u64 (numB s 0 8)])) .no
  | _, _, _ => .no
theorem num64_ok : SpecOK C0 175 (ptrSpec 1 num64F) := ptrSpec_ok glob0 E0_ok fun a b cs v cs' hl hF => by
  unfold num64F at hF; split at hF
  · rename_i s o
    cases hc : Nat.beq s.size 8 with
    | false => rw [Tree.val, hc] at hF; cases hF
    | true =>
      rw [Tree.val, hc] at hF; cases hF
      obtain ⟨a, b, c, d, e, f, g, i, hs⟩ := list_len8 (size_list (Nat.eq_of_beq_eq_true hc))
      have hs : s = bs [a, b, c, d, e, f, g, i] := by rw [← bs_toList s, hs]
      subst hs
      refine ⟨⟨⟨trivial, trivial⟩, trivial, ⟨trivial, trivial⟩, trivial, ⟨trivial, trivial⟩⟩, fun cap k hk => ?_⟩
      have e := nfNum64 a b c d e f g i o cap k
      rw [numRaw8] at e
      rw [List.cons_append, List.nil_append, e]
      exact hk
  · cases hF

end Go.Proofs.YtneeggnlgonilaaGreatDoor.sp
