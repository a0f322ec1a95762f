/- ctrl.decode, its four instances: what the machine finds, as it stands. -/
import Derived.Test.YtneeggnlgonilaaGreatDoorSGamB
import Derived.Test.YtneeggnlgonilaaGreatDoorAmSpecD
namespace Go.Proofs.YtneeggnlgonilaaGreatDoor.sp
open Go.Am

def decPrioF : List AV → Tree AV
  | [.str s, .int .i64 5, .func (.func 150) [] []] =>
    Tree.br (strEq s { data := #[] }) (Tree.leaf (AV.tup [AV.agg [AV.bool false], AV.int IntKind.i64 (4 : Int)]))
      (Tree.br (curOK s (0 : Int))
        (Tree.br (decide ((0 : Int) + (1 : Int) ≤ (↑(ByteArray.size s) : Int)))
          (Tree.br (IntKind.wrap IntKind.i64 (shrA IntKind.u8 (numB s (0 : Nat) (1 : Nat)) (4 : Int)) != (5 : Int))
            (Tree.leaf (AV.tup [AV.agg [AV.bool false], AV.int IntKind.i64 (7 : Int)]))
            (Tree.br (decide ((0 : Int) + (1 : Int) < (↑(ByteArray.size s) : Int)))
              (Tree.leaf (AV.tup [AV.agg [AV.bool false], AV.int IntKind.i64 (5 : Int)]))
              (Tree.leaf
                (AV.tup
                  [AV.agg
                      [AV.bool
                          (aBits BinOp.and IntKind.u8 (aBits BinOp.and IntKind.u8 (numB s (0 : Nat) (1 : Nat)) (15 : Int))
                              (1 : Int) !=
                            (0 : Int))],
                    AV.int IntKind.i64 (0 : Int)]))))
          (Tree.leaf (AV.tup [AV.agg [AV.bool false], AV.int IntKind.i64 (7 : Int)])))
        Tree.no)
  | _ => .no
set_option maxRecDepth 100000 in
theorem decPrio_ok : SpecOK C0 149 (pureSpec decPrioF) := pureSpec_dfr glob0 ctxOK EB_ok EB_sh LB_ok fun args => by
  unfold decPrioF; split
  · exact .inr ⟨by simp [bdL, AV.bd, flt], by simp [Tree.bd0, AV.bd, bdL, flt], fun k => by kernel_rfl⟩
  · exact .inl rfl

def decFailF : List AV → Tree AV
  | [.str s, .int .i64 6, .func (.func 153) [] []] =>
    Tree.br (strEq s { data := #[] })
      (Tree.leaf (AV.tup [AV.agg [AV.int IntKind.u64 (0 : Int)], AV.int IntKind.i64 (4 : Int)]))
      (Tree.br (curOK s (0 : Int))
        (Tree.br (decide ((0 : Int) + (1 : Int) ≤ (↑(ByteArray.size s) : Int)))
          (Tree.br (IntKind.wrap IntKind.i64 (shrA IntKind.u8 (numB s (0 : Nat) (1 : Nat)) (4 : Int)) != (6 : Int))
            (Tree.leaf (AV.tup [AV.agg [AV.int IntKind.u64 (0 : Int)], AV.int IntKind.i64 (7 : Int)]))
            (Tree.br (curOK s ((0 : Int) + (1 : Int)))
              (Tree.br (decide ((0 : Int) + (1 : Int) + (1 : Int) ≤ (↑(ByteArray.size s) : Int)))
                (Tree.br (curOK s ((0 : Int) + (1 : Int) + (1 : Int)))
                  (Tree.br (decide ((0 : Int) + (1 : Int) + (1 : Int) + (8 : Int) ≤ (↑(ByteArray.size s) : Int)))
                    (Tree.br (decide ((0 : Int) + (1 : Int) + (1 : Int) + (8 : Int) < (↑(ByteArray.size s) : Int)))
                      (Tree.leaf (AV.tup [AV.agg [AV.int IntKind.u64 (0 : Int)], AV.int IntKind.i64 (5 : Int)]))
                      (Tree.leaf
                        (AV.tup [AV.agg [AV.int IntKind.u64 (numB s (2 : Nat) (8 : Nat))], AV.int IntKind.i64 (0 : Int)])))
                    (Tree.leaf (AV.tup [AV.agg [AV.int IntKind.u64 (0 : Int)], AV.int IntKind.i64 (4 : Int)])))
                  Tree.no)
                (Tree.br (curOK s ((0 : Int) + (1 : Int)))
                  (Tree.leaf (AV.tup [AV.agg [AV.int IntKind.u64 (0 : Int)], AV.int IntKind.i64 (4 : Int)])) Tree.no))
              Tree.no))
          (Tree.leaf (AV.tup [AV.agg [AV.int IntKind.u64 (0 : Int)], AV.int IntKind.i64 (7 : Int)])))
        Tree.no)
  | _ => .no
set_option maxRecDepth 100000 in
theorem decFail_ok : SpecOK C0 152 (pureSpec decFailF) := pureSpec_dfr glob0 ctxOK EB_ok EB_sh LB_ok fun args => by
  unfold decFailF; split
  · exact .inr ⟨by simp [bdL, AV.bd, flt], by simp [Tree.bd0, AV.bd, bdL, flt], fun k => by kernel_rfl⟩
  · exact .inl rfl

def decFastF : List AV → Tree AV
  | [.str s, .int .i64 7, .func (.func 155) [] []] =>
    Tree.br (strEq s { data := #[] })
      (Tree.leaf (AV.tup [AV.agg [AV.int IntKind.u64 (0 : Int)], AV.int IntKind.i64 (4 : Int)]))
      (Tree.br (curOK s (0 : Int))
        (Tree.br (decide ((0 : Int) + (1 : Int) ≤ (↑(ByteArray.size s) : Int)))
          (Tree.br (IntKind.wrap IntKind.i64 (shrA IntKind.u8 (numB s (0 : Nat) (1 : Nat)) (4 : Int)) != (7 : Int))
            (Tree.leaf (AV.tup [AV.agg [AV.int IntKind.u64 (0 : Int)], AV.int IntKind.i64 (7 : Int)]))
            (Tree.br (curOK s ((0 : Int) + (1 : Int)))
              (Tree.br (decide ((0 : Int) + (1 : Int) + (1 : Int) ≤ (↑(ByteArray.size s) : Int)))
                (Tree.br (curOK s ((0 : Int) + (1 : Int) + (1 : Int)))
                  (Tree.br (decide ((0 : Int) + (1 : Int) + (1 : Int) + (8 : Int) ≤ (↑(ByteArray.size s) : Int)))
                    (Tree.br (decide ((0 : Int) + (1 : Int) + (1 : Int) + (8 : Int) < (↑(ByteArray.size s) : Int)))
                      (Tree.leaf (AV.tup [AV.agg [AV.int IntKind.u64 (0 : Int)], AV.int IntKind.i64 (5 : Int)]))
                      (Tree.leaf
                        (AV.tup [AV.agg [AV.int IntKind.u64 (numB s (2 : Nat) (8 : Nat))], AV.int IntKind.i64 (0 : Int)])))
                    (Tree.leaf (AV.tup [AV.agg [AV.int IntKind.u64 (0 : Int)], AV.int IntKind.i64 (4 : Int)])))
                  Tree.no)
                (Tree.br (curOK s ((0 : Int) + (1 : Int)))
                  (Tree.leaf (AV.tup [AV.agg [AV.int IntKind.u64 (0 : Int)], AV.int IntKind.i64 (4 : Int)])) Tree.no))
              Tree.no))
          (Tree.leaf (AV.tup [AV.agg [AV.int IntKind.u64 (0 : Int)], AV.int IntKind.i64 (7 : Int)])))
        Tree.no)
  | _ => .no
set_option maxRecDepth 100000 in
theorem decFast_ok : SpecOK C0 154 (pureSpec decFastF) := pureSpec_dfr glob0 ctxOK EB_ok EB_sh LB_ok fun args => by
  unfold decFastF; split
  · exact .inr ⟨by simp [bdL, AV.bd, flt], by simp [Tree.bd0, AV.bd, bdL, flt], fun k => by kernel_rfl⟩
  · exact .inl rfl

def decRstF : List AV → Tree AV
  | [.str s, .int .i64 8, .func (.func 157) [] []] =>
    Tree.br (strEq s { data := #[] })
      (Tree.leaf
        (AV.tup [AV.agg [AV.int IntKind.i64 (0 : Int), AV.int IntKind.i64 (0 : Int)], AV.int IntKind.i64 (4 : Int)]))
      (Tree.br (curOK s (0 : Int))
        (Tree.br (decide ((0 : Int) + (1 : Int) ≤ (↑(ByteArray.size s) : Int)))
          (Tree.br (IntKind.wrap IntKind.i64 (shrA IntKind.u8 (numB s (0 : Nat) (1 : Nat)) (4 : Int)) != (8 : Int))
            (Tree.leaf
              (AV.tup [AV.agg [AV.int IntKind.i64 (0 : Int), AV.int IntKind.i64 (0 : Int)], AV.int IntKind.i64 (7 : Int)]))
            (Tree.br (curOK s ((0 : Int) + (1 : Int)))
              (Tree.br (decide ((0 : Int) + (1 : Int) + (1 : Int) ≤ (↑(ByteArray.size s) : Int)))
                (Tree.br (decide ((0 : Int) + (1 : Int) + (1 : Int) < (↑(ByteArray.size s) : Int)))
                  (Tree.leaf
                    (AV.tup
                      [AV.agg [AV.int IntKind.i64 (0 : Int), AV.int IntKind.i64 (0 : Int)], AV.int IntKind.i64 (5 : Int)]))
                  (Tree.leaf
                    (AV.tup
                      [AV.agg
                          [AV.int IntKind.i64
                              (IntKind.wrap IntKind.i64
                                (aBits BinOp.and IntKind.u8 (numB s (0 : Nat) (1 : Nat)) (15 : Int))),
                            AV.int IntKind.i64 (IntKind.wrap IntKind.i64 (numB s (1 : Nat) (1 : Nat)))],
                        AV.int IntKind.i64 (0 : Int)])))
                (Tree.leaf
                  (AV.tup
                    [AV.agg [AV.int IntKind.i64 (0 : Int), AV.int IntKind.i64 (0 : Int)], AV.int IntKind.i64 (4 : Int)])))
              Tree.no))
          (Tree.leaf
            (AV.tup [AV.agg [AV.int IntKind.i64 (0 : Int), AV.int IntKind.i64 (0 : Int)], AV.int IntKind.i64 (7 : Int)])))
        Tree.no)
  | _ => .no
set_option maxRecDepth 100000 in
theorem decRst_ok : SpecOK C0 156 (pureSpec decRstF) := pureSpec_dfr glob0 ctxOK EB_ok EB_sh LB_ok fun args => by
  unfold decRstF; split
  · exact .inr ⟨by simp [bdL, AV.bd, flt], by simp [Tree.bd0, AV.bd, bdL, flt], fun k => by kernel_rfl⟩
  · exact .inl rfl

end Go.Proofs.YtneeggnlgonilaaGreatDoor.sp
