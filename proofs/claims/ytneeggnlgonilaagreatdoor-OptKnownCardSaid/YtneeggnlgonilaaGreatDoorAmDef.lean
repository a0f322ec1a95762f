/- An abstract machine over the model's code, in continuation-passing style, into Prop: definitions. Values are as the model's, but addresses are numbers of abstract blocks. -/
import Derived.RangeFuncIn
import Derived.RangeFuncLeaves
import Derived.RangeFuncCalls
import Derived.OrdersIn
import Derived.KernelRfl
namespace Go.Am

inductive AV where
  | bool (b : Bool)
  | int (k : IntKind) (n : Int)
  | str (s : ByteArray)
  | nilp
  | ptr (b i z j : Nat)
  | nils
  | emp                     -- not nil, length 0, capacity 0
  | slc (b z o n : Nat)
  | mapn
  | mapr (b : Nat)
  | func (fn : Fn) (first cap : List AV)
  | nilf
  | iface (t : TypeId) (v : AV)
  | nili
  | agg (cs : List AV)
  | tup (cs : List AV)
  deriving Inhabited

abbrev KV := AV → Prop
abbrev undefA : AV := .tup []

inductive Col where
  | int (k : IntKind) (g : Nat → Int)
  | bool (g : Nat → Bool)
  | str (g : Nat → ByteArray)

inductive Blk where
  | cells (wr : Bool) (z : Nat) (cap : Option Nat) (cs : List AV)
  | row (wr : Bool) (cap : Option Nat) (n : Nat) (cols : List Col)
  | loop (st : LoopState) (pend : Option Code) (tm : List (Nat × AV)) (nt : Nat) (params : List Tmp) (assign body : Code) (defers : Nat)
  | defd (shut : Bool)
  | mp (es : List (AV × AV))
  | mpf (kd vd : IntKind) (g : Int → Option Int)      -- a map from numbers to numbers
  | dead

def Blk.live : Blk → Bool
  | .dead => false
  | _ => true
def Blk.wr : Blk → Bool
  | .cells w .. => w
  | .row w .. => w
  | .dead => false
  | _ => true

structure Heap where
  nx : Nat
  bl : List (Nat × Blk)

structure St where
  tm : List (Nat × AV)
  nt : Nat
  df : List Nat            -- marks of range-over-function loops (abstract blocks)
  h : Heap

inductive AExit where
  | normal
  | exit (id : Nat)
  | goto (l : Nat)
  | ret
  | panic (v : AV)

/-! small tools, in continuation-passing style: what is passed on is written out -/
section tools
variable {α : Type}
def assertB (b : Bool) (X : Prop) : Prop := @cond Prop b X False

def nthK : List α → Nat → (α → Prop) → Prop
  | [], _, _ => False
  | x :: _, 0, k => k x
  | _ :: xs, n + 1, k => nthK xs n k

def idxK (n : Nat) : Nat → List α → (Nat → α → Prop) → Prop
  | _, [], _ => False
  | i, x :: xs, k => @cond Prop (Nat.beq n i) (k i x) (idxK n (i + 1) xs k)

def putK : List α → Nat → List α → (List α → Prop) → Prop
  | cs, 0, [], k => k cs
  | [], _ + 1, [], _ => False
  | c :: cs, j + 1, [], k => putK cs j [] fun r => k (c :: r)
  | [], _, _ :: _, _ => False
  | _ :: cs, 0, v :: vs, k => putK cs 0 vs fun r => k (v :: r)
  | c :: cs, j + 1, v :: vs, k => putK cs j (v :: vs) fun r => k (c :: r)

def takeK : List α → Nat → Nat → (List α → Prop) → Prop
  | _, 0, 0, k => k []
  | [], _ + 1, 0, _ => False
  | _ :: cs, j + 1, 0, k => takeK cs j 0 k
  | [], _, _ + 1, _ => False
  | c :: cs, 0, n + 1, k => takeK cs 0 n fun r => k (c :: r)
  | _ :: cs, j + 1, n + 1, k => takeK cs j (n + 1) k

def getK : List (Nat × α) → Nat → (α → Prop) → Prop
  | [], _, _ => False
  | (i, v) :: r, j, k => @cond Prop (Nat.beq i j) (k v) (getK r j k)

def updK : List (Nat × α) → Nat → α → (List (Nat × α) → Prop) → Prop
  | [], _, _, _ => False
  | (i, x) :: r, j, v, k => @cond Prop (Nat.beq i j) (k ((i, v) :: r)) (updK r j v fun r' => k ((i, x) :: r'))

def appK : List α → List α → (List α → Prop) → Prop
  | [], l, k => k l
  | x :: xs, l, k => appK xs l fun r => k (x :: r)

def mapK {β : Type} (f : α → (β → Prop) → Prop) : List α → (List β → Prop) → Prop
  | [], k => k []
  | x :: xs, k => f x fun y => mapK f xs fun r => k (y :: r)

def optK : Option α → (α → Prop) → Prop
  | some x, k => k x
  | none, _ => False
end tools

def lookupA (l : List (Nat × AV)) (i : Nat) : Option AV := match l with
  | [] => none
  | (j, v) :: r => cond (Nat.beq j i) (some v) (lookupA r i)

/-- A constant without addresses. -/
def ofVals (f : Value → Option AV) : List Value → Option (List AV)
  | [] => some []
  | v :: r => match f v, ofVals f r with
    | some x, some y => some (x :: y)
    | _, _ => none

def ofValN : Nat → Value → Option AV
  | 0, _ => none
  | d + 1, v => match v with
    | .bool b => some (.bool b)
    | .int k n => some (.int k n)
    | .string s => some (.str s)
    | .pointer none => some .nilp
    | .slice none 0 0 => some .nils
    | .map none => some .mapn
    | .nilFunc => some .nilf
    | .nilIface => some .nili
    | .agg cs => (ofVals (ofValN d) cs.toList).map .agg
    | .tuple cs => (ofVals (ofValN d) cs.toList).map .tup
    | .iface t v => (ofValN d v).map (.iface t)
    | _ => none

def ofVal (v : Value) : Option AV := ofValN 8 v

def cellsOfA : AV → List AV
  | .agg cs => cs
  | v => [v]

def cellsK (v : AV) (k : List AV → Prop) : Prop :=
  match v with
  | .agg cs => k cs
  | v => k [v]

def lenN {α : Type} : List α → Nat → (Nat → Prop) → Prop
  | [], n, k => k n
  | _ :: r, n, k => lenN r (n + 1) k

/-- A test: in each branch the temporary that holds it is known. -/
def brK (b : Bool) (k : Bool → Prop) : Prop := @cond Prop b (k true) (k false)

/-! ### The context -/
structure Ctx where
  P : Program
  rowTy : TypeId → Bool := fun _ => false
  glob : List (Nat × Nat) := []
  closed : Bool := false      -- nothing is unknown: what is read again is compared by a test

abbrev KR := AV → Heap → Prop

structure Env where
  call : FuncId → List AV → Heap → KR → KR → Prop
  round : Nat → List AV → Heap → KR → Prop

def infoK (C : Ctx) (t : TypeId) (k : TypeInfo → Prop) : Prop := optK (C.P.info? t) k
def underK (C : Ctx) (t : TypeId) (k : TypeDesc → Prop) : Prop := optK (C.P.underlying t) k

def isAggD : TypeDesc → Bool
  | .struct _ | .array _ _ => true
  | _ => false

def zeroK (C : Ctx) (t : TypeId) (k : AV → Prop) : Prop :=
  infoK C t fun i => optK i.zero fun z => optK (ofVal z) k

/-! ### the heap -/
def Heap.getK (h : Heap) (b : Nat) (k : Blk → Prop) : Prop := match h with | ⟨_, bl⟩ => Am.getK bl b k
def Heap.pushK (h : Heap) (blk : Blk) (k : Nat → Heap → Prop) : Prop := match h with | ⟨nx, bl⟩ => k nx ⟨nx + 1, (nx, blk) :: bl⟩
def Heap.setK (h : Heap) (b : Nat) (blk : Blk) (k : Heap → Prop) : Prop := match h with | ⟨nx, bl⟩ => updK bl b blk fun bl' => k ⟨nx, bl'⟩

def Col.atK (c : Col) (i : Nat) (k : AV → Prop) : Prop :=
  match c with
  | .int kd g => k (.int kd (g i))
  | .bool g => k (.bool (g i))
  | .str g => k (.str (g i))

def Col.at (c : Col) (i : Nat) : AV :=
  match c with
  | .int kd g => .int kd (g i)
  | .bool g => .bool (g i)
  | .str g => .str (g i)

def updF {β : Type} (g : Nat → β) (i : Nat) (v : β) : Nat → β := fun m => if m = i then v else g m

def Col.setAt (c : Col) (i : Nat) (v : AV) (k : Col → Prop) : Prop :=
  match c, v with
  | .int kd g, .int kd' x => assertB (decide (kd = kd')) (k (.int kd (updF g i x)))
  | .bool g, .bool x => k (.bool (updF g i x))
  | .str g, .str x => k (.str (updF g i x))
  | _, _ => False

/-- Cells j, j+1, .. of element i are set. -/
def colsPut : List Col → Nat → Nat → List AV → (List Col → Prop) → Prop
  | cs, _, 0, [], k => k cs
  | [], _, _ + 1, [], _ => False
  | c :: cs, i, j + 1, [], k => colsPut cs i j [] fun r => k (c :: r)
  | [], _, _, _ :: _, _ => False
  | c :: cs, i, 0, v :: vs, k => c.setAt i v fun c' => colsPut cs i 0 vs fun r => k (c' :: r)
  | c :: cs, i, j + 1, v :: vs, k => colsPut cs i j (v :: vs) fun r => k (c :: r)

def isCellA : AV → Bool
  | .agg _ | .tup _ => false
  | _ => true

def loadK (C : Ctx) (t : TypeId) (p : AV) (h : Heap) (K : KV) : Prop :=
  match p with
  | .ptr b i z j =>
    infoK C t fun inf => underK C t fun d => h.getK b fun blk =>
      match blk with
      | .cells _ _ _ cs =>
        @cond Prop (isAggD d) (takeK cs (i * z + j) inf.size fun r => K (.agg r)) (nthK cs (i * z + j) K)
      | .row _ _ _ cols =>
        assertB (Nat.beq z cols.length)
          (@cond Prop (isAggD d) (takeK cols j inf.size fun r => mapK (fun c => c.atK i) r fun r => K (.agg r)) (nthK cols j fun c => c.atK i K))
      | _ => False
  | _ => False

def storeK (C : Ctx) (t : TypeId) (p v : AV) (h : Heap) (K : Heap → Prop) : Prop :=
  match p with
  | .ptr b i z j =>
    infoK C t fun inf => cellsK v fun vs => assertB (Nat.beq vs.length inf.size && vs.all isCellA) (h.getK b fun blk =>
      match blk with
      | .cells true z' cap cs => putK cs (i * z + j) vs fun cs' => h.setK b (.cells true z' cap cs') K
      | .row true cap n cols => assertB (Nat.beq z cols.length) (colsPut cols i j vs fun cols' => h.setK b (.row true cap n cols') K)
      | _ => False)
  | _ => False

def intAt : List AV → Nat → Int
  | [], _ => 0
  | .int _ n :: _, 0 => n
  | _ :: _, 0 => 0
  | _ :: r, n + 1 => intAt r n

/-- A new variable's block. -/
def mkVarK (C : Ctx) (t : TypeId) (cs : List AV) (k : Blk → Prop) : Prop :=
  underK C t fun d =>
    match d with
    | .array n e => infoK C e fun ie =>
      @cond Prop (C.rowTy t)
        (match cs with
         | .int kd _ :: _ => assertB (Nat.beq ie.size 1 && Nat.blt 0 n && Nat.beq cs.length n && cs.all fun | .int kd' _ => decide (kd' = kd) | _ => false) (k (.row true (some n) n [.int kd (intAt cs)]))
         | _ => False)
        (assertB (Nat.beq (n * ie.size) cs.length) (k (.cells true ie.size (some n) cs)))
    | _ => lenN cs 0 fun n => k (.cells true 1 (some n) cs)

/-! ### operators on numbers, strings -/
def aBits (op : BinOp) (k : IntKind) (x y : Int) : Int :=
  let a := BitVec.ofInt k.bits x
  let b := BitVec.ofInt k.bits y
  match op with
  | .and => k.wrap (a &&& b).toNat
  | .or => k.wrap (a ||| b).toNat
  | .xor => k.wrap (a ^^^ b).toNat
  | _ => k.wrap (a &&& ~~~b).toNat

def shlA (k : IntKind) (x y : Int) : Int := k.wrap (x * 2 ^ (min y.toNat k.bits))
def shrA (k : IntKind) (x y : Int) : Int := x.fdiv (2 ^ (min y.toNat k.bits))
def strEq (a b : ByteArray) : Bool := a.toList == b.toList
def strLt (a b : ByteArray) : Bool := Op.bytesLess a.toList b.toList
def bAt (s : ByteArray) (n : Nat) : Int := (s.data.toList.getD n 0).toNat

abbrev EqT := TypeId → AV → AV → (Bool → Prop) → Prop

def partA (C : Ctx) (t : TypeId) (cs : List AV) (off : Nat) (k : AV → Prop) : Prop :=
  infoK C t fun inf => underK C t fun d => @cond Prop (isAggD d) (takeK cs off inf.size fun r => k (.agg r)) (nthK cs off k)

def fieldsEq (C : Ctx) (eq : EqT) : List Field → List AV → List AV → (Bool → Prop) → Prop
  | [], _, _, k => k true
  | f :: fs, xs, ys, k => assertB (!(f.name == "_")) (partA C f.type xs f.offset fun x => partA C f.type ys f.offset fun y =>
      eq f.type x y fun b => match fs with
        | [] => k b
        | _ :: _ => fieldsEq C eq fs xs ys fun r => k (b && r))

/-- '==' by the type, as a Bool. -/
def eqA (C : Ctx) : Nat → EqT
  | 0, _, _, _, _ => False
  | d + 1, t, x, y, k =>
    match x, y with
    | .bool a, .bool b => underK C t fun | .bool => k (a == b) | _ => False
    | .int kd a, .int kd' b => underK C t fun | .int _ => assertB (decide (kd = kd')) (k (a == b)) | _ => False
    | .str a, .str b => underK C t fun | .string => k (strEq a b) | _ => False
    | .nilp, .nilp => underK C t fun | .pointer _ => k true | _ => False
    | .nilp, .ptr .. => underK C t fun | .pointer _ => k false | _ => False
    | .ptr .., .nilp => underK C t fun | .pointer _ => k false | _ => False
    | .nils, .nils => underK C t fun | .slice _ => k true | _ => False
    | .nils, .slc .. => underK C t fun | .slice _ => k false | _ => False
    | .slc .., .nils => underK C t fun | .slice _ => k false | _ => False
    | .mapn, .mapn => underK C t fun | .map _ _ => k true | _ => False
    | .mapn, .mapr _ => underK C t fun | .map _ _ => k false | _ => False
    | .mapr _, .mapn => underK C t fun | .map _ _ => k false | _ => False
    | .nilf, .nilf => underK C t fun | .func .. => k true | _ => False
    | .nilf, .func .. => underK C t fun | .func .. => k false | _ => False
    | .func .., .nilf => underK C t fun | .func .. => k false | _ => False
    | .nili, .nili => underK C t fun | .interface _ => k true | _ => False
    | .nili, .iface .. => underK C t fun | .interface _ => k false | _ => False
    | .iface .., .nili => underK C t fun | .interface _ => k false | _ => False
    | .iface t1 v1, .iface t2 v2 => underK C t fun
      | .interface _ => @cond Prop (Nat.beq t1 t2) (infoK C t1 fun i => assertB i.comparable (eqA C d t1 v1 v2 k)) (k false)
      | _ => False
    | .agg xs, .agg ys => underK C t fun
      | .struct fs => assertB (!C.P.stoodInHeld t) (fieldsEq C (eqA C d) fs.toList xs ys k)
      | _ => False
    | _, _ => False

/-! ### one operation -/
abbrev Rho := Operand → (AV → Prop) → Prop

/-- May a comparison of these be carried out (Dispatch.lean, eqGuard)? -/
def eqOk (C : Ctx) (cst : Bool) (t : TypeId) (x y : AV) : Bool :=
  match x, y with
  | .nili, .nili => cst
  | .agg _, .agg _ => !C.P.eqGuardType C.P.depth t
  | _, _ => true

def binA (C : Ctx) (op : BinOp) (cst : Bool) (t : TypeId) (x y : AV) (K : KV) : Prop :=
  match op, x, y with
  | .shl, .int k a, .int _ b => assertB (decide (0 ≤ b)) (K (.int k (shlA k a b)))
  | .shr, .int k a, .int _ b => assertB (decide (0 ≤ b)) (K (.int k (shrA k a b)))
  | op, .int k a, .int k' b => assertB (decide (k = k'))
    (match op with
    | .add => K (.int k (k.wrap (a + b)))
    | .sub => K (.int k (k.wrap (a - b)))
    | .mul => K (.int k (k.wrap (a * b)))
    | .quo => assertB (!(b == 0)) (K (.int k (k.wrap (a.tdiv b))))
    | .rem => assertB (!(b == 0)) (K (.int k (a.tmod b)))
    | .and => K (.int k (aBits .and k a b))
    | .or => K (.int k (aBits .or k a b))
    | .xor => K (.int k (aBits .xor k a b))
    | .andNot => K (.int k (aBits .andNot k a b))
    | .eql => K (.bool (a == b))
    | .neq => K (.bool (a != b))
    | .lss => K (.bool (decide (a < b)))
    | .leq => K (.bool (decide (a ≤ b)))
    | .gtr => K (.bool (decide (a > b)))
    | .geq => K (.bool (decide (a ≥ b)))
    | _ => False)
  | op, .str a, .str b =>
    match op with
    | .add => assertB (Nat.ble (a.size + b.size) 9223372036854775807) (K (.str (a ++ b)))
    | .eql => K (.bool (strEq a b))
    | .neq => K (.bool (!strEq a b))
    | .lss => K (.bool (strLt a b))
    | .leq => K (.bool (strLt a b || strEq a b))
    | .gtr => K (.bool (!(strLt a b || strEq a b)))
    | .geq => K (.bool (!strLt a b))
    | _ => False
  | .eql, x, y => assertB (eqOk C cst t x y) (eqA C 40 t x y fun b => K (.bool b))
  | .neq, x, y => assertB (eqOk C cst t x y) (eqA C 40 t x y fun b => K (.bool (!b)))
  | _, _, _ => False

def unA (op : UnOp) (x : AV) (K : KV) : Prop :=
  match op, x with
  | .neg, .int k n => K (.int k (k.wrap (0 - n)))
  | .xor, .int k n => K (.int k (aBits .xor k (if k.signed then -1 else k.max) n))
  | .not, .bool b => K (.bool (!b))
  | _, _ => False

/-- What a parts' list lays into the zero value's cells. -/
def fillK (place : Nat → Option (Nat × Nat)) : List (Nat × AV) → List AV → (List AV → Prop) → Prop
  | [], cs, k => k cs
  | (i, v) :: r, cs, k => optK (place i) fun p => cellsK v fun vs => assertB (Nat.beq vs.length p.2) (putK cs p.1 vs fun cs' => fillK place r cs' k)

def rowOf (s : ByteArray) : Col := .int .u8 (bAt s)
/-- The bytes o, o+1, .. (n of them) of a row. -/
def strOf (g : Nat → Int) (o n : Nat) : ByteArray := ⟨⟨(List.range n).map fun i => UInt8.ofNat (g (o + i)).toNat⟩⟩

def scalarA : AV → Bool
  | .bool _ | .int .. | .str _ => true
  | _ => false
def replicateA {α : Type} (cs : List α) : Nat → (List α → Prop) → Prop
  | 0, k => k []
  | n + 1, k => replicateA cs n fun r => appK cs r k

def colsOfZero : List AV → (List Col → Prop) → Prop
  | [], k => k []
  | .int kd n :: r, k => colsOfZero r fun cs => k (.int kd (fun _ => n) :: cs)
  | .bool b :: r, k => colsOfZero r fun cs => k (.bool (fun _ => b) :: cs)
  | .str s :: r, k => colsOfZero r fun cs => k (.str (fun _ => s) :: cs)
  | _ :: _, _ => False

def addN (o n : Nat) : Nat := match o with | 0 => n | o + 1 => o + 1 + n

def sliceK (C : Ctx) (t : TypeId) (x : AV) (lo hi : Option AV) (h : Heap) (K : KR) : Prop :=
  underK C t fun d =>
  match d, x with
  | .string, .str s => bnd s.size lo hi fun l u => K (.str (s.extract l u)) h
  | .slice e, .nils => bnd 0 lo hi fun _ _ => infoK C e fun _ => K .nils h
  | .slice e, .emp => bnd 0 lo hi fun _ _ => infoK C e fun _ => K .emp h
  | .slice e, .slc b z o n => infoK C e fun ie => assertB (Nat.beq z ie.size) (bnd n lo hi fun l u => K (.slc b z (addN o l) (u - l)) h)
  | .array n e, .ptr b 0 z 0 => infoK C e fun ie => h.getK b fun blk => match blk with
    | .cells _ z' (some n') _ => assertB (Nat.beq z' ie.size && Nat.beq n n' && Nat.beq z 0) (bnd n lo hi fun l u => K (.slc b z' l (u - l)) h)
    | .row _ (some n') m cols => assertB (Nat.beq cols.length ie.size && Nat.beq n n' && Nat.beq n m && Nat.beq z cols.length) (bnd n lo hi fun l u => K (.slc b cols.length l (u - l)) h)
    | _ => False
  | _, _ => False
where
  bnd (n : Nat) (lo hi : Option AV) (k : Nat → Nat → Prop) : Prop :=
    match lo, hi with
    | none, none => k 0 n
    | some (.int _ l), none => assertB (decide (0 ≤ l) && decide (l ≤ (n : Int))) (k l.toNat n)
    | none, some (.int _ u) => assertB (decide (0 ≤ u) && decide (u ≤ (n : Int))) (k 0 u.toNat)
    | some (.int _ l), some (.int _ u) => assertB (decide (0 ≤ u) && decide (u ≤ (n : Int))) (assertB (decide (0 ≤ l) && decide (l ≤ u)) (k l.toNat u.toNat))
    | _, _ => False

def indexAddrK (C : Ctx) (t : TypeId) (x ix : AV) (h : Heap) (K : KV) : Prop :=
  match x, ix with
  | .slc b z o n, .int _ i => underK C t fun d => match d with
      | .slice e => infoK C e fun ie => assertB (Nat.beq z ie.size && decide (0 ≤ i) && decide (i < (n : Int))) (h.getK b fun blk => match blk with
          | .cells _ _ _ cs => idxK i.toNat 0 (cs.take n) fun m _ => K (.ptr b (addN o m) z 0)
          | .row .. => K (.ptr b (addN o i.toNat) z 0)
          | _ => False)
      | _ => False
  | .ptr b 0 z j, .int _ i => underK C t fun d => match d with
      | .array n e => infoK C e fun ie => assertB (decide (0 ≤ i) && decide (i < (n : Int))) (h.getK b fun blk => match blk with
          | .cells .. => idxK i.toNat 0 (List.replicate n ()) fun m _ => K (.ptr b 0 z (j + m * ie.size))
          | .row _ _ m' cols => assertB (Nat.beq j 0 && Nat.beq z cols.length && Nat.beq cols.length ie.size && Nat.beq n m') (K (.ptr b i.toNat z 0))
          | _ => False)
      | _ => False
  | _, _ => False

def chunkK (C : Ctx) (e : TypeId) (z : Nat) (cs : List AV) : Nat → Nat → (List AV → Prop) → Prop
  | 0, _, k => k []
  | n + 1, i, k => partA C e cs (i * z) fun x => chunkK C e z cs n (i + 1) fun r => k (x :: r)

def indexK (C : Ctx) (t : TypeId) (x ix : AV) (K : KV) : Prop :=
  match x, ix with
  | .str s, .int _ i => underK C t fun | .string => assertB (decide (0 ≤ i) && decide (i < (s.size : Int))) (K (.int .u8 (bAt s i.toNat))) | _ => False
  | .agg cs, .int _ i => underK C t fun
    | .array n e => infoK C e fun ie => assertB (decide (0 ≤ i) && decide (i < (n : Int))) (chunkK C e ie.size cs n 0 fun xs => idxK i.toNat 0 xs fun _ x => K x)
    | _ => False
  | _, _ => False

def convertK (C : Ctx) (src dst : TypeId) (x : AV) (h : Heap) (K : KR) : Prop :=
  underK C dst fun d => underK C src fun s =>
  match s, d, x with
  | .int _, .int k, .int _ n => K (.int k (k.wrap n)) h
  | .string, .string, .str s => K (.str s) h
  | .string, .slice e, .str s => underK C e fun
    | .int .u8 => h.pushK (.row true none s.size [rowOf s]) fun b h' => K (.slc b 1 0 s.size) h'
    | _ => False
  | .slice e, .string, .nils => underK C e fun | .int .u8 => K (.str ByteArray.empty) h | _ => False
  | .slice e, .string, .slc b z o n => underK C e fun
    | .int .u8 => h.getK b fun
      | .row _ _ _ [.int .u8 g] => assertB (Nat.beq z 1) (K (.str (strOf g o n)) h)
      | .cells _ _ _ cs => assertB (Nat.beq z 1 && cs.all fun | .int .u8 _ => true | _ => false) (takeK cs o n fun r => K (.str (strOf (intAt r) 0 n)) h)
      | _ => False
    | _ => False
  | _, _, _ => False

/-- What is appended, of n elements. -/
inductive Src where
  | none
  | cells (n : Nat) (cs : List AV)
  | row (n : Nat) (o : Nat) (cols : List Col)

def srcK (z : Nat) (x : AV) (h : Heap) (k : Src → Prop) : Prop :=
  match x with
  | .nils => k .none
  | .str s => assertB (Nat.beq z 1) (k (.row s.size 0 [rowOf s]))
  | .slc b z' o n => assertB (Nat.beq z z') (h.getK b fun
    | .cells _ _ _ cs => takeK cs (o * z) (n * z) fun r => k (.cells n r)
    | .row _ _ _ cols => assertB (Nat.beq z cols.length) (k (.row n o cols))
    | _ => False)
  | _ => False

/-- Two rows of columns, joined: n of the first (from o on), the second behind (from o' on). -/
def joinF {β : Type} (n o : Nat) (g : Nat → β) (o' : Nat) (g' : Nat → β) : Nat → β := fun m => if m < n then g (o + m) else g' (o' + (m - n))

def joinCols : Nat → Nat → List Col → Nat → List Col → (List Col → Prop) → Prop
  | _, _, [], _, [], k => k []
  | n, o, .int kd g :: r, o', .int kd' g' :: r', k => assertB (decide (kd = kd')) (joinCols n o r o' r' fun cs => k (.int kd (joinF n o g o' g') :: cs))
  | n, o, .bool g :: r, o', .bool g' :: r', k => joinCols n o r o' r' fun cs => k (.bool (joinF n o g o' g') :: cs)
  | n, o, .str g :: r, o', .str g' :: r', k => joinCols n o r o' r' fun cs => k (.str (joinF n o g o' g') :: cs)
  | _, _, _, _, _, _ => False

def lastF {β : Type} (n : Nat) (g : Nat → β) (v : β) : Nat → β := fun m => if m < n then g m else v

/-- One element behind n. -/
def addOne : Nat → List Col → List AV → (List Col → Prop) → Prop
  | _, [], [], k => k []
  | n, .int kd g :: r, .int kd' v :: r', k => assertB (decide (kd = kd')) (addOne n r r' fun cs => k (.int kd (lastF n g v) :: cs))
  | n, .bool g :: r, .bool v :: r', k => addOne n r r' fun cs => k (.bool (lastF n g v) :: cs)
  | n, .str g :: r, .str v :: r', k => addOne n r r' fun cs => k (.str (lastF n g v) :: cs)
  | _, _, _, _ => False

def addCells : Nat → Nat → Nat → List Col → List AV → (List Col → Prop) → Prop
  | 0, _, _, cols, _, k => k cols
  | m + 1, n, z, cols, cs, k => takeK cs 0 z fun r => addOne n cols r fun cols' => takeK cs z (cs.length - z) fun cs' => addCells m (n + 1) z cols' cs' k

def shiftF {β : Type} (o : Nat) (g : Nat → β) : Nat → β := fun m => g (o + m)
def Col.shiftK (o : Nat) (c : Col) (k : Col → Prop) : Prop :=
  match o with
  | 0 => k c
  | o + 1 => match c with
    | .int kd g => k (.int kd (shiftF (o + 1) g))
    | .bool g => k (.bool (shiftF (o + 1) g))
    | .str g => k (.str (shiftF (o + 1) g))

def bound47 (n bytes : Nat) : Bool := Nat.ble (n * bytes) 140737488355328 && Nat.blt 0 bytes

def freshAppend (h : Heap) (bytes z : Nat) (src : Src) (none : AV) (K : KR) : Prop :=
  match src with
  | .none => K none h
  | .cells 0 _ => K none h
  | .cells (n + 1) cs => assertB (bound47 (n + 1) bytes) (h.pushK (.cells true z Option.none cs) fun b h' => K (.slc b z 0 (n + 1)) h')
  | .row n o cols => @cond Prop (Nat.beq n 0) (K none h) (assertB (bound47 n bytes) (mapK (fun c => c.shiftK o) cols fun cols' => h.pushK (.row true Option.none n cols') fun b h' => K (.slc b z 0 n) h'))

def isIntA (kd : IntKind) : AV → Bool
  | .int kd' _ => decide (kd' = kd)
  | _ => false

def appendK (C : Ctx) (argTypes : Array TypeId) (s x : AV) (h : Heap) (K : KR) : Prop :=
  optK argTypes[0]? fun st => optK argTypes[1]? fun xt => underK C xt fun xd => assertB (match xd with | .int _ => false | _ => true) (underK C st fun d => match d with
  | .slice e => infoK C e fun ie => zeroK C e fun zv => cellsK zv fun zc => assertB (Nat.beq zc.length ie.size) <| srcK ie.size x h fun src =>
    match s with
    | .nils => freshAppend h ie.bytes ie.size src .nils K
    | .emp => freshAppend h ie.bytes ie.size src .emp K
    | .slc b z 0 n => assertB (Nat.beq z ie.size)
      (match src with
      | .none => K (.slc b z 0 n) h
      | .cells 0 _ => K (.slc b z 0 n) h
      | .cells (m + 1) cs => assertB (bound47 (n + (m + 1)) ie.bytes && cs.all isCellA) (h.getK b fun
        | .cells true z' _ old => assertB (Nat.beq z' z) <| takeK old 0 (n * z) fun l => appK l cs fun all => h.setK b .dead fun h1 => h1.pushK (.cells true z none all) fun b' h' => K (.slc b' z 0 (n + (m + 1))) h'
        | .row true _ _ cols => addCells (m + 1) n z cols cs fun cols' => h.setK b .dead fun h1 => h1.pushK (.row true none (n + (m + 1)) cols') fun b' h' => K (.slc b' z 0 (n + (m + 1))) h'
        | _ => False)
      | .row m o' cols' => assertB (bound47 (n + m) ie.bytes) (h.getK b fun
        | .cells true z' _ [] => assertB (Nat.beq n 0 && Nat.beq z' z) (mapK (fun c => c.shiftK o') cols' fun cs => h.setK b .dead fun h1 => h1.pushK (.row true none m cs) fun b' h' => K (.slc b' z 0 m) h')
        | .cells true z' _ (.int kd v :: r) => assertB (Nat.beq z' z && Nat.beq z 1 && r.all (isIntA kd)) (takeK (.int kd v :: r) 0 n fun l => match cols' with
          | [.int kd' g'] => assertB (decide (kd' = kd)) (h.setK b .dead fun h1 => h1.pushK (.row true none (n + m) [.int kd (joinF n 0 (intAt l) o' g')]) fun b' h' => K (.slc b' z 0 (n + m)) h')
          | _ => False)
        | .row true _ _ cols => joinCols n 0 cols o' cols' fun cs => h.setK b .dead fun h1 => h1.pushK (.row true none (n + m) cs) fun b' h' => K (.slc b' z 0 (n + m)) h'
        | _ => False))
    | _ => False
  | _ => False)

def lenK (C : Ctx) (argTypes : Array TypeId) (x : AV) (h : Heap) (K : KV) : Prop :=
  optK argTypes[0]? fun t => underK C t fun d => match d, x with
  | .string, .str s => K (.int .i64 s.size)
  | .array n _, _ => K (.int .i64 n)
  | .slice _, .nils => K (.int .i64 0)
  | .slice _, .emp => K (.int .i64 0)
  | .slice _, .slc _ _ _ n => K (.int .i64 n)
  | .map _ _, .mapn => K (.int .i64 0)
  | .map _ _, .mapr b => h.getK b (fun | .mp es => K (.int .i64 es.length) | _ => False)
  | _, _ => False

def minI (a b : Int) : Int := if b < a then b else a
def maxI (a b : Int) : Int := if a < b then b else a
def minMaxFrom (mx : Bool) (k : IntKind) : Int → List AV → KV → Prop
  | a, [], K => K (.int k a)
  | a, .int k' b :: r, K => assertB (decide (k = k')) (@cond Prop mx (minMaxFrom mx k (maxI a b) r K) (minMaxFrom mx k (minI a b) r K))
  | _, _, _ => False
def minMaxK (mx : Bool) : List AV → KV → Prop
  | .int k a :: r, K => minMaxFrom mx k a r K
  | _, _ => False

def copyF {β : Type} (o m : Nat) (g : Nat → β) (o' : Nat) (g' : Nat → β) : Nat → β := fun i => if o ≤ i ∧ i < o + m then g' (o' + (i - o)) else g i

def copyCols (o m : Nat) : List Col → Nat → List Col → (List Col → Prop) → Prop
  | [], _, [], k => k []
  | .int kd g :: r, o', .int kd' g' :: r', k => assertB (decide (kd = kd')) (copyCols o m r o' r' fun cs => k (.int kd (copyF o m g o' g') :: cs))
  | .bool g :: r, o', .bool g' :: r', k => copyCols o m r o' r' fun cs => k (.bool (copyF o m g o' g') :: cs)
  | .str g :: r, o', .str g' :: r', k => copyCols o m r o' r' fun cs => k (.str (copyF o m g o' g') :: cs)
  | _, _, _, _ => False

def copyK (C : Ctx) (argTypes : Array TypeId) (d x : AV) (h : Heap) (K : KR) : Prop :=
  optK argTypes[0]? fun t => underK C t fun dd => match dd with
  | .slice e => infoK C e fun ie => srcK ie.size x h fun src =>
    match d with
    | .nils => K (.int .i64 0) h
    | .emp => K (.int .i64 0) h
    | .slc b z o n => assertB (Nat.beq z ie.size) (match src with
      | .none => K (.int .i64 0) h
      | .cells m cs => h.getK b fun
        | .cells true z' cap old => assertB (Nat.beq z' z && cs.all isCellA) <| takeK cs 0 ((Nat.min m n) * z) fun cs' => putK old (o * z) cs' fun new => h.setK b (.cells true z' cap new) fun h' => K (.int .i64 (Nat.min m n)) h'
        | _ => False
      | .row m o' cols' => h.getK b fun
        | .row true cap len cols => assertB (Nat.beq z cols.length) <| copyCols o (Nat.min m n) cols o' cols' fun cs => h.setK b (.row true cap len cs) fun h' => K (.int .i64 (Nat.min m n)) h'
        | _ => False)
    | _ => False
  | _ => False

/-! maps with keys that are numbers, strings or bools -/
def keyEq (a b : AV) (k : Bool → Prop) : Prop :=
  match a, b with
  | .int kd x, .int kd' y => assertB (decide (kd = kd')) (k (x == y))
  | .str x, .str y => k (x == y)
  | .bool x, .bool y => k (x == y)
  | _, _ => False

def findK (key : AV) : List (AV × AV) → (AV → Prop) → Prop → Prop
  | [], _, nf => nf
  | (k', v) :: r, k, nf => keyEq key k' fun b => @cond Prop b (k v) (findK key r k nf)

def mapSetK (key v : AV) : List (AV × AV) → (List (AV × AV) → Prop) → Prop
  | [], k => k [(key, v)]
  | (k', x) :: r, k => keyEq key k' fun b => @cond Prop b (k ((k', v) :: r)) (mapSetK key v r fun r' => k ((k', x) :: r'))

def plainKey (C : Ctx) (t : TypeId) (key : AV) (k : Prop) : Prop := underK C t fun d => match d, key with
  | .int _, .int _ _ => k
  | .string, .str _ => k
  | .bool, .bool _ => k
  | _, _ => False

def updM (g : Int → Option Int) (x y : Int) : Int → Option Int := fun a => if a = x then some y else g a

def lookupK (C : Ctx) (t : TypeId) (m key : AV) (ok : Bool) (h : Heap) (K : KV) : Prop :=
  underK C t fun d => match d with
    | .map kt et => plainKey C kt key (
      let out : AV → Bool → Prop := fun v b => @cond Prop ok (K (.tup [v, .bool b])) (K v)
      match m with
      | .mapn => zeroK C et fun z => out z false
      | .mapr b => h.getK b fun blk => match blk with
        | .mp es => findK key es (fun v => out v true) (zeroK C et fun z => out z false)
        | .mpf kd vd g => match key with
          | .int kd' x => assertB (decide (kd' = kd)) (@cond Prop (g x).isSome (out (.int vd ((g x).getD 0)) true) (zeroK C et fun z => out z false))
          | _ => False
        | _ => False
      | _ => False)
    | _ => False

def mapPutK (C : Ctx) (t : TypeId) (m key v : AV) (h : Heap) (K : Heap → Prop) : Prop :=
  underK C t fun d => match d with
    | .map kt _ => plainKey C kt key (match m with
      | .mapr b => h.getK b fun blk => match blk with
        | .mp es => mapSetK key v es fun es' => h.setK b (.mp es') K
        | .mpf kd vd g => match key, v with
          | .int kd' x, .int vd' y => assertB (decide (kd' = kd) && decide (vd' = vd)) (h.setK b (.mpf kd vd (updM g x y)) K)
          | _, _ => False
        | _ => False
      | _ => False)
    | _ => False

def makeSliceK (C : Ctx) (t : TypeId) (len cap : AV) (h : Heap) (K : KR) : Prop :=
  match len, cap with
  | .int .i64 l, .int .i64 c => underK C t fun
    | .slice e => infoK C e fun ie => assertB (decide (0 ≤ l) && decide (l ≤ c) && decide (c ≤ 9223372036854775807) && decide ((ie.bytes : Int) * c ≤ 281474976710656)) (zeroK C e fun zv => cellsK zv fun z => assertB (Nat.beq z.length ie.size) (
        @cond Prop (z.all scalarA) (colsOfZero z fun cols => h.pushK (.row true (some c.toNat) l.toNat cols) fun b h' => K (.slc b ie.size 0 l.toNat) h')
          (replicateA z c.toNat fun cs => h.pushK (.cells true ie.size (some c.toNat) cs) fun b h' => K (.slc b ie.size 0 l.toNat) h')))
    | _ => False
  | _, _ => False

def builtinK (C : Ctx) (b : Builtin) (argTypes : Array TypeId) (args : List AV) (h : Heap) (K : KR) : Prop :=
  match b, args with
  | .append, [s, x] => appendK C argTypes s x h K
  | .copy, [d, s] => copyK C argTypes d s h K
  | .len, [x] => lenK C argTypes x h fun v => K v h
  | .min, xs => minMaxK false xs fun v => K v h
  | .max, xs => minMaxK true xs fun v => K v h
  | _, _ => False

def applyK (E : Env) (f : AV) (vs : List AV) (h : Heap) (K KP : KR) : Prop :=
  match f with
  | .func (.func f) first cap => appK first vs fun a => appK a cap fun args => E.call f args h K KP
  | .func (.yield l) [] _ => E.round l vs h K
  | _ => False

def buildK (C : Ctx) (t : TypeId) (ps : List (Nat × AV)) (K : KV) : Prop :=
  zeroK C t fun zv => cellsK zv fun z => underK C t fun
    | .struct fs => assertB (fs.toList.all fun f => (C.P.info? f.type).isSome) (fillK (fun i => match fs[i]? with
        | some f => (C.P.info? f.type).map fun inf => (f.offset, inf.size)
        | none => none) ps z fun cs => K (.agg cs))
    | .array _ e => infoK C e fun ie => fillK (fun i => some (i * ie.size, ie.size)) ps z fun cs => K (.agg cs)
    | _ => False

def buildSliceK (C : Ctx) (t : TypeId) (n : Nat) (ps : List (Nat × AV)) (h : Heap) (K : KR) : Prop :=
  underK C t fun
    | .slice e => infoK C e fun ie => assertB (Nat.ble (n * ie.size) 16777216) (zeroK C e fun zv => cellsK zv fun z => assertB (Nat.beq z.length ie.size) (replicateA z n fun cs0 =>
        fillK (fun i => some (i * ie.size, ie.size)) ps cs0 fun cs => h.pushK (.cells true ie.size (some n) cs) fun b h' => K (.slc b ie.size 0 n) h'))
    | _ => False

def fieldAddrK (C : Ctx) (t : TypeId) (x : AV) (f : Nat) (K : KV) : Prop :=
  match x with
  | .ptr b i z j => underK C t fun
    | .struct fs => optK fs[f]? fun fd => infoK C fd.type fun inf => assertB (!(Nat.beq inf.size 0)) (K (.ptr b i z (j + fd.offset)))
    | _ => False
  | _ => False

def fieldK (C : Ctx) (t : TypeId) (x : AV) (f : Nat) (K : KV) : Prop :=
  match x with
  | .agg cs => underK C t fun
    | .struct fs => optK fs[f]? fun fd => partA C fd.type cs fd.offset K
    | _ => False
  | _ => False

def isConstO : Operand → Bool
  | .const _ => true
  | _ => false

/-- One operation. -/
def opK (C : Ctx) (E : Env) (o : Oper) (ρ : Rho) (h : Heap) (K KP : KR) : Prop :=
  let v : KV := fun x => K x h
  match o.op with
  | .move x | .assign x => ρ x v
  | .pick c a b => ρ c (fun | .bool c => @cond Prop c (ρ a v) (ρ b v) | _ => False)
  | .alloc t => zeroK C t fun z => cellsK z fun cs => mkVarK C t cs fun blk => h.pushK blk fun b h' => rowOrCells blk b h' K
  | .box t x => ρ x fun x => cellsK x fun cs => infoK C t fun inf => assertB (Nat.beq cs.length inf.size) (mkVarK C t cs fun blk => h.pushK blk fun b h' => rowOrCells blk b h' K)
  | .build t ps => mapK (fun (p : Nat × Operand) k => ρ p.2 fun x => k (p.1, x)) ps.toList fun ps => buildK C t ps v
  | .buildSlice t n ps => mapK (fun (p : Nat × Operand) k => ρ p.2 fun x => k (p.1, x)) ps.toList fun ps => buildSliceK C t n ps h K
  | .load t a => ρ a fun p => loadK C t p h v
  | .store t a x => ρ a fun p => ρ x fun x => storeK C t p x h fun h' => K undefA h'
  | .nilCheck x => ρ x (fun | .ptr b i z j => v (.ptr b i z j) | .func fn a b => (match fn with | .func f => v (.func (.func f) a b) | .yield l => v (.func (.yield l) a b) | _ => False) | _ => False)
  | .binOp op t xo yo _ => ρ xo fun x => ρ yo fun y => binA C op (isConstO xo || isConstO yo) t x y v
  | .unOp op _ x => ρ x fun x => unA op x v
  | .convert s d x => ρ x fun x => convertK C s d x h K
  | .makeInterface t x => ρ x fun x => underK C t (fun | .interface _ => False | _ => v (.iface t x))
  | .makeFunc fn a b => match fn with
    | .yield _ => False
    | fn => mapK ρ a.toList fun a => mapK ρ b.toList fun b => v (.func fn a b)
  -- maps: below
  | .makeMap _ none => h.pushK (.mp []) fun b h' => K (.mapr b) h'
  | .makeMap t (some r) => ρ r fun | .int _ _ => underK C t (fun | .map _ _ => h.pushK (.mp []) fun b h' => K (.mapr b) h' | _ => False) | _ => False
  | .insert t m k x | .mapUpdate t m k x => ρ m fun m => ρ k fun k => ρ x fun x => mapPutK C t m k x h fun h' => K undefA h'
  | .makeSlice t l c => ρ l fun l => ρ c fun c => makeSliceK C t l c h K
  | .slice t x lo hi none => ρ x fun x => oK lo fun lo => oK hi fun hi => sliceK C t x lo hi h K
  | .slice t x lo (some hi) (some mx) => ρ x fun x => oK lo fun lo => ρ hi fun hi => ρ mx fun mx => slice3K C t x lo hi mx v
  | .fieldAddr t x f => ρ x fun x => fieldAddrK C t x f v
  | .field t x f => ρ x fun x => fieldK C t x f v
  | .indexAddr t x i => ρ x fun x => ρ i fun i => indexAddrK C t x i h v
  | .index t x i => ρ x fun x => ρ i fun i => indexK C t x i v
  | .lookup t m k ok => ρ m fun m => ρ k fun k => lookupK C t m k ok h v
  | .typeAssert x _ at_ ok => ρ x fun xv => match xv with
    | .iface t x => underK C at_ fun d => match d with
      | .interface _ => False
      | _ => @cond Prop (Nat.beq t at_) (@cond Prop ok (v (.tup [x, .bool true])) (v x)) (@cond Prop ok (zeroK C at_ fun z => v (.tup [z, .bool false])) False)
    | .nili => underK C at_ fun _ => @cond Prop ok (zeroK C at_ fun z => v (.tup [z, .bool false])) False
    | _ => False
  | .extract t i => ρ t (fun | .tup vs => nthK vs i v | _ => False)
  | .call c => match c.callee with
    | .builtin b => mapK ρ c.args.toList fun vs => builtinK C b c.argTypes vs h K
    | .value f => ρ f fun f => mapK ρ c.args.toList fun vs => applyK E f vs h K KP
    | _ => False
  | .panic x => ρ x (fun | .iface t x => KP (.iface t x) h | _ => False)
  | _ => False
where
  oK : Option Operand → (Option AV → Prop) → Prop
    | none, k => k none
    | some x, k => ρ x fun v => k (some v)
  rowOrCells (blk : Blk) (b : Nat) (h' : Heap) (K : KR) : Prop :=
    match blk with
    | .row _ _ _ cols => K (.ptr b 0 cols.length 0) h'
    | _ => K (.ptr b 0 0 0) h'
  slice3K (C : Ctx) (t : TypeId) (x : AV) (lo : Option AV) (hi mx : AV) (v : KV) : Prop :=
    match x, lo, hi, mx with
    | .nils, none, .int _ 0, .int _ 0 => underK C t fun | .slice e => infoK C e fun _ => v .nils | _ => False
    | .slc .., none, .int _ 0, .int _ 0 => underK C t fun | .slice e => infoK C e fun _ => v .emp | _ => False
    | .emp, none, .int _ 0, .int _ 0 => underK C t fun | .slice e => infoK C e fun _ => v .emp | _ => False
    | _, _, _, _ => False

/-! ### regions -/
def rhoOf (C : Ctx) (tm : List (Nat × AV)) : Rho := fun x k =>
  match x with
  | .tmp t => getK tm t k
  | .const v => optK (ofVal v) k
  | .func f => k (.func (.func f) [] [])
  | .global g => getK C.glob g fun b => k (.ptr b 0 0 0)

def putTm (nt : Nat) (tm : List (Nat × AV)) (dst : Option Tmp) (v : AV) (k : List (Nat × AV) → Prop) : Prop :=
  match dst with
  | none => k tm
  | some d => assertB (Nat.blt d nt) (k ((d, v) :: tm))

/-- 0: hangs on its operands alone; 1: reads the heap, changes nothing; 2: all others. -/
def opKind (C : Ctx) (o : Oper) : Nat :=
  match o.op with
  | .move _ | .assign _ | .pick .. | .build .. | .fieldAddr .. | .field .. | .unOp .. | .binOp .. | .extract .. | .makeInterface .. | .makeFunc .. | .nilCheck _ | .index .. | .typeAssert .. => 0
  | .load .. | .indexAddr .. | .slice .. | .lookup .. => 1
  | .call { callee := .builtin .len, argTypes, .. } => 1
  | .call { callee := .builtin .min, .. } | .call { callee := .builtin .max, .. } => 0
  | .convert s d _ => match C.P.underlying s, C.P.underlying d with | some (.int _), some (.int _) => 1 | some .string, some .string => 1 | _, _ => 2
  | _ => 2

/-! equality by a test -/
mutual
def avEq : AV → AV → Bool
  | .bool a, .bool b => a == b
  | .int k a, .int k' b => decide (k = k') && decide (a = b)
  | .str a, .str b => decide (a.data.toList = b.data.toList)
  | .nilp, .nilp => true
  | .ptr b i z j, .ptr b' i' z' j' => Nat.beq b b' && Nat.beq i i' && Nat.beq z z' && Nat.beq j j'
  | .nils, .nils => true
  | .emp, .emp => true
  | .slc b z o n, .slc b' z' o' n' => Nat.beq b b' && Nat.beq z z' && Nat.beq o o' && Nat.beq n n'
  | .mapn, .mapn => true
  | .mapr b, .mapr b' => Nat.beq b b'
  | .func (.func f) a c, .func (.func f') a' c' => Nat.beq f f' && avEqs a a' && avEqs c c'
  | .nilf, .nilf => true
  | .iface t v, .iface t' v' => Nat.beq t t' && avEq v v'
  | .nili, .nili => true
  | .agg a, .agg b => avEqs a b
  | .tup a, .tup b => avEqs a b
  | _, _ => false
def avEqs : List AV → List AV → Bool
  | [], [] => true
  | x :: xs, y :: ys => avEq x y && avEqs xs ys
  | _, _ => false
end

def eqTest (C : Ctx) (a b : AV) (X : Prop) : Prop := match C.closed with
  | true => @cond Prop (avEq a b) X False
  | false => a = b ∧ X

/-- A reading, as it was carried out in phase ph. -/
structure Rd where
  j : Nat
  o : Oper
  tm : List (Nat × AV)
  v : AV
  ph : Nat

/-- In another heap it comes out the same. -/
def Rd.chk (C : Ctx) (E : Env) (r : Rd) (h : Heap) : Prop := opK C E r.o (rhoOf C r.tm) h (fun v' _ => v' = r.v) (fun _ _ => False)
def Rd.run (C : Ctx) (E : Env) (r : Rd) (h : Heap) (X : Prop) : Prop := match r with
  | ⟨_, o, tm, v, _⟩ => opK C E o (rhoOf C tm) h (fun v' _ => eqTest C v' v X) (fun _ _ => False)

/-- What was read is read the same in each phase in which the operation may run. -/
def stabPh (C : Ctx) (E : Env) (r : Rd) (lo hi : Nat) : Nat → List Heap → Prop → Prop
  | _, [], X => X
  | s, h :: hs, X => @cond Prop (Nat.ble lo s && Nat.ble s hi && !(Nat.beq s r.ph)) (r.run C E h (stabPh C E r lo hi (s + 1) hs X)) (stabPh C E r lo hi (s + 1) hs X)

def stabK (C : Ctx) (E : Env) (bf : Array Nat) (loud : List Nat) (hs : List Heap) : List Rd → Prop → Prop
  | [], X => X
  | r :: rs, X => stabPh C E r ((loud.filter fun l => (bf.getD r.j 0).testBit l).length) ((loud.filter fun l => !(bf.getD l 0).testBit r.j).length) 0 hs (stabK C E bf loud hs rs X)

structure RSt where
  tm : List (Nat × AV)
  h : Heap
  rds : List Rd
  hs : List Heap      -- the phases, last first
  ph : Nat

def guardK (ops : Array Oper) (o : Oper) (tm : List (Nat × AV)) (run skip : List (Nat × AV) → Prop) : Prop :=
  match o.guard with
  | none => run tm
  | some (j, want) => optK ((ops[j]?).bind (·.dst)) fun d => getK tm d fun
    | .bool b => brK b fun b' => match want, b' with
      | true, true => run ((d, .bool true) :: tm)
      | false, false => run ((d, .bool false) :: tm)
      | true, false => skip ((d, .bool false) :: tm)
      | false, true => skip ((d, .bool true) :: tm)
    | _ => skip tm

/-- The operations of a region, in the order of the text. -/
def opsK (C : Ctx) (E : Env) (nt : Nat) (ops : Array Oper) (draw : Bool) : List Oper → Nat → RSt → (RSt → Prop) → (AV → RSt → Prop) → Prop
  | [], _, s, K, _ => K s
  | o :: rest, i, ⟨tm0, h, rds, hs, ph⟩, K, KP =>
    guardK ops o tm0
      (fun tm => opK C E o (rhoOf C tm) h
        (fun v h' => putTm nt tm o.dst v fun tm' =>
          match draw with
          | false => opsK C E nt ops draw rest (i + 1) ⟨tm', h', [], [], 0⟩ K KP
          | true => match opKind C o with
            | 0 => opsK C E nt ops draw rest (i + 1) ⟨tm', h, rds, hs, ph⟩ K KP
            | 1 => opsK C E nt ops draw rest (i + 1) ⟨tm', h, ⟨i, o, tm, v, ph⟩ :: rds, hs, ph⟩ K KP
            | _ => opsK C E nt ops draw rest (i + 1) ⟨tm', h', rds, h' :: hs, ph + 1⟩ K KP)
        (fun v h' => match draw with | false => KP v ⟨tm, h', [], [], 0⟩ | true => False))
      (fun tm => putTm nt tm o.dst undefA fun tm' =>
        match draw with
        | false => opsK C E nt ops draw rest (i + 1) ⟨tm', h, [], [], 0⟩ K KP
        | true => match opKind C o with
          | 0 | 1 => opsK C E nt ops draw rest (i + 1) ⟨tm', h, rds, hs, ph⟩ K KP
          | _ => opsK C E nt ops draw rest (i + 1) ⟨tm', h, rds, h :: hs, ph + 1⟩ K KP)

def loudOf (C : Ctx) (ops : Array Oper) : List Nat := (List.range ops.size).filter fun i => match ops[i]? with | some o => Nat.beq (opKind C o) 2 | none => false

def namesOf (o : Oper) : List Tmp := o.op.operands.toList.filterMap fun | .tmp t => some t | _ => none
/-- The temporary that holds the guard's test. -/
def guardTmp (ops : Array Oper) (o : Oper) : List Tmp := match o.guard with
  | none => []
  | some (j, _) => ((ops[j]?).bind (·.dst)).toList

/-- What lays a new block, of nothing: it may come up early. -/
def freshB (o : Oper) : Bool := match o.op with
  | .alloc _ => o.guard.isNone && o.dst.isSome
  | _ => false
def freshAt (ops : Array Oper) (j : Nat) : Bool := match ops[j]? with | some o => freshB o | none => false

/-- What a region must be, that the order may be left open. -/
def drawOk (C : Ctx) (ops : Array Oper) : Bool :=
  let bf := Region.before ops
  let loud := loudOf C ops
  (loud.all fun i => loud.all fun j => Nat.ble j i || (bf.getD j 0).testBit i || (freshAt ops j && (List.range ops.size).all fun r => !((bf.getD r 0).testBit j) || (bf.getD r 0).testBit i)) &&
  (List.range ops.size).all fun i => match ops[i]? with
    | none => true
    | some o =>
      (o.after.toList.all fun e => !(Region.binds .any e) || (Nat.blt e.on i && (bf.getD i 0).testBit e.on)) &&
      (match o.guard with | none => true | some (j, _) => Nat.blt j i && (bf.getD i 0).testBit j) &&
      -- whoever writes a temporary that this one reads or writes is ordered
      (List.range ops.size).all fun k => match ops[k]? with
        | none => true
        | some o' => match o'.dst with
          | none => true
          | some d => Nat.beq k i || !((guardTmp ops o ++ (o.dst.toList ++ namesOf o)).contains d) || (if k < i then (bf.getD i 0).testBit k else (bf.getD k 0).testBit i)

/-- Is there one that may come up early? -/
def lateB (C : Ctx) (ops : Array Oper) : Bool :=
  let bf := Region.before ops
  let loud := loudOf C ops
  loud.any fun i => loud.any fun j => Nat.blt i j && !((bf.getD j 0).testBit i)

def liveAt : List (Nat × Blk) → Nat → Bool
  | [], _ => false
  | (i, x) :: r, b => @cond Bool (Nat.beq i b) x.live (liveAt r b)
/-- What is not to be written was there at first. -/
def hsOk (h0 : Heap) (hs : List Heap) : Bool := hs.all fun h => h.bl.all fun p => p.2.wr || !p.2.live || liveAt h0.bl p.1

def regionK (C : Ctx) (E : Env) (ops : Array Oper) (draw : Bool) (st : St) (K : AExit → St → Prop) : Prop :=
  match st, draw with
  | ⟨tm, nt, df, h⟩, false => opsK C E nt ops false ops.toList 0 ⟨tm, h, [], [], 0⟩ (fun s => match s with | ⟨tm', h', _, _, _⟩ => K .normal ⟨tm', nt, df, h'⟩) (fun v s => match s with | ⟨tm', h', _, _, _⟩ => K (.panic v) ⟨tm', nt, df, h'⟩)
  | ⟨tm, nt, df, h⟩, true => assertB (drawOk C ops) (opsK C E nt ops true ops.toList 0 ⟨tm, h, [], [h], 0⟩
      (fun s => match s with | ⟨tm', h', rds, hs, _⟩ => assertB (!lateB C ops || hsOk h hs) (stabK C E (Region.before ops) (loudOf C ops) hs.reverse rds (K .normal ⟨tm', nt, df, h'⟩))) (fun _ _ => False))

/-! ### code -/
/-- A loop that is left to the prover. -/
structure LoopWP (C : Ctx) (E : Env) (rd : Option Nat) (body : Code) (st : St) (K : AExit → St → Prop) (sem : Prop) : Prop where
  prf : sem

structure Cfg where
  unroll : Nat := 0

def inBlockA (id : Nat) (K : AExit → St → Prop) : AExit → St → Prop := fun e st =>
  match e with
  | .exit id' => @cond Prop (Nat.beq id' id) (K .normal st) (K (.exit id') st)
  | e => K e st

/-- A scope through which the run goes without a goto. -/
def noGoA (K : AExit → St → Prop) : AExit → St → Prop := fun e st =>
  match e with
  | .goto _ => False
  | e => K e st

def thenA (next : St → Prop) (K : AExit → St → Prop) : AExit → St → Prop := fun e st =>
  match e with
  | .normal => next st
  | e => K e st

abbrev LoopSem := Option Nat → Code → St → (AExit → St → Prop) → Prop

/-- 'rd': the round's loop record, where the code runs in a round of a range over a function. 'L': what a loop must meet. -/
def codeK (C : Ctx) (E : Env) (L : LoopSem) (rd : Option Nat) : Code → St → (AExit → St → Prop) → Prop
  | .skip, st, K => K .normal st
  | .label _, st, K => K .normal st
  | .region _ ops draw, st, K => regionK C E ops draw st K
  | .seq a b, st, K => codeK C E L rd a st (thenA (fun st' => codeK C E L rd b st' K) K)
  | .cond c a b, ⟨tm, nt, df, h⟩, K => rhoOf C tm c fun
    | .bool t => brK t fun t' => match t' with
      | true => codeK C E L rd a ⟨tm, nt, df, h⟩ K
      | false => codeK C E L rd b ⟨tm, nt, df, h⟩ K
    | _ => False
  | .block id b, st, K => codeK C E L rd b st (inBlockA id K)
  | .scope b, st, K => codeK C E L rd b st (noGoA K)
  | .loop b, st, K => L rd b st K
  | .exit id, st, K => K (.exit id) st
  | .ret, st, K => K .ret st
  | .rangeFunc f ps assign body, ⟨tm, nt, df, h⟩, K =>
    rhoOf C tm f fun fv =>
      (match rd with
        | none => fun (k : Nat → List Nat → Heap → Prop) => h.pushK (.defd false) fun r h1 => k r [r] h1
        | some l => fun k => h.getK l (fun | .loop _ _ _ _ _ _ _ r => k r [] h | _ => False)) fun r mark h1 =>
      h1.pushK (.loop .ready none tm nt ps.toList assign body r) fun l h2 =>
      (match fv with
        | .func (.func f) first cap => fun K1 KP1 => appK first [.func (.yield l) [] []] fun a => appK a cap fun args => E.call f args h2 K1 KP1
        | _ => fun _ _ => False)
        (fun _ h3 => h3.getK l fun
          | .loop s pend tm' nt' ps' a' b' r' => assertB (match s with | .busy => false | _ => true) (h3.setK l (.loop .exhausted pend tm' nt' ps' a' b' r') fun h4 =>
              match pend with
              | none => K .normal ⟨tm, nt, mark ++ df, h4⟩
              | some .ret => K .ret ⟨tm, nt, mark ++ df, h4⟩
              | some (.exit id) => K (.exit id) ⟨tm, nt, mark ++ df, h4⟩
              | some _ => False)
          | _ => False)
        (fun _ _ => False)
  | _, _, _ => False

/-! ### calls -/
def resultsK (C : Ctx) (fn : Func) (tm : List (Nat × AV)) (h : Heap) (k : AV → Prop) : Prop :=
  assertB (Nat.ble fn.results.toList.length 4) <| mapK (fun (r : ResultVar) k => match r with
    | .tmp t => getK tm t k
    | .cell a t => getK tm a fun p => loadK C t p h k) fn.results.toList fun vs => match vs with
      | [v] => k v
      | vs => k (.tup vs)

/-- The marks: each block of deferred calls is shut. -/
def shutK : List Nat → Heap → (Heap → Prop) → Prop
  | [], h, k => k h
  | r :: rs, h, k => h.getK r (fun | .defd false => h.setK r (.defd true) fun h' => shutK rs h' k | _ => False)

def bindArgs : Nat → List AV → List (Nat × AV)
  | _, [] => []
  | i, v :: r => (i, v) :: bindArgs (i + 1) r

abbrev Spec := List AV → Heap → KR → KR → Prop

def roundTm : List Tmp → List AV → Nat → List (Nat × AV) → (List (Nat × AV) → Prop) → Prop
  | [], [], _, tm, k => k tm
  | p :: ps, v :: vs, nt, tm, k => putTm nt tm (some p) v fun tm' => roundTm ps vs nt tm' k
  | _, _, _, _, _ => False

/-- The function's way out. -/
def callEnd (C : Ctx) (fn : Func) (K KP : KR) : AExit → St → Prop := fun e st =>
  match st with
  | ⟨tm, _, df, h1⟩ => match e with
    | .normal | .ret => shutK df h1 fun h' => resultsK C fn tm h' fun v => K v h'
    | .panic v => match df with | [] => KP v h1 | _ => False
    | _ => False

def roundFin (l : Nat) (K : KR) (h4 : Heap) (j : Option Code) : Prop := h4.getK l fun
  | .loop _ _ tm' nt' ps' a' b' r' => h4.setK l (.loop (match j with | none => .ready | some _ => .done) j tm' nt' ps' a' b' r') fun h5 => K (.bool (match j with | none => true | some _ => false)) h5
  | _ => False

def roundEnd (l : Nat) (K : KR) : AExit → St → Prop := fun e st =>
  match st with
  | ⟨_, _, _, h4⟩ => match e with
    | .normal => roundFin l K h4 none
    | .ret => roundFin l K h4 (some .ret)
    | .exit id => roundFin l K h4 (some (.exit id))
    | _ => False

def roundMid (C : Ctx) (E : Env) (Lp : LoopSem) (l : Nat) (body : Code) (K : KR) : AExit → St → Prop := fun e st =>
  match st with
  | ⟨tm2, nt2, df2, h2⟩ => match e with
    | .normal => h2.getK l fun
      | .loop .ready pd tm' nt' ps' a' b' r' => h2.setK l (.loop .busy pd tm' nt' ps' a' b' r') fun h3 => codeK C E Lp (some l) body ⟨tm2, nt2, df2, h3⟩ (roundEnd l K)
      | _ => False
    | _ => False

/-! ### a function that defers a call of a closure, which recovers -/
def isDeferO (o : Oper) : Bool := match o.op with | .defer _ => true | _ => false
def hasDefer : Code → Bool
  | .seq a b => hasDefer a || hasDefer b
  | .region _ ops _ => ops.toList.any isDeferO
  | _ => false

abbrev DI := Option (FuncId × List AV)

/-- Code up to, and behind, the place where the call is deferred. -/
def dfrK (C : Ctx) (E : Env) (L : LoopSem) : Code → St → (DI → AExit → St → Prop) → Prop
  | .seq a b, st, K => @cond Prop (hasDefer a)
      (dfrK C E L a st fun d e st' => match e with | .normal => codeK C E L none b st' (K d) | e => K d e st')
      (codeK C E L none a st (thenA (fun st' => dfrK C E L b st' K) (K none)))
  | .region _ ops false, ⟨tm, nt, [], h⟩, K => match ops.toList with
    | [o1, o2] => match o1.op, o1.dst, o1.guard, o2.op, o2.dst, o2.guard with
      | .makeFunc (.func g) a b, some d, none, .defer ⟨.value (.tmp d'), cargs, _⟩, none, none =>
        assertB (Nat.beq d d' && Nat.beq a.toList.length 0 && Nat.beq cargs.toList.length 0) <|
          mapK (rhoOf C tm) b.toList fun cap => putTm nt tm (some d) (.func (.func g) [] cap) fun tm' => K (some (g, cap)) .normal ⟨tm', nt, [], h⟩
      | _, _, _, _, _, _ => False
    | _ => False
  | _, _, _ => False

/-- The deferred closure's code: recover comes first. 'md': what the function panics with, if it does. -/
def recK (C : Ctx) (E : Env) (L : LoopSem) (md : Option AV) : Code → St → (AExit → St → Prop) → Prop
  | .seq a b, st, K => recK C E L md a st (thenA (fun st' => codeK C E L none b st' K) K)
  | .region _ ops false, ⟨tm, nt, df, h⟩, K => match ops.toList with
    | [o1, o2] => match o1.op, o1.dst, o1.guard, o2.op, o2.dst, o2.guard with
      | .call ⟨.builtin .recover, _, _⟩, some d, none, .assign (.tmp d'), some d2, none =>
        assertB (Nat.beq d d' && Nat.blt d nt && Nat.blt d2 nt) <| match md with
          | none => K .normal ⟨(d2, .nili) :: (d, .nili) :: tm, nt, df, h⟩
          | some v => K .normal ⟨(d2, v) :: (d, v) :: tm, nt, df, h⟩
      | _, _, _, _, _, _ => False
    | _ => False
  | _, _, _ => False

def recCall (C : Ctx) (E : Env) (L : LoopSem) (g : FuncId) (cap : List AV) (md : Option AV) (h : Heap) (K : Heap → Prop) : Prop :=
  optK C.P.funcs[g]? fun fn => optK fn.body fun body => lenN cap 0 fun na => assertB (Nat.ble na fn.ntmps) <|
    recK C E L md body ⟨bindArgs 0 cap, fn.ntmps, [], h⟩ fun e st => match st with
      | ⟨tm, _, df, h1⟩ => match e, df with
        | .normal, [] => resultsK C fn tm h1 fun _ => K h1
        | .ret, [] => resultsK C fn tm h1 fun _ => K h1
        | _, _ => False

def dfrEnd (C : Ctx) (E : Env) (L : LoopSem) (fn : Func) (K KP : KR) : DI → AExit → St → Prop
  | none, e, st => callEnd C fn K KP e st
  | some (g, cap), e, ⟨tm, _, df, h1⟩ => match e, df with
    | .normal, [] => recCall C E L g cap none h1 fun h' => resultsK C fn tm h' fun v => K v h'
    | .ret, [] => recCall C E L g cap none h1 fun h' => resultsK C fn tm h' fun v => K v h'
    | .panic v, [] => recCall C E L g cap (some v) h1 fun h' => resultsK C fn tm h' fun v => K v h'
    | _, _ => False

def dfrCall (C : Ctx) (E : Env) (L : LoopSem) (f : FuncId) (args : List AV) (h : Heap) (K KP : KR) : Prop :=
  optK C.P.funcs[f]? fun fn => optK fn.body fun body => lenN args 0 fun na => assertB (Nat.ble na fn.ntmps) <|
    dfrK C E L body ⟨bindArgs 0 args, fn.ntmps, [], h⟩ (dfrEnd C E L fn K KP)

/-- The machine, n calls deep. 'Γ': functions that are met by their specification. -/
def envN (C : Ctx) (Γ : FuncId → Option Spec) (L : Env → LoopSem) : Nat → Env
  | 0 => { call := fun _ _ _ _ _ => False, round := fun _ _ _ _ => False }
  | n + 1 =>
    let E := envN C Γ L n
    { call := fun f args h K KP =>
        match Γ f with
        | some s => s args h K KP
        | none => optK C.P.funcs[f]? fun fn => optK fn.body fun body => lenN args 0 fun na => assertB (Nat.ble na fn.ntmps) <|
            codeK C E (L E) none body ⟨bindArgs 0 args, fn.ntmps, [], h⟩ (callEnd C fn K KP)
      round := fun l args h K => h.getK l fun
        | .loop _ _ tm nt ps assign body _ => roundTm ps args nt tm fun tm1 =>
          codeK C E (L E) (some l) assign ⟨tm1, nt, [], h⟩ (roundMid C E (L E) l body K)
        | _ => False }

end Go.Am
