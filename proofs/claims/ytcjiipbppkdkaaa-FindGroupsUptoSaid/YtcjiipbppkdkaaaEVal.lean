/- The engine, part 1: an evaluator of Go code over plain data (numbers, truths, texts, lists, tuples), with what it keeps of memory: objects under numbers. -/
import Derived.Control
import Derived.KernelRfl
import Derived.Laws.FloatArith
namespace Go.Proofs.Ytcjiipbppkdkaaa.Eng
open Go
set_option linter.unusedVariables false
inductive Ty where
 | int (k : IntKind) | bool | str | flt | pt | sl (e : Ty) | nil | cons (a b : Ty) | mu (e : Ty)
 deriving DecidableEq
def Ty.den : Ty → Type
 | .int _ => Int
 | .bool => Bool
 | .str => ByteArray
 | .flt => Nat
 | .pt => Unit
 | .sl e => List e.den
 | .nil => Unit
 | .cons a b => a.den × b.den
 | .mu e => e.den
def Ty.isMu : Ty → Bool
 | .mu _ => true
 | _ => false
def Ty.flat : Ty → Bool
 | .int _ => true
 | .bool => true
 | .str => true
 | .flt => true
 | .nil => true
 | .cons a b => match a.flat with | true => b.flat | false => false
 | _ => false
def Ty.muOk : Ty → Bool
 | .mu e => e.flat
 | _ => true
def Ty.n : Ty → Nat
 | .nil => 0
 | .cons a b => a.n + b.n
 | .mu e => e.n
 | _ => 1
inductive CV where
 | top | und
 | int (k : IntKind) (n : Int) | bool (b : Bool) | str (s : ByteArray) | flt (n : Nat)
 | sl (T : Ty) (l : List T.den)
 | elt (T : Ty) (x : T.den) (off : Nat)
 | own (o ver : Nat) | ptr (o off : Nat) | nilp | nils | map (o : Nat)
 | pidx (o off n : Nat) (k : IntKind) (j : Int) | asl (o off len : Nat)
 | mapd (l : List (ByteArray × ByteArray)) | nilm | qnil (e : Bool)
 | psl (l : List (Nat × Nat)) | prow (o ver : Nat) (l : List (Nat × Nat)) | pelt (o off : Nat)
 | fn (f : Nat) | clo (f : Nat) (l : List (Nat × Nat))
 | mptr (o ver : Nat) (i : Int) (off : Nat) | part (o ver a n : Nat)
 | agg (l : List CV) | tup (l : List CV)
def fnan (b : Nat) : Bool := Nat.blt 9218868437227405312 (b % 9223372036854775808)
def fcan (b : Nat) : Nat := match fnan b with | true => 9221120237041090561 | false => b
def fres : Option Nat → Nat
 | some r => fcan r
 | none => 9221120237041090561
def fadd (a b : Nat) : Nat := fres (Ieee.double.add a b)
def fsub (a b : Nat) : Nat := fres (Ieee.double.sub a b)
def fmul (a b : Nat) : Nat := fres (Ieee.double.mul a b)
def fdiv (a b : Nat) : Nat := fres (Ieee.double.div a b)
def feq (a b : Nat) : Bool := Ieee.double.order a b == some .eq
def flt' (a b : Nat) : Bool := Ieee.double.order a b == some .lt
def fgt (a b : Nat) : Bool := Ieee.double.order a b == some .gt
def fofi (n : Int) : Nat := fcan (FloatKind.f64.nearest n)
def ftrunc (a : Nat) : Nat := match fnan a with
 | true => 9221120237041090561
 | false => fcan (Ieee.double.write ((Ieee.double.read a).integral .zero))
inductive Ob where
 | cells (t : Nat) (l : List CV)
 | row (ver : Nat) (t : Nat) (T : Ty) (l : List T.den)
def lk {α : Type} : List (Nat × α) → Nat → Option α
 | [], _ => none
 | (j, v) :: r, i => match Nat.beq i j with | true => some v | false => lk r i
def memN : List Nat → Nat → Bool
 | [], _ => false
 | j :: r, i => match Nat.beq i j with | true => true | false => memN r i
def subN : List Nat → List Nat → Bool
 | [], _ => true
 | x :: r, l => match memN l x with | true => subN r l | false => false
def disN : List Nat → List Nat → Bool
 | [], _ => true
 | x :: r, l => match memN l x with | true => false | false => disN r l
def nodupN : List Nat → Bool
 | [] => true
 | x :: r => match memN r x with | true => false | false => nodupN r
structure St where
 env : List (Nat × CV)
 obj : List (Nat × Ob)
 used : List Nat
def CV.one : CV → Bool
 | .top => false
 | .und => false
 | .agg _ => false
 | .tup _ => false
 | .mapd _ => false
 | .mptr _ _ _ _ => false
 | .part _ _ _ _ => false
 | .qnil _ => false
 | _ => true
def okC (go : Nat → Option Ob) : CV → Bool
 | .own o v => match go o with
  | some (.row v' _ _ _) => Nat.beq v v'
  | _ => false
 | c => c.one
def allOne (go : Nat → Option Ob) : List CV → Bool
 | [] => true
 | c :: r => match okC go c with | true => allOne go r | false => false
def toC : (T : Ty) → T.den → List CV → List CV
 | .int k, n, r => .int k n :: r
 | .bool, b, r => .bool b :: r
 | .str, s, r => .str s :: r
 | .flt, n, r => .flt n :: r
 | .pt, _, r => .top :: r
 | .sl e, l, r => .sl e l :: r
 | .nil, _, r => r
 | .cons a b, x, r => toC a x.1 (toC b x.2 r)
 | .mu e, x, r => toC e x r
def asL (go : Nat → Option Ob) (T : Ty) : CV → Option (List T.den)
 | .sl T' l => if h : T' = T then some (h ▸ l) else none
 | .nils => some []
 | .own o v => match go o with
  | some (.row v' _ T' l) => match Nat.beq v v' with
   | true => match T'.isMu with
    | true => none
    | false => if h : T' = T then some (h ▸ l) else none
   | false => none
  | _ => none
 | .part o v a n => match go o with
  | some (.row v' _ T' l) => match Nat.beq v v' with
   | true => match T'.isMu with
    | true => none
    | false => if h : T' = T then some (((h ▸ l : List T.den).drop a).take n) else none
   | false => none
  | _ => none
 | _ => none
def muAt (go : Nat → Option Ob) (e : Ty) (t o v : Nat) : Option (List e.den) :=
 match go o with
 | some (.row v' t' (.mu e') l) => match Nat.beq v v' with
  | true => match Nat.beq t t' with
   | true => if h : e' = e then some (h ▸ l) else none
   | false => none
  | false => none
 | _ => none
def muV (go : Nat → Option Ob) (e : Ty) (t : Nat) : CV → Option (List e.den)
 | .own o v => muAt go e t o v
 | .part o v a n => match muAt go e t o v with | some l => some ((l.drop a).take n) | none => none
 | _ => none
def ofC (go : Nat → Option Ob) : (T : Ty) → List CV → Option (T.den × List CV)
 | .int k, .int k' n :: r => if k' = k then some (n, r) else none
 | .bool, .bool b :: r => some (b, r)
 | .str, .str s :: r => some (s, r)
 | .flt, .flt n :: r => some (n, r)
 | .sl e, c :: r => match asL go e c with | some l => some (l, r) | none => none
 | .nil, r => some ((), r)
 | .cons a b, r => match ofC go a r with
  | some (x, r) => match ofC go b r with
   | some (y, r) => some ((x, y), r)
   | none => none
  | none => none
 | _, _ => none
def fitD : (T : Ty) → Nat → CV → Bool
 | .int k, o, .int k' _ => Nat.beq o 0 && decide (k' = k)
 | .bool, o, .bool _ => Nat.beq o 0
 | .str, o, .str _ => Nat.beq o 0
 | .cons a b, o, c => match Nat.blt o a.n with | true => fitD a o c | false => fitD b (o - a.n) c
 | _, _, _ => false
def putD : (T : Ty) → Nat → CV → T.den → T.den
 | .int _, _, .int _ n, _ => n
 | .bool, _, .bool x, _ => x
 | .str, _, .str s, _ => s
 | .cons a b, o, c, x => match Nat.blt o a.n with | true => (putD a o c x.1, x.2) | false => (x.1, putD b (o - a.n) c x.2)
 | _, _, _, x => x
def CV.cells : CV → List CV
 | .agg l => l
 | v => [v]
inductive TK where
 | map (key elem : Nat)
 | int (k : IntKind) | bool | str | flt | slice (elem : Nat) | ptr (elem : Nat) | struct (fs : List (Nat × Nat × Nat)) | array (n elem : Nat) | other
structure TD where
 size : Nat
 bytes : Nat
 agg : Bool
 ty : Ty
 zero : List CV
 kind : TK
 cmp : Bool
abbrev TT := List (Nat × TD)
structure Dl where
 v : CV
 up : List (Nat × Option Ob)
structure Stp where
 α : Type
 o : Option α
 f : α → Dl
 rd : List Nat
 wr : List Nat
 cr : List Nat
def ck (b : Bool) : Option Unit := match b with | true => some () | false => none
def Stp.val (v : CV) : Stp := ⟨Unit, some (), fun _ => ⟨v, []⟩, [], [], []⟩
def Stp.if (b : Bool) (v : CV) : Stp := ⟨Unit, ck b, fun _ => ⟨v, []⟩, [], [], []⟩
def rdo {α : Type} (l : List α) (i : Int) : Option α := if 0 ≤ i then l[i.toNat]? else none
def bto (s : ByteArray) (i : Int) : Option Int := if 0 ≤ i then (s[i.toNat]?).map fun b => (b.toNat : Int) else none
def intBin (op : BinOp) (k : IntKind) (a b : Int) : Option Stp :=
 match op with
 | .add => some (.val (.int k (k.wrap (a + b))))
 | .sub => some (.val (.int k (k.wrap (a - b))))
 | .mul => some (.val (.int k (k.wrap (a * b))))
 | .quo => some (.if (!decide (b = 0)) (.int k (k.wrap (a.tdiv b))))
 | .rem => some (.if (!decide (b = 0)) (.int k (a.tmod b)))
 | .and => some (.val (.int k (k.wrap ((BitVec.ofInt k.bits a &&& BitVec.ofInt k.bits b).toNat))))
 | .or => some (.val (.int k (k.wrap ((BitVec.ofInt k.bits a ||| BitVec.ofInt k.bits b).toNat))))
 | .xor => some (.val (.int k (k.wrap ((BitVec.ofInt k.bits a ^^^ BitVec.ofInt k.bits b).toNat))))
 | .eql => some (.val (.bool (a == b)))
 | .neq => some (.val (.bool (a != b)))
 | .lss => some (.val (.bool (decide (a < b))))
 | .leq => some (.val (.bool (decide (a ≤ b))))
 | .gtr => some (.val (.bool (decide (a > b))))
 | .geq => some (.val (.bool (decide (a ≥ b))))
 | _ => none
def strBin (op : BinOp) (a b : ByteArray) : Option Stp :=
 match op with
 | .add => some (.if (decide (a.size + b.size ≤ 9223372036854775807)) (.str (a ++ b)))
 | .eql => some (.val (.bool (a.toList == b.toList)))
 | .neq => some (.val (.bool (!(a.toList == b.toList))))
 | .lss => some (.val (.bool (Op.bytesLess a.toList b.toList)))
 | .leq => some (.val (.bool (Op.bytesLess a.toList b.toList || a.toList == b.toList)))
 | .gtr => some (.val (.bool (!(Op.bytesLess a.toList b.toList || a.toList == b.toList))))
 | .geq => some (.val (.bool (!(Op.bytesLess a.toList b.toList))))
 | _ => none
def fltBin (op : BinOp) (a b : Nat) : Option Stp :=
 match op with
 | .add => some (.val (.flt (fadd a b)))
 | .sub => some (.val (.flt (fsub a b)))
 | .mul => some (.val (.flt (fmul a b)))
 | .quo => some (.val (.flt (fdiv a b)))
 | .eql => some (.val (.bool (feq a b)))
 | .neq => some (.val (.bool (!feq a b)))
 | .lss => some (.val (.bool (flt' a b)))
 | .leq => some (.val (.bool (flt' a b || feq a b)))
 | .gtr => some (.val (.bool (fgt a b)))
 | .geq => some (.val (.bool (fgt a b || feq a b)))
 | _ => none
def seqB (a b : ByteArray) : Bool := a == b
def mgetD (s : ByteArray) : List (ByteArray × ByteArray) → ByteArray
 | [] => ByteArray.empty
 | x :: r => match seqB s x.1 with | true => x.2 | false => mgetD s r
def mhas (s : ByteArray) : List (ByteArray × ByteArray) → Bool
 | [] => false
 | x :: r => match seqB s x.1 with | true => true | false => mhas s r
def mput (s v : ByteArray) : List (ByteArray × ByteArray) → List (ByteArray × ByteArray)
 | [] => [(s, v)]
 | x :: r => match seqB s x.1 with | true => (x.1, v) :: r | false => x :: mput s v r
def isMap : List CV → Option (List (ByteArray × ByteArray))
 | .mapd d :: [] => some d
 | _ => none
def eqC : List CV → List CV → Option Bool
 | [], [] => some true
 | .int k a :: x, .int k' b :: y => if k = k' then match eqC x y with | some r => some (a == b && r) | none => none else none
 | .bool a :: x, .bool b :: y => match eqC x y with | some r => some (a == b && r) | none => none
 | .str a :: x, .str b :: y => match eqC x y with | some r => some (seqB a b && r) | none => none
 | _, _ => none
def sameK : List CV → List CV → Bool
 | [], [] => true
 | .int k _ :: x, .int k' _ :: y => if k = k' then sameK x y else false
 | .bool _ :: x, .bool _ :: y => sameK x y
 | .str _ :: x, .str _ :: y => sameK x y
 | _, _ => false
def nilE {α : Type} : List α → Bool
 | [] => true
 | _ :: _ => false
def kindOf (tt : TT) (t : Nat) : Option TK := match lk tt t with | some d => some d.kind | none => none
def eqRes (op : BinOp) (r : Bool) : Option Stp :=
 match op with
 | .eql => some (.val (.bool r))
 | .neq => some (.val (.bool (!r)))
 | _ => none
def bin (tt : TT) (op : BinOp) (t : Nat) : CV → CV → Option Stp
 | .int k a, .int k' b => match op with
  | .shl => some (.if (!decide (b < 0)) (.int k (k.wrap (a * 2 ^ (min b.toNat k.bits)))))
  | .shr => some (.if (!decide (b < 0)) (.int k (a.fdiv (2 ^ (min b.toNat k.bits)))))
  | _ => if k = k' then intBin op k a b else none
 | .str a, .str b => strBin op a b
 | .flt a, .flt b => fltBin op a b
 | .bool a, .bool b => match kindOf tt t with
  | some .bool => eqRes op (a == b)
  | _ => none
 | .ptr _ _, .nilp => match kindOf tt t with
  | some (.ptr _) => eqRes op false
  | _ => none
 | .nilp, .nilp => match kindOf tt t with
  | some (.ptr _) => eqRes op true
  | _ => none
 | .map _, .nilm => match kindOf tt t with
  | some (.map _ _) => eqRes op false
  | _ => none
 | .nilm, .nilm => match kindOf tt t with
  | some (.map _ _) => eqRes op true
  | _ => none
 | .sl _ l, .nils => match kindOf tt t with
  | some (.slice _) => match op with
   | .eql => some (.val (.qnil (nilE l)))
   | _ => none
  | _ => none
 | .agg a, .agg b => match lk tt t with
  | some d => match d.cmp && sameK d.zero a with
   | true => match eqC a b with
    | some r => eqRes op r
    | none => none
   | false => none
  | none => none
 | _, _ => none
def pickV (c : Bool) : CV → CV → Option CV
 | .bool a, .bool b => some (.bool (match c with | true => a | false => b))
 | .int k a, .int k' b => if k = k' then some (.int k (match c with | true => a | false => b)) else none
 | .str a, .str b => some (.str (match c with | true => a | false => b))
 | _, _ => none
def operand (env : List (Nat × CV)) : Operand → CV
 | .tmp t => match lk env t with | some v => v | none => .top
 | .const (.int k n) => .int k n
 | .const (.bool b) => .bool b
 | .const (.string s) => .str s
 | .const (.float .f64 n) => .flt (fcan n)
 | .const (.pointer none) => .nilp
 | .const (.slice none 0 0) => .nils
 | .const (.map none) => .nilm
 | .func f => .fn f
 | _ => .top
def dropL : Nat → List CV → List CV
 | 0, l => l
 | n + 1, _ :: l => dropL n l
 | _ + 1, [] => []
def takeL : Nat → List CV → Option (List CV)
 | 0, _ => some []
 | n + 1, x :: l => match takeL n l with | some r => some (x :: r) | none => none
 | _ + 1, [] => none
def putL : Nat → List CV → List CV → Option (List CV)
 | 0, [], l => some l
 | 0, c :: cs, _ :: l => match putL 0 cs l with | some r => some (c :: r) | none => none
 | 0, _ :: _, [] => none
 | n + 1, cs, x :: l => match putL n cs l with | some r => some (x :: r) | none => none
 | _ + 1, _, [] => none
def asVal (agg : Bool) (l : List CV) : Option CV :=
 match agg with
 | true => some (.agg l)
 | false => match l with | [v] => some v | _ => none
def lenV (go : Nat → Option Ob) (k : Option TK) : CV → Option Int
 | .str s => match k with | some .str => some (s.size : Int) | _ => none
 | .sl _ l => match k with | some (.slice _) => some (l.length : Int) | _ => none
 | .nils => match k with | some (.slice _) => some 0 | _ => none
 | .own o v => match k with
  | some (.slice _) => match go o with
   | some (.row v' _ _ l) => match Nat.beq v v' with | true => some (l.length : Int) | false => none
   | _ => none
  | _ => none
 | .part o v _ n => match k with
  | some (.slice _) => match go o with
   | some (.row v' _ _ _) => match Nat.beq v v' with | true => some (n : Int) | false => none
   | _ => none
  | _ => none
 | .map o => match k with
  | some (.map _ _) => match go o with
   | some (.cells _ l) => match isMap l with
    | some d => some (d.length : Int)
    | none => none
   | _ => none
  | _ => none
 | _ => none
def denL (go : Nat → Option Ob) (T : Ty) : Nat → List CV → Option (List T.den)
 | 0, [] => some []
 | m + 1, cs => match ofC go T cs with
  | some (x, r) => match denL go T m r with | some l => some (x :: l) | none => none
  | none => none
 | _, _ => none
def bytesOf (s : ByteArray) : List Int := s.data.toList.map fun b => (b.toNat : Int)
def strOf (l : List Int) : ByteArray := ⟨(l.map fun n => UInt8.ofNat n.toNat).toArray⟩
inductive SSh where
 | mark | cst (k : IntKind) (n : Int) | psl (l : List (Nat × Nat)) | prow (c t : Nat) (l : List (Nat × Nat)) | val (T : Ty) | own (c t : Nat) (T : Ty) | ptr (p off : Nat) | nilp | nils | top | mref (p : Nat) | mapd | clo (f : Nat) (l : List (Nat × Nat))
def MARK : Nat := 99999999
structure LSh where
 slots : List (Nat × SSh)
 objs : List (Nat × Nat × List SSh)
def SSh.den : SSh → Type
 | .val T => T.den
 | .own _ _ T => List T.den
 | .mapd => List (ByteArray × ByteArray)
 | _ => Unit
def denS : List SSh → Type
 | [] => Unit
 | s :: r => s.den × denS r
def denE : List (Nat × SSh) → Type
 | [] => Unit
 | s :: r => s.2.den × denE r
def denO : List (Nat × Nat × List SSh) → Type
 | [] => Unit
 | s :: r => denS s.2.2 × denO r
def LSh.den (s : LSh) : Type := denE s.slots × denO s.objs
def asCV : (T : Ty) → T.den → CV
 | .int k, n => .int k n
 | .bool, b => .bool b
 | .str, s => .str s
 | .flt, n => .flt n
 | .pt, _ => .top
 | .sl e, l => .sl e l
 | .nil, _ => .agg []
 | .cons a b, x => .agg (toC a x.1 (toC b x.2 []))
 | .mu e, x => .agg (toC e x [])
def mkV : (s : SSh) → s.den → CV
 | .val T, x => asCV T x
 | .own c _ _, _ => .own c 0
 | .ptr p off, _ => .ptr p off
 | .nilp, _ => .nilp
 | .nils, _ => .nils
 | .top, _ => .top
 | .mark, _ => .top
 | .cst k n, _ => .int k n
 | .psl l, _ => .psl l
 | .prow c _ l, _ => .prow c 0 l
 | .mref p, _ => .map p
 | .mapd, x => .mapd x
 | .clo f l, _ => .clo f l
def mkC : (s : SSh) → s.den → List CV → List CV
 | .val T, x, r => toC T x r
 | s, x, r => mkV s x :: r
def units : Nat → List Unit
 | 0 => []
 | n + 1 => () :: units n
def lenP : List (Nat × Nat) → Nat
 | [] => 0
 | _ :: r => lenP r + 1
def mkR : (s : SSh) → s.den → List (Nat × Ob) → List (Nat × Ob)
 | .own c t T, l, r => (c, .row 0 t T l) :: r
 | .prow c t l, _, r => (c, .row 0 t .pt (units (lenP l))) :: r
 | _, _, r => r
def mkEnv : (l : List (Nat × SSh)) → denE l → List (Nat × CV)
 | [], _ => []
 | s :: r, d => (s.1, mkV s.2 d.1) :: mkEnv r d.2
def mkRows : (l : List (Nat × SSh)) → denE l → List (Nat × Ob) → List (Nat × Ob)
 | [], _, o => o
 | s :: r, d, o => mkR s.2 d.1 (mkRows r d.2 o)
def mkCells : (l : List SSh) → denS l → List CV
 | [], _ => []
 | s :: r, d => mkC s d.1 (mkCells r d.2)
def mkCRows : (l : List SSh) → denS l → List (Nat × Ob) → List (Nat × Ob)
 | [], _, o => o
 | s :: r, d, o => mkR s d.1 (mkCRows r d.2 o)
def mkObjs : (l : List (Nat × Nat × List SSh)) → denO l → List (Nat × Ob)
 | [], _ => []
 | s :: r, d => (s.1, .cells s.2.1 (mkCells s.2.2 d.1)) :: mkCRows s.2.2 d.1 (mkObjs r d.2)
def LSh.env (s : LSh) (d : s.den) : List (Nat × CV) := mkEnv s.slots d.1
def LSh.obj (s : LSh) (d : s.den) : List (Nat × Ob) := mkRows s.slots d.1 (mkObjs s.objs d.2)
def keysOf {α : Type} : List (Nat × α) → List Nat
 | [] => []
 | x :: r => x.1 :: keysOf r
def SSh.refs : SSh → List Nat
 | .own c _ _ => [c]
 | .ptr p _ => [p]
 | .mref p => [p]
 | .clo _ l => keysOf l
 | .psl l => keysOf l
 | .prow c _ l => c :: keysOf l
 | .mark => [MARK]
 | _ => []
def refsE : List (Nat × SSh) → List Nat
 | [] => []
 | s :: r => s.2.refs ++ refsE r
def refsS : List SSh → List Nat
 | [] => []
 | s :: r => s.refs ++ refsS r
def refsO : List (Nat × Nat × List SSh) → List Nat
 | [] => []
 | s :: r => refsS s.2.2 ++ refsO r
def LSh.refs (s : LSh) : List Nat := refsE s.slots ++ refsO s.objs
def LSh.st (s : LSh) (ps : List Nat) (d : s.den) : St := ⟨s.env d, s.obj d, s.refs ++ ps⟩
def lenN {α : Type} : List α → Nat
 | [] => 0
 | _ :: r => lenN r + 1
abbrev Rho := List (Nat × Option Nat)
def inRange : Rho → Nat → Bool
 | [], _ => false
 | (_, some o) :: r, i => match Nat.beq o i with | true => true | false => inRange r i
 | (_, none) :: r, i => inRange r i
def bindP (ρ : Rho) (p o : Nat) : Option Rho :=
 match lk ρ p with
 | some (some o') => match Nat.beq o' o with | true => some ρ | false => none
 | some none => none
 | none => match inRange ρ o with | true => none | false => some ((p, some o) :: ρ)
def bindL : Rho → List (Nat × Nat) → List (Nat × Nat) → Option Rho
 | ρ, [], [] => some ρ
 | ρ, (p, off) :: r, (o, off') :: r' => match Nat.beq off off' with
  | true => match bindP ρ p o with | some ρ => bindL ρ r r' | none => none
  | false => none
 | _, _, _ => none
def aggCells : Ty → CV → Option (List CV)
 | .nil, .agg l => some l
 | .cons _ _, .agg l => some l
 | .nil, _ => none
 | .cons _ _, _ => none
 | _, .agg _ => none
 | _, v => some [v]
def getV (go : Nat → Option Ob) (ρ : Rho) : (s : SSh) → CV → Option (s.den × Rho)
 | .val T, v => match aggCells T v with
  | some cs => match ofC go T cs with
   | some (x, []) => some (x, ρ)
   | _ => none
  | none => none
 | .own c t T, v => match v with
  | .nils => match lk ρ c with | none => some (([] : List T.den), (c, none) :: ρ) | some _ => none
  | .own o ver => match go o with
   | some (.row ver' t' T' l) => match Nat.beq ver ver' with
    | true => match Nat.beq t t' with
     | true => if h : T' = T then match bindP ρ c o with | some ρ => some ((h ▸ l : List T.den), ρ) | none => none else none
     | false => none
    | false => none
   | _ => none
  | _ => none
 | .ptr p off, v => match v with
  | .ptr o off' => match Nat.beq off off' with
   | true => match bindP ρ p o with | some ρ => some ((), ρ) | none => none
   | false => none
  | _ => none
 | .nilp, v => match v with | .nilp => some ((), ρ) | _ => none
 | .nils, v => match v with | .nils => some ((), ρ) | _ => none
 | .top, v => match v with | .mapd _ => none | _ => some ((), ρ)
 | .mark, v => match v with | .mapd _ => none | _ => some ((), ρ)
 | .cst k n, v => match v with
  | .int k' n' => if k' = k then match n' == n with | true => some ((), ρ) | false => none else none
  | _ => none
 | .psl l, v => match v with
  | .psl l' => match bindL ρ l l' with | some ρ => some ((), ρ) | none => none
  | .prow _ _ l' => match bindL ρ l l' with | some ρ => some ((), ρ) | none => none
  | .nils => match l with | [] => some ((), ρ) | _ :: _ => none
  | _ => none
 | .prow c t l, v => match v with
  | .nils => match l with
   | [] => match lk ρ c with | none => some ((), (c, none) :: ρ) | some _ => none
   | _ :: _ => none
  | .prow o ver l' => match go o with
   | some (.row ver' t' T' lu) => match Nat.beq ver ver' && Nat.beq t t' && Nat.beq (lenN lu) (lenP l) with
    | true => if T' = .pt then match bindP ρ c o with
     | some ρ => match bindL ρ l l' with | some ρ => some ((), ρ) | none => none
     | none => none else none
    | false => none
   | _ => none
  | _ => none
 | .mref p, v => match v with
  | .map o => match bindP ρ p o with | some ρ => some ((), ρ) | none => none
  | _ => none
 | .mapd, v => match v with | .mapd d => some (d, ρ) | _ => none
 | .clo f l, v => match v with
  | .clo f' l' => match Nat.beq f f' with
   | true => match bindL ρ l l' with | some ρ => some ((), ρ) | none => none
   | false => none
  | .fn f' => match Nat.beq f f' with
   | true => match l with | [] => some ((), ρ) | _ :: _ => none
   | false => none
  | _ => none
def getC (go : Nat → Option Ob) (ρ : Rho) : (s : SSh) → List CV → Option (s.den × List CV × Rho)
 | .val T, l => match ofC go T l with
  | some (x, r) => some (x, r, ρ)
  | none => none
 | s, v :: r => match getV go ρ s v with
  | some (x, ρ) => some (x, r, ρ)
  | none => none
 | _, [] => none
def getEnv (go : Nat → Option Ob) (env : List (Nat × CV)) : (l : List (Nat × SSh)) → Rho → Option (denE l × Rho)
 | [], ρ => some ((), ρ)
 | s :: r, ρ => match lk env s.1 with
  | none => none
  | some v => match getV go ρ s.2 v with
   | none => none
   | some (x, ρ) => match getEnv go env r ρ with
    | none => none
    | some (d, ρ) => some ((x, d), ρ)
def getCells (go : Nat → Option Ob) : (l : List SSh) → List CV → Rho → Option (denS l × Rho)
 | [], [], ρ => some ((), ρ)
 | [], _ :: _, _ => none
 | s :: r, cs, ρ => match getC go ρ s cs with
  | none => none
  | some (x, cs, ρ) => match getCells go r cs ρ with
   | none => none
   | some (d, ρ) => some ((x, d), ρ)
def getObjs (go : Nat → Option Ob) : (l : List (Nat × Nat × List SSh)) → Rho → Option (denO l × Rho)
 | [], ρ => some ((), ρ)
 | s :: r, ρ => match lk ρ s.1 with
  | some (some o) => match go o with
   | some (.cells t cs) => match Nat.beq t s.2.1 with
    | true => match getCells go s.2.2 cs ρ with
     | none => none
     | some (x, ρ) => match getObjs go r ρ with
      | none => none
      | some (d, ρ) => some ((x, d), ρ)
    | false => none
   | _ => none
  | _ => none
def LSh.get (s : LSh) (go : Nat → Option Ob) (env : List (Nat × CV)) (ρ : Rho) : Option (s.den × Rho) :=
 match getEnv go env s.slots ρ with
 | none => none
 | some (d, ρ) => match getObjs go s.objs ρ with
  | none => none
  | some (d', ρ) => some ((d, d'), ρ)
structure Spec where
 ini : LSh
 out : LSh
 nres : Nat
 ro : List Nat
 ks : List Nat
 fn : ini.den → Option out.den
 nd : Bool
def zipI : Nat → List CV → List (Nat × CV)
 | _, [] => []
 | i, v :: r => (i, v) :: zipI (i + 1) r
def ren (ρ : Rho) (base : Nat) (p : Nat) : Nat := match lk ρ p with | some (some o) => o | _ => base + p
def rver (go : Nat → Option Ob) (ρ : Rho) (ks : List Nat) (p : Nat) : Nat := match lk ρ p with
 | some (some o) => match go o with | some (.row v _ _ _) => (match memN ks p with | true => v | false => v + 1) | _ => 0
 | _ => 0
def renP (ρ : Rho) (b : Nat) : List (Nat × Nat) → List (Nat × Nat)
 | [] => []
 | (p, off) :: r => (ren ρ b p, off) :: renP ρ b r
def renV (go : Nat → Option Ob) (ρ : Rho) (ks : List Nat) (b : Nat) : CV → CV
 | .ptr p off => .ptr (ren ρ b p) off
 | .map p => .map (ren ρ b p)
 | .own p _ => .own (ren ρ b p) (rver go ρ ks p)
 | .clo f l => .clo f (renP ρ b l)
 | .psl l => .psl (renP ρ b l)
 | .prow p _ l => .prow (ren ρ b p) (rver go ρ ks p) (renP ρ b l)
 | .pelt p off => .pelt (ren ρ b p) off
 | v => v
def renL (go : Nat → Option Ob) (ρ : Rho) (ks : List Nat) (b : Nat) : List CV → List CV
 | [] => []
 | v :: r => renV go ρ ks b v :: renL go ρ ks b r
def renB (go : Nat → Option Ob) (ρ : Rho) (ks : List Nat) (b p : Nat) : Ob → Ob
 | .cells t l => .cells t (renL go ρ ks b l)
 | .row _ t T l => .row (rver go ρ ks p) t T l
def renO (go : Nat → Option Ob) (ρ : Rho) (ks : List Nat) (b : Nat) : List (Nat × Ob) → List (Nat × Option Ob)
 | [] => []
 | (p, o) :: r => (ren ρ b p, some (renB go ρ ks b p o)) :: renO go ρ ks b r
def valsE : List (Nat × CV) → List CV
 | [] => []
 | (_, v) :: r => v :: valsE r
def headV : List CV → CV
 | [] => .und
 | v :: _ => v
def firstN {α : Type} : Nat → List α → List α
 | 0, _ => []
 | _ + 1, [] => []
 | n + 1, x :: r => x :: firstN n r
def asRes (n : Nat) (l : List CV) : CV := match Nat.beq n 1 with | true => headV l | false => .tup (firstN n l)
def rhoIds : Rho → List Nat
 | [] => []
 | (_, some o) :: r => o :: rhoIds r
 | (_, none) :: r => rhoIds r
def renIds (ρ : Rho) (b : Nat) : List Nat → List Nat
 | [] => []
 | p :: r => ren ρ b p :: renIds ρ b r
def newIds (ρ : Rho) (b : Nat) : List Nat → List Nat
 | [] => []
 | p :: r => match lk ρ p with | some (some _) => newIds ρ b r | _ => (b + p) :: newIds ρ b r
def ownIds : List (Nat × SSh) → List Nat
 | [] => []
 | (_, .own c _ _) :: r => c :: ownIds r
 | (_, .prow c _ _) :: r => c :: ownIds r
 | _ :: r => ownIds r
def ownIdsS : List SSh → List Nat
 | [] => []
 | .own c _ _ :: r => c :: ownIdsS r
 | .prow c _ _ :: r => c :: ownIdsS r
 | _ :: r => ownIdsS r
def ownIdsO : List (Nat × Nat × List SSh) → List Nat
 | [] => []
 | s :: r => s.1 :: (ownIdsS s.2.2 ++ ownIdsO r)
def LSh.ids (s : LSh) : List Nat := ownIds s.slots ++ ownIdsO s.objs
def cellIds : List (Nat × Nat × List SSh) → List Nat
 | [] => []
 | s :: r => s.1 :: cellIds r
def rowIds : List (Nat × Nat × List SSh) → List Nat
 | [] => []
 | s :: r => ownIdsS s.2.2 ++ rowIds r
def kindR (go : Nat → Option Ob) (ρ : Rho) : List Nat → Bool
 | [] => true
 | p :: r => match lk ρ p with
  | some (some o) => match go o with
   | some (.row _ _ _ _) => kindR go ρ r
   | _ => false
  | _ => kindR go ρ r
def kindC (go : Nat → Option Ob) (ρ : Rho) : List Nat → Bool
 | [] => true
 | p :: r => match lk ρ p with
  | some (some o) => match go o with
   | some (.cells _ _) => kindC go ρ r
   | _ => false
  | some none => false
  | none => kindC go ρ r
def callBase (dst : Option Nat) : Nat := 100000000 * ((match dst with | some d => d | none => 0) + 1)
def callStep (go : Nat → Option Ob) (dst : Option Nat) (sp : Spec) (args : List CV) : Option Stp :=
 match sp.ini.get go (zipI 0 args) [] with
 | none => none
 | some (d, ρ) =>
  match kindR go ρ (ownIds sp.out.slots ++ rowIds sp.out.objs) && kindC go ρ (cellIds sp.out.objs) && Nat.beq (lenN args) (lenN sp.ini.slots) with
  | false => none
  | true => some ⟨sp.out.den, sp.fn d, fun r => ⟨asRes sp.nres (renL go ρ sp.ks (callBase dst) (valsE (sp.out.env r))), renO go ρ sp.ks (callBase dst) (sp.out.obj r)⟩, rhoIds ρ, renIds ρ (callBase dst) sp.out.ids, newIds ρ (callBase dst) sp.out.ids⟩
def firstStep : List Spec → (Spec → Option Stp) → Option Stp
 | [], _ => none
 | s :: r, f => match f s with | some x => some x | none => firstStep r f
abbrev Gam := List (Nat × List Spec)
def objIds : CV → List Nat
 | .own o _ => [o]
 | .ptr o _ => [o]
 | .map o => [o]
 | .pidx o _ _ _ _ => [o]
 | .asl o _ _ => [o]
 | .clo _ l => keysOf l
 | .psl l => keysOf l
 | .prow o _ l => o :: keysOf l
 | .pelt o _ => [o]
 | .mptr o _ _ _ => [o]
 | .part o _ _ _ => [o]
 | _ => []
def structOf (tt : TT) (t : Nat) : Option (TD × List (Nat × Nat × Nat)) :=
 match lk tt t with
 | some d => match d.kind with | .struct fs => some (d, fs) | _ => none
 | none => none
def sliceOf (tt : TT) (t : Nat) : Option (Nat × TD) :=
 match lk tt t with
 | some d => match d.kind with
  | .slice e => match lk tt e with
   | some de => match Nat.beq de.size de.ty.n && Nat.ble 1 de.bytes && !de.ty.isMu with | true => some (e, de) | false => none
   | none => none
  | _ => none
 | none => none
def nth {α : Type} : List α → Nat → Option α
 | [], _ => none
 | x :: _, 0 => some x
 | _ :: r, n + 1 => nth r n
def arrOf (tt : TT) (t : Nat) : Option (TD × Nat × Nat × TD) :=
 match lk tt t with
 | some d => match d.kind with
  | .array n e => match lk tt e with
   | some de => match Nat.ble 1 de.size with | true => some (d, n, e, de) | false => none
   | none => none
  | _ => none
 | none => none
def arrFs (e size : Nat) : Nat → Nat → List (Nat × Nat × Nat)
 | 0, _ => []
 | n + 1, off => (off, e, size) :: arrFs e size n (off + size)
def placesOf (tt : TT) (t : Nat) : Option (TD × List (Nat × Nat × Nat)) :=
 match structOf tt t with
 | some r => some r
 | none => match arrOf tt t with
  | some (d, n, e, de) => some (d, arrFs e de.size n 0)
  | none => none
def constIx : Operand → Option Nat
 | .const (.int _ n) => match n with | .ofNat m => some m | .negSucc _ => none
 | _ => none
def constBd : Option Operand → Nat → Option Nat
 | none, d => some d
 | some x, _ => constIx x
def intsK (k : IntKind) : List CV → Option (List Int)
 | [] => some []
 | .int k' n :: r => if k' = k then match intsK k r with | some l => some (n :: l) | none => none else none
 | _ :: _ => none
def setK (k : IntKind) (j v : Int) : Nat → List Int → List CV
 | _, [] => []
 | m, n :: r => .int k (match j == (m : Int) with | true => v | false => n) :: setK k j v (m + 1) r
def buildC (go : Nat → Option Ob) (fs : List (Nat × Nat × Nat)) (env : List (Nat × CV)) : List (Nat × Operand) → List CV → Option (List CV)
 | [], cs => some cs
 | (i, x) :: r, cs => match nth fs i with
  | some (off, _, n) => match Nat.beq (lenN (operand env x).cells) n with
   | true => match allOne go (operand env x).cells with
    | true => match putL off (operand env x).cells cs with
     | some cs => buildC go fs env r cs
     | none => none
    | false => none
   | false => none
  | none => none
def seqParts (go : Nat → Option Ob) (size : Nat) (env : List (Nat × CV)) : Nat → List (Nat × Operand) → Option (List CV)
 | _, [] => some []
 | i, (j, x) :: r => match Nat.beq j i with
  | true => match Nat.beq (lenN (operand env x).cells) size with
   | true => match allOne go (operand env x).cells with
    | true => match seqParts go size env (i + 1) r with
     | some l => some ((operand env x).cells ++ l)
     | none => none
    | false => none
   | false => none
  | false => none
def mapOf (tt : TT) (t : Nat) : Bool :=
 match kindOf tt t with
 | some (.map k e) => match kindOf tt k with
  | some .str => match lk tt e with
   | some de => match de.kind, de.zero with
    | .str, [.str s] => Nat.beq s.size 0
    | _, _ => false
   | none => false
  | _ => false
 | _ => false
def sliceBd (x : Option CV) (d : Int) : Option Int :=
 match x with
 | none => some d
 | some (.int _ n) => some n
 | some _ => none
def sliceStep (go : Nat → Option Ob) (tt : TT) (t : Nat) (x : CV) (lo hi mx : Option CV) : Option Stp :=
 match x, mx with
 | .str s, none => match kindOf tt t, sliceBd lo 0, sliceBd hi s.size with
  | some .str, some l, some h => some ⟨Unit, ck (decide (0 ≤ l) && decide (l ≤ h) && decide (h ≤ (s.size : Int))), fun _ => ⟨.str (s.extract l.toNat h.toNat), []⟩, [], [], []⟩
  | _, _, _ => none
 | x, _ => match sliceOf tt t with
  | some (e, de) => match asL go de.ty x with
   | some l => match sliceBd lo 0, sliceBd hi l.length, mx with
    | some a, some h, none => some ⟨Unit, ck (decide (0 ≤ a) && decide (a ≤ h) && decide (h ≤ (l.length : Int))), fun _ => ⟨.sl de.ty ((l.take h.toNat).drop a.toNat), []⟩, objIds x, [], []⟩
    | some a, some h, some (.int _ m) => match hi with
     | some _ => some ⟨Unit, ck (decide (0 ≤ a) && decide (a ≤ h) && decide (h ≤ m) && decide (m ≤ (l.length : Int))), fun _ => ⟨.sl de.ty ((l.take h.toNat).drop a.toNat), []⟩, objIds x, [], []⟩
     | none => none
    | _, _, _ => none
   | none => match x with
    | .own o v => match muAt go de.ty e o v with
     | some l => match sliceBd lo 0, sliceBd hi l.length, mx with
      | some a, some h, none => some ⟨Unit, ck (decide (0 ≤ a) && decide (a ≤ h) && decide (h ≤ (l.length : Int))), fun _ => ⟨.part o v a.toNat (h - a).toNat, []⟩, [o], [], []⟩
      | _, _, _ => none
     | none => none
    | _ => none
  | none => none
def convStep (go : Nat → Option Ob) (tt : TT) (dst : Option Nat) (t t' : Nat) (x : CV) : Option Stp :=
 match kindOf tt t, kindOf tt t' with
 | some ks, some kd => match kd, x with
  | .int k, .int _ n => some (.val (.int k (k.wrap n)))
  | .int k, .flt b => some ⟨Int, floatToIntVal .f64 b k, fun n => ⟨.int k n, []⟩, [], [], []⟩
  | .flt, .int _ n => some (.val (.flt (fofi n)))
  | .str, .str s => some (.val (.str s))
  | .str, x => match ks with
   | .slice e => match kindOf tt e with
    | some (.int .u8) => match asL go (.int .u8) x with
     | some l => some ⟨Unit, some (), fun _ => ⟨.str (strOf l), []⟩, objIds x, [], []⟩
     | none => match muV go (.int .u8) e x with
      | some l => some ⟨Unit, some (), fun _ => ⟨.str (strOf l), []⟩, objIds x, [], []⟩
      | none => none
    | _ => none
   | _ => none
  | .slice e, .str s => match lk tt e, dst with
   | some de, some i => match de.kind with
    | .int .u8 => some ⟨Unit, some (), fun _ => ⟨.own i 0, [(i, some (.row 0 e (.int .u8) (bytesOf s)))]⟩, [], [i], [i]⟩
    | _ => none
   | _, _ => none
  | _, _ => none
 | _, _ => none
def appSrc (go : Nat → Option Ob) (e : Nat) (de : TD) (x : CV) : Option (List de.ty.den) :=
 match x with
 | .str b => if h : Ty.int .u8 = de.ty then some (h ▸ bytesOf b : List de.ty.den) else none
 | x => match asL go de.ty x with
  | some l => some l
  | none => muV go de.ty e x
def muApp (go : Nat → Option Ob) (o v e : Nat) (T : Ty) (l m : List T.den) (bytes : Nat) (x : CV) : Option Stp :=
 match T.flat with
 | true => some ⟨Unit, ck (decide ((l.length + m.length) * bytes ≤ 70368744177664)), fun _ => ⟨.own o (v + 1), [(o, some (.row (v + 1) e (.mu T) (l ++ m)))]⟩, o :: objIds x, [o], []⟩
 | false => none
def appStep (go : Nat → Option Ob) (tt : TT) (dst : Option Nat) (t : Nat) (s x : CV) : Option Stp :=
 match sliceOf tt t, dst with
 | some (e, de), some i =>
  match appSrc go e de x with
  | none => none
  | some m => match s with
   | .nils => some ⟨Unit, ck (decide (m.length * de.bytes ≤ 70368744177664)), fun _ => ⟨.own i 0, [(i, some (.row 0 e de.ty m))]⟩, objIds x, [i], [i]⟩
   | .own o v => match go o with
    | some (.row v' t' T l) => match Nat.beq v v' && Nat.beq t' e with
     | true => if h : T = de.ty then
       some ⟨Unit, ck (decide ((l.length + m.length) * de.bytes ≤ 70368744177664)), fun _ => ⟨.own o (v + 1), [(o, some (.row (v + 1) e de.ty ((h ▸ l : List de.ty.den) ++ m)))]⟩, o :: objIds x, [o], []⟩
      else match muAt go de.ty e o v with
       | some l => muApp go o v e de.ty l m de.bytes x
       | none => none
     | false => none
    | _ => none
   | .part o v a n => match Nat.beq a 0 with
    | true => match muAt go de.ty e o v with
     | some l => muApp go o v e de.ty (l.take n) m de.bytes x
     | none => none
    | false => none
   | _ => none
 | _, _ => none
def capP : List (Nat × Nat) → List CV
 | [] => []
 | (o, off) :: r => .ptr o off :: capP r
def capsOf (env : List (Nat × CV)) : List Operand → Option (List (Nat × Nat))
 | [] => some []
 | x :: r => match operand env x with
  | .ptr o off => match capsOf env r with | some l => some ((o, off) :: l) | none => none
  | _ => none
def minMax (lo : Bool) : List CV → Option Stp
 | [.int k x, .int k' y] => if k = k' then some (.val (.int k (match (match lo with | true => decide (y < x) | false => decide (y > x)) with | true => y | false => x))) else none
 | _ => none
def appOk : Option TK → CV → Bool
 | some .str, .str _ => true
 | some (.slice _), .sl _ _ => true
 | some (.slice _), .own _ _ => true
 | some (.slice _), .part _ _ _ _ => true
 | _, _ => false
def cutV (size : Nat) (agg : Bool) (off : Nat) (T : Ty) (y : T.den) : CV :=
 match takeL size (dropL off (toC T y [])) with
 | some cs => match asVal agg cs with
  | some v => v
  | none => .top
 | none => .top
def stMu (go : Nat → Option Ob) (d : TD) (o v v' t' : Nat) (e : Ty) (l : List e.den) (i : Int) (off : Nat) (c : CV) : Option Stp :=
 match Nat.beq v v' && e.flat && Nat.beq d.size 1 && Nat.blt 1 e.n && fitD e off c with
 | true => some ⟨e.den, rdo l i, fun z => ⟨.und, [(o, some (.row v t' (.mu e) (l.set i.toNat (putD e off c z))))]⟩, [o], [o], []⟩
 | false => match Nat.beq v v' && e.flat && Nat.beq off 0 && Nat.beq d.size e.n && allOne go c.cells with
  | true => match ofC go e c.cells with
   | some (y, []) => some ⟨Unit, some (), fun _ => ⟨.und, [(o, some (.row v t' (.mu e) (l.set i.toNat y)))]⟩, [o], [o], []⟩
   | _ => none
  | false => none
def step (tt : TT) (Γ : Gam) (env : List (Nat × CV)) (go : Nat → Option Ob) (dst : Option Nat) : Op → Option Stp
 | .move x => some (.val (operand env x))
 | .assign x => some (.val (operand env x))
 | .pick c a b => match operand env c with
  | .bool c => match pickV c (operand env a) (operand env b) with
   | some v => some (.val v)
   | none => match c with
    | true => some (.val (operand env a))
    | false => some (.val (operand env b))
  | _ => none
 | .alloc t => match lk tt t, dst with
  | some d, some i => some ⟨Unit, some (), fun _ => ⟨.ptr i 0, [(i, some (.cells t d.zero))]⟩, [], [i], [i]⟩
  | _, _ => none
 | .box t x => match lk tt t, dst with
  | some d, some i =>
   let cs := (operand env x).cells
   match allOne go cs with
   | true => some ⟨Unit, some (), fun _ => ⟨.ptr i 0, [(i, some (.cells t cs))]⟩, [], [i], [i]⟩
   | false => none
  | _, _ => none
 | .build t parts => match placesOf tt t with
  | some (d, fs) => match buildC (go) fs env parts.toList d.zero with
   | some cs => some (.val (.agg cs))
   | none => none
  | none => none
 | .buildSlice t len parts => match Nat.beq len 0 && Nat.beq (lenN parts.toList) 0 with
  | true => match sliceOf tt t, dst with
   | some (e, de), some i => some ⟨Unit, some (), fun _ => ⟨.own i 0, [(i, some (.row 0 e de.ty []))]⟩, [], [i], [i]⟩
   | _, _ => none
  | false => match sliceOf tt t, dst with
  | some (e, de), some i => match seqParts go de.size env 0 parts.toList with
   | some cs => match denL go de.ty len cs with
    | some l => match Nat.beq (lenN parts.toList) len && Nat.ble (len * de.size) 16777216 && Nat.ble 1 (len * de.size) with
     | true => some ⟨Unit, some (), fun _ => ⟨.own i 0, [(i, some (.row 0 e de.ty l))]⟩, [], [i], [i]⟩
     | false => none
    | none => none
   | none => none
  | _, _ => none
 | .load t a => match lk tt t with
  | some d => match operand env a with
   | .ptr o off => match go o with
    | some (.cells _ l) => match isMap l with
     | some _ => none
     | none => match takeL d.size (dropL off l) with
     | some cs => match asVal d.agg cs with
      | some v => some ⟨Unit, some (), fun _ => ⟨v, []⟩, [o], [], []⟩
      | none => none
     | none => none
    | _ => none
   | .elt T x off => match takeL d.size (dropL off (toC T x [])) with
    | some cs => match asVal d.agg cs with
     | some v => some (.val v)
     | none => none
    | none => none
   | .pidx o off n k j => match go o with
    | some (.cells _ l) => match isMap l with
     | some _ => none
     | none => match takeL n (dropL off l) with
     | some cs => match intsK k cs with
      | some ns => match Nat.beq d.size 1 && !d.agg with
       | true => some ⟨Int, rdo ns j, fun y => ⟨.int k y, []⟩, [o], [], []⟩
       | false => none
      | none => none
     | none => none
    | _ => none
   | .mptr o v i off => match go o with
    | some (.row v' _ (.mu e) l) => match Nat.beq v v' && e.flat && Nat.ble (off + d.size) e.n && (d.agg || Nat.beq d.size 1) with
     | true => some ⟨e.den, rdo l i, fun y => ⟨cutV d.size d.agg off e y, []⟩, [o], [], []⟩
     | false => none
    | _ => none
   | _ => none
  | none => none
 | .store t a x => match lk tt t with
  | some d => match operand env a with
   | .ptr o off => match go o with
    | some (.cells t' l) =>
     let cs := (operand env x).cells
     match isMap l with
     | some _ => none
     | none => match allOne go cs with
     | true => match Nat.beq (lenN cs) d.size with
      | true => match putL off cs l with
       | some l' => some ⟨Unit, some (), fun _ => ⟨.und, [(o, some (.cells t' l'))]⟩, [o], [o], []⟩
       | none => none
      | false => none
     | false => none
    | _ => none
   | .pidx o off n k j => match operand env x with
    | .int k' v => match go o with
     | some (.cells t' l) => match isMap l with
      | some _ => none
      | none => match takeL n (dropL off l) with
      | some cs => match intsK k cs with
       | some ns => match putL off (setK k j v 0 ns) l with
        | some l' => if k' = k then match Nat.beq d.size 1 with
         | true => some ⟨Unit, some (), fun _ => ⟨.und, [(o, some (.cells t' l'))]⟩, [o], [o], []⟩
         | false => none else none
        | none => none
       | none => none
      | none => none
     | _ => none
    | _ => none
   | .mptr o v i off => match go o with
    | some (.row v' t' (.mu e) l) => stMu go d o v v' t' e l i off (operand env x)
    | _ => none
   | _ => none
  | none => none
 | .nilCheck x => match operand env x with
  | .ptr o off => some (.val (.ptr o off))
  | .elt T x off => some (.val (.elt T x off))
  | .pidx o off n k j => some (.val (.pidx o off n k j))
  | .mptr o v i off => match go o with
   | some (.row v' _ _ _) => match Nat.beq v v' with
    | true => some ⟨Unit, some (), fun _ => ⟨.mptr o v i off, []⟩, [o], [], []⟩
    | false => none
   | _ => none
  | _ => none
 | .fieldAddr t x f => match structOf tt t with
  | some (_, fs) => match nth fs f with
   | some (off', _, _) => match operand env x with
    | .ptr o off => some (.val (.ptr o (off + off')))
    | .elt T x off => some (.val (.elt T x (off + off')))
    | .mptr o v i off => match go o with
     | some (.row v' _ _ _) => match Nat.beq v v' with
      | true => some ⟨Unit, some (), fun _ => ⟨.mptr o v i (off + off'), []⟩, [o], [], []⟩
      | false => none
     | _ => none
    | _ => none
   | none => none
  | none => none
 | .field t x f => match structOf tt t with
  | some (_, fs) => match nth fs f with
   | some (off, ft, _) => match lk tt ft with
    | some d => match operand env x with
     | .agg l => match takeL d.size (dropL off l) with
      | some cs => match asVal d.agg cs with
       | some v => some (.val v)
       | none => none
      | none => none
     | _ => none
    | none => none
   | none => none
  | none => none
 | .indexAddr t x i => match arrOf tt t with
  | some (_, n, _, de) => match operand env x with
   | .ptr o off => match constIx i with
    | some m => match Nat.blt m n with
     | true => some (.val (.ptr o (off + m * de.size)))
     | false => none
    | none => match operand env i, de.kind with
     | .int _ j, .int k => match Nat.beq de.size 1 with
      | true => some ⟨Unit, ck (decide (0 ≤ j) && decide (j < (n : Int))), fun _ => ⟨.pidx o off n k j, []⟩, [], [], []⟩
      | false => none
     | _, _ => none
   | _ => none
  | none => match sliceOf tt t with
  | some (e, de) => match operand env i with
   | .int _ i => match asL go de.ty (operand env x) with
    | some l => some ⟨de.ty.den, rdo l i, fun y => ⟨.elt de.ty y 0, []⟩, objIds (operand env x), [], []⟩
    | none => match operand env x with
     | .own o v => match muAt go de.ty e o v with
      | some l => some ⟨Unit, ck (decide (0 ≤ i) && decide (i < (l.length : Int))), fun _ => ⟨.mptr o v i 0, []⟩, [o], [], []⟩
      | none => none
     | _ => none
   | _ => none
  | none => none
 | .index t x i => match kindOf tt t with
  | some .str => match operand env x, operand env i with
   | .str s, .int _ i => some ⟨Int, bto s i, fun n => ⟨.int .u8 n, []⟩, [], [], []⟩
   | _, _ => none
  | some (.array _ _) => match arrOf tt t with
   | some (_, n, _, de) => match operand env x with
    | .agg l => match Nat.beq (lenN l) (n * de.size) with
     | true => match constIx i with
      | some m => match Nat.blt m n with
       | true => match takeL de.size (dropL (m * de.size) l) with
        | some cs => match asVal de.agg cs with
         | some v => some (.val v)
         | none => none
        | none => none
       | false => none
      | none => match operand env i, de.kind with
       | .int _ j, .int k => match Nat.beq de.size 1 && !de.agg with
        | true => match intsK k l with
         | some ns => some ⟨Int, rdo ns j, fun y => ⟨.int k y, []⟩, [], [], []⟩
         | none => none
        | false => none
       | _, _ => none
     | false => none
    | _ => none
   | none => none
  | _ => none
 | .extract x i => match operand env x with
  | .tup l => match nth l i with | some v => some (.val v) | none => none
  | _ => none
 | .unOp op _ x => match op, operand env x with
  | .not, .bool b => some (.val (.bool (!b)))
  | .neg, .int k n => some (.val (.int k (k.wrap (0 - n))))
  | .xor, .int k n => intBin .xor k (match k.signed with | true => -1 | false => k.max) n
  | _, _ => none
 | .binOp op t x y _ => bin tt op t (operand env x) (operand env y)
 | .convert t t' x => convStep go tt dst t t' (operand env x)
 | .makeMap t r => match r, kindOf tt t, dst with
  | none, some (.map _ _), some i => some ⟨Unit, some (), fun _ => ⟨.map i, [(i, some (.cells t [.mapd []]))]⟩, [], [i], [i]⟩
  | _, _, _ => none
 | .lookup t x y c => match mapOf tt t with
  | true => match operand env y with
   | .str s => match operand env x with
    | .map o => match go o with
     | some (.cells _ l) => match isMap l with
      | some d => some ⟨Unit, some (), fun _ => ⟨match c with | true => .tup [.str (mgetD s d), .bool (mhas s d)] | false => .str (mgetD s d), []⟩, [o], [], []⟩
      | none => none
     | _ => none
    | _ => none
   | _ => none
  | false => none
 | .mapUpdate t x y z => match mapOf tt t with
  | true => match operand env x with
   | .map o => match operand env y with
    | .str s => match operand env z with
     | .str v => match go o with
      | some (.cells t' l) => match isMap l with
       | some d => some ⟨Unit, some (), fun _ => ⟨.und, [(o, some (.cells t' [.mapd (mput s v d)]))]⟩, [o], [o], []⟩
       | none => none
      | _ => none
     | _ => none
    | _ => none
   | _ => none
  | false => none
 | .makeSlice t l c => match sliceOf tt t, dst with
  | some (e, de), some i => match de.ty, de.zero with
   | .int k, [.int kz z] => match operand env l, operand env c with
    | .int _ n, .int _ m => if kz = k then match Nat.beq de.size 1 with
     | true => some ⟨Unit, ck (decide (0 ≤ n) && decide (n = m) && decide (n * de.bytes ≤ 281474976710656) && decide (n ≤ 9223372036854775807)), fun _ => ⟨.own i 0, [(i, some (.row 0 e (.mu (.int k)) (List.replicate n.toNat z)))]⟩, [], [i], [i]⟩
     | false => none else none
    | _, _ => none
   | _, _ => none
  | _, _ => none
 | .slice t x lo hi mx => match arrOf tt t with
  | some (_, n, _, de) => match operand env x, mx with
   | .ptr o off, none => match constBd lo 0, constBd hi n with
    | some a, some h => match Nat.ble a h && Nat.ble h n && Nat.blt a n && Nat.beq de.size 1 with
     | true => some (.val (.asl o (off + a) (h - a)))
     | false => none
    | _, _ => none
   | _, _ => none
  | none => sliceStep go tt t (operand env x) (lo.map (operand env)) (hi.map (operand env)) (mx.map (operand env))
 | .call c => match c.callee with
  | .builtin .len => match c.args.toList, c.argTypes.toList with
   | [x], [t] => match lenV go (kindOf tt t) (operand env x) with
    | some n => some ⟨Unit, some (), fun _ => ⟨.int .i64 n, []⟩, objIds (operand env x), [], []⟩
    | none => none
   | _, _ => none
  | .builtin .append => match c.argTypes.toList, c.args.toList with
   | [t, t2], [s, x] => match appOk (kindOf tt t2) (operand env x) with
    | true => appStep go tt dst t (operand env s) (operand env x)
    | false => none
   | _, _ => none
  | .builtin .copy => match c.argTypes.toList, c.args.toList with
   | [t, _], [x, y] => match sliceOf tt t with
    | some (_, de) => match Nat.beq de.size 1 with
     | true => match operand env x, operand env y with
      | .asl o off n, .asl o' off' n' => match go o, go o' with
       | some (.cells t' l), some (.cells _ l') => match isMap l, isMap l' with
        | some _, _ => none
        | none, some _ => none
        | none, none => match takeL (Nat.min n' n) (dropL off' l') with
        | some cs => match allOne go cs with
         | true => match putL off cs l with
          | some l2 => some ⟨Unit, some (), fun _ => ⟨.int .i64 (Nat.min n' n), [(o, some (.cells t' l2))]⟩, [o, o'], [o], []⟩
          | none => none
         | false => none
        | none => none
       | _, _ => none
      | _, _ => none
     | false => none
    | none => none
   | _, _ => none
  | .builtin .min => minMax true (c.args.toList.map (operand env))
  | .builtin .max => minMax false (c.args.toList.map (operand env))
  | .value f => match operand env f with
   | .fn f => match lk Γ f with
    | some sps => firstStep sps fun sp => callStep go dst sp (c.args.toList.map (operand env))
    | none => none
   | .clo f l => match lk Γ f with
    | some sps => firstStep sps fun sp => callStep go dst sp (c.args.toList.map (operand env) ++ capP l)
    | none => none
   | _ => none
  | _ => none
 | .makeFunc fn first caps => match fn, first.toList with
  | .func f, [] => match capsOf env caps.toList with | some l => some (.val (.clo f l)) | none => none
  | _, _ => none
 | _ => none
def afterFirst : List Spec → (Spec → Option Stp) → List Spec
 | [], _ => []
 | s :: r, f => match f s with | some _ => r | none => afterFirst r f
def altStep (Γ : Gam) (env : List (Nat × CV)) (go : Nat → Option Ob) (dst : Option Nat) : Op → Option Stp
 | .call c => match c.callee with
  | .value f => match operand env f with
   | .fn f => match lk Γ f with
    | some sps => match sps with
     | [] => none
     | [_] => none
     | sps => firstStep (afterFirst sps fun sp => callStep go dst sp (c.args.toList.map (operand env))) fun sp => callStep go dst sp (c.args.toList.map (operand env))
    | none => none
   | _ => none
  | _ => none
 | _ => none
def orE {R : Type} (a b : Option R) : Option R := match a with | some r => some r | none => b
inductive Ex where
 | normal | exit (id : Nat) | ret
structure Lab (R : Type) where
 sh : LSh
 f : sh.den → Option R
structure Cfg (R : Type) where
 tt : TT
 Γ : Gam
 nt : Nat
 ps : List Nat
 ro : List Nat
 lab : Nat → List (Lab R)
 df : Option (Nat × Nat)
 spl : List (Nat × Nat × Nat)
noncomputable def bothE {R : Type} (a b : Option R) : Option R := @ite _ (a = b) (Classical.propDecidable _) a none
theorem bothE_some {R : Type} {a b : Option R} {r : R} (h : bothE a b = some r) : a = some r ∧ b = some r := by
 unfold bothE at h
 split at h
 ·rename_i e; exact ⟨h, e ▸ h⟩
 ·cases h
theorem bothE_same {R : Type} (a : Option R) : bothE a a = a := by unfold bothE; exact if_pos rfl
def anyN (p : Nat → Bool) : List Nat → Bool
 | [] => false
 | x :: r => match p x with | true => true | false => anyN p r
def upO : List (Nat × Option Ob) → List (Nat × Ob) → List (Nat × Ob)
 | [], l => l
 | (o, some b) :: r, l => (o, b) :: upO r l
 | (_, none) :: r, l => upO r l
def putE (dst : Option Nat) (v : CV) (env : List (Nat × CV)) : List (Nat × CV) :=
 match dst with | some d => (d, v) :: env | none => env
def apply (dst : Option Nat) (cr : List Nat) (st : St) (d : Dl) : St :=
 ⟨putE dst d.v st.env, upO d.up st.obj, cr ++ st.used⟩
def dstOk (nt : Nat) : Option Nat → Bool
 | some d => Nat.blt d nt
 | none => true
section
variable {R : Type}
def ptrSl (tt : TT) (t : Nat) : Option (Nat × TD) :=
 match sliceOf tt t with
 | some (e, de) => match de.ty with
  | .pt => some (e, de)
  | _ => none
 | none => none
def ptrParts (env : List (Nat × CV)) : Nat → List (Nat × Operand) → Option (List (Nat × Nat))
 | _, [] => some []
 | i, (j, x) :: r => match Nat.beq j i with
  | true => match operand env x with
   | .ptr o off => match ptrParts env (i + 1) r with | some l => some ((o, off) :: l) | none => none
   | _ => none
  | false => none
def ptrL : CV → Option (List (Nat × Nat))
 | .psl l => some l
 | .prow _ _ l => some l
 | _ => none
def nthZ : List (Nat × Nat) → Int → Option (Nat × Nat)
 | l, .ofNat n => nth l n
 | _, .negSucc _ => none
def appP : List (Nat × Nat) → List (Nat × Nat) → List (Nat × Nat)
 | [], l => l
 | x :: r, l => x :: appP r l
def takeP : Nat → List (Nat × Nat) → List (Nat × Nat)
 | 0, _ => []
 | _ + 1, [] => []
 | n + 1, x :: r => x :: takeP n r
def pappend (tt : TT) (go : Nat → Option Ob) (dst : Option Nat) (t : Nat) (s x : CV) : Option Stp :=
 match ptrSl tt t, dst, ptrL x with
 | some (e, de), some i, some m => match s with
  | .nils => match Nat.ble 1 (lenP m) && Nat.ble (lenP m) 1000 && Nat.beq de.bytes 8 with
   | true => some ⟨Unit, some (), fun _ => ⟨.prow i 0 m, [(i, some (.row 0 e .pt (units (lenP m))))]⟩, [], [i], [i]⟩
   | false => none
  | .prow o v l => match go o with
   | some (.row v' t' T lu) => match Nat.beq v v' && Nat.beq t' e && Nat.ble (lenP l + lenP m) 1000 && Nat.beq de.bytes 8 && Nat.ble 1 (lenP m) with
    | true => if T = .pt then some ⟨Unit, some (), fun _ => ⟨.prow o (v + 1) (appP l m), [(o, some (.row (v + 1) e .pt (units (lenP (appP l m)))))]⟩, [o], [o], []⟩ else none
    | false => none
   | _ => none
  | _ => none
 | _, _, _ => none
def pstep (tt : TT) (env : List (Nat × CV)) (go : Nat → Option Ob) (dst : Option Nat) : Op → Option Stp
 | .buildSlice t len parts => match ptrSl tt t, ptrParts env 0 parts.toList, dst with
  | some (e, de), some l, some i => match Nat.beq (lenP l) len && Nat.ble 1 len && Nat.ble len 1000 with
   | true => some ⟨Unit, some (), fun _ => ⟨.prow i 0 l, [(i, some (.row 0 e .pt (units len)))]⟩, [], [i], [i]⟩
   | false => none
  | _, _, _ => none
 | .indexAddr t x i => match ptrSl tt t with
  | some _ => match operand env i, ptrL (operand env x) with
   | .int _ j, some l => match nthZ l j with
    | some (o, off) => some (.val (.pelt o off))
    | none => none
   | _, _ => none
  | none => none
 | .load t a => match operand env a with
  | .pelt o off => match lk tt t with
   | some d => match Nat.beq d.size 1 && !d.agg with
    | true => some (.val (.ptr o off))
    | false => none
   | none => none
  | _ => none
 | .slice t x lo hi mx => match ptrSl tt t, ptrL (operand env x), lo, hi, mx with
  | some _, some l, none, some h, none => match operand env h with
   | .int _ (.ofNat n) => match Nat.ble n (lenP l) with
    | true => some (.val (.psl (takeP n l)))
    | false => none
   | _ => none
  | _, _, _, _, _ => none
 | .call c => match c.callee with
  | .builtin .len => match c.args.toList, c.argTypes.toList with
   | [x], [t] => match ptrSl tt t, ptrL (operand env x) with
    | some _, some l => some (.val (.int .i64 (lenP l)))
    | _, _ => none
   | _, _ => none
  | .builtin .append => match c.argTypes.toList, c.args.toList with
   | [t, t2], [s, x] => match Nat.beq t t2 with
    | true => pappend tt go dst t (operand env s) (operand env x)
    | false => none
   | _, _ => none
  | _ => none
 | _ => none
def runStp (C : Cfg R) (dst : Option Nat) (st : St) (s : Stp) (k : St → Option R) : Option R :=
 match anyN (memN (MARK :: st.used)) s.cr with
 | true => none
 | false => match anyN (memN C.ro) s.wr with
  | true => none
  | false => Option.bind s.o fun x => k (apply dst s.cr st (s.f x))
def deferOp (C : Cfg R) (o : Oper) (c : Call) (st : St) (k : St → Option R) : Option R :=
 match C.df, o.dst, c.callee, c.args.toList with
 | some (f, p), none, .value g, [x] => match operand st.env g, operand st.env x with
  | .fn f', .ptr p' off => match Nat.beq f' f && Nat.beq p' p && Nat.beq off 0 && memN C.ps p && !memN st.used MARK with
   | true => k ⟨st.env, st.obj, MARK :: st.used⟩
   | false => none
  | _, _ => none
 | _, _, _, _ => none
def isDefer : Op → Option Call
 | .defer c => some c
 | _ => none
def altC (C : Cfg R) (env : List (Nat × CV)) (go : Nat → Option Ob) (dst : Option Nat) (op : Op) : Option Stp := match lk C.spl 88888888 with
 | some _ => none
 | none => altStep C.Γ env go dst op
def runOp0 (C : Cfg R) (o : Oper) (st : St) (k : St → Option R) : Option R :=
 match dstOk C.nt o.dst with
 | false => none
 | true => match step C.tt C.Γ st.env (lk st.obj) o.dst o.op with
  | none => none
  | some s => match altC C st.env (lk st.obj) o.dst o.op with
   | none => runStp C o.dst st s k
   | some s2 => orE (runStp C o.dst st s k) (runStp C o.dst st s2 k)
def pstepC (C : Cfg R) (env : List (Nat × CV)) (go : Nat → Option Ob) (dst : Option Nat) (op : Op) : Option Stp := match op with
 | .indexAddr t x i => match lk C.spl MARK with
  | some _ => none
  | none => pstep C.tt env go dst (.indexAddr t x i)
 | op => pstep C.tt env go dst op
def runOp1 (C : Cfg R) (o : Oper) (st : St) (k : St → Option R) : Option R :=
 match isDefer o.op with
 | some c => deferOp C o c st k
 | none => match pstepC C st.env (lk st.obj) o.dst o.op with
  | some s => (match dstOk C.nt o.dst with | true => runStp C o.dst st s k | false => none)
  | none => runOp0 C o st k
def dropS : Nat → List Spec → List Spec
 | 0, l => l
 | _ + 1, [] => []
 | n + 1, _ :: r => dropS n r
def cutG (g n : Nat) : Gam → Gam
 | [] => []
 | (f, l) :: r => match Nat.beq f g with | true => (f, dropS n l) :: cutG g n r | false => (f, l) :: cutG g n r
def cutC (C : Cfg R) (g n : Nat) : Cfg R := ⟨C.tt, cutG g n C.Γ, C.nt, C.ps, C.ro, C.lab, C.df, C.spl⟩
def splitOf (C : Cfg R) (o : Oper) (st : St) : Option (Nat × IntKind × Int × Nat × Nat) := match o.op with
 | .call c => match c.callee with
  | .value f => match operand st.env f with
   | .fn g => match lk C.spl g with
    | some (i, m) => match nth c.args.toList i with
     | some (.tmp t) => match lk st.env t with
      | some (.int kd n) => some (t, kd, n, m, g)
      | _ => none
     | _ => none
    | none => none
   | _ => none
  | _ => none
 | _ => none
def splitRun (n : Int) (f : Int → Option R) (g : Option R) : Nat → Option R
 | 0 => g
 | m + 1 => bif n == (m : Int) then f m else splitRun n f g m
def learn (t : Nat) (kd : IntKind) (c : Int) (st : St) : St := ⟨(t, .int kd c) :: st.env, st.obj, st.used⟩
def runOp (C : Cfg R) (o : Oper) (st : St) (k : St → Option R) : Option R :=
 match splitOf C o st with
 | some (t, kd, n, m, g) => splitRun n (fun c => runOp1 C o (learn t kd c st) k) (runOp1 (cutC C g (m / 1000)) o st k) (m % 1000)
 | none => runOp1 C o st k
def guardT (ops : List Oper) (j : Nat) : Option Nat := match nth ops j with | some o => o.dst | none => none
def runOps (C : Cfg R) (all : List Oper) : List Oper → St → (St → Option R) → Option R
 | [], st, k => k st
 | o :: r, st, k => match o.guard with
  | none => runOp C o st fun st' => runOps C all r st' k
  | some (j, want) => match guardT all j with
   | none => none
   | some t => match lk st.env t with
    | some (.bool b) => match b with
     | true => match want with
      | true => runOp C o ⟨(t, .bool true) :: st.env, st.obj, st.used⟩ fun st' => runOps C all r st' k
      | false => runOps C all r ⟨putE o.dst .und ((t, .bool true) :: st.env), st.obj, st.used⟩ k
     | false => match want with
      | true => runOps C all r ⟨putE o.dst .und ((t, .bool false) :: st.env), st.obj, st.used⟩ k
      | false => runOp C o ⟨(t, .bool false) :: st.env, st.obj, st.used⟩ fun st' => runOps C all r st' k
    | some .und => runOps C all r ⟨putE o.dst .und st.env, st.obj, st.used⟩ k
    | _ => none
def tmpOf : Operand → List Nat
 | .tmp t => [t]
 | _ => []
def tmpsO : Option Operand → List Nat
 | some x => tmpOf x
 | none => []
def tmpsL : List Operand → List Nat
 | [] => []
 | x :: r => tmpOf x ++ tmpsL r
def tmpsP : List (Nat × Operand) → List Nat
 | [] => []
 | x :: r => tmpOf x.2 ++ tmpsP r
def opTmps : Op → List Nat
 | .move x => tmpOf x
 | .assign x => tmpOf x
 | .pick c a b => tmpOf c ++ (tmpOf a ++ tmpOf b)
 | .box _ x => tmpOf x
 | .build _ ps => tmpsP ps.toList
 | .buildSlice _ _ ps => tmpsP ps.toList
 | .load _ x => tmpOf x
 | .store _ a x => tmpOf a ++ tmpOf x
 | .nilCheck x => tmpOf x
 | .fieldAddr _ x _ => tmpOf x
 | .field _ x _ => tmpOf x
 | .indexAddr _ x i => tmpOf x ++ tmpOf i
 | .index _ x i => tmpOf x ++ tmpOf i
 | .extract x _ => tmpOf x
 | .unOp _ _ x => tmpOf x
 | .binOp _ _ x y _ => tmpOf x ++ tmpOf y
 | .convert _ _ x => tmpOf x
 | .slice _ x lo hi mx => tmpOf x ++ (tmpsO lo ++ (tmpsO hi ++ tmpsO mx))
 | .makeSlice _ l c => tmpOf l ++ tmpOf c
 | .lookup _ x y _ => tmpOf x ++ tmpOf y
 | .mapUpdate _ x y z => tmpOf x ++ (tmpOf y ++ tmpOf z)
 | .call c => (match c.callee with | .value f => tmpOf f | _ => []) ++ tmpsL c.args.toList
 | .makeFunc _ _ caps => tmpsL caps.toList
 | _ => []
def looks (all : List Oper) (o : Oper) : List Nat :=
 match o.guard with
 | some (g, _) => match guardT all g with | some t => t :: opTmps o.op | none => opTmps o.op
 | none => opTmps o.op
def idsL : List CV → List Nat
 | [] => []
 | c :: r => objIds c ++ idsL r
def cvIds : CV → List Nat
 | .agg l => idsL l
 | c => objIds c
def idsT (env : List (Nat × CV)) : List Nat → List Nat
 | [] => []
 | t :: r => match lk env t with | some c => cvIds c ++ idsT env r | none => idsT env r
def idsOb (go : Nat → Option Ob) : List Nat → List Nat
 | [] => []
 | o :: r => match go o with | some (.cells _ l) => idsL l ++ idsOb go r | _ => idsOb go r
def reach (go : Nat → Option Ob) : Nat → List Nat → List Nat
 | 0, l => l
 | n + 1, l => match l with | [] => [] | _ :: _ => l ++ reach go n (idsOb go l)
def restr (R : List Nat) (go : Nat → Option Ob) (o : Nat) : Option Ob := match memN R o with | true => go o | false => none
def stepP (tt : TT) (Γ : Gam) (env : List (Nat × CV)) (go : Nat → Option Ob) (dst : Option Nat) (op : Op) : Option Stp := match pstep tt env go dst op with
 | some s => some s
 | none => step tt Γ env go dst op
def rdOf (go : Nat → Option Ob) (env : List (Nat × CV)) : Op → List Nat
 | .call c => match c.callee with
  | .value f => reach go 4 (idsT env (tmpOf f ++ tmpsL c.args.toList))
  | _ => idsT env (tmpsL c.args.toList)
 | .load _ x => idsT env (tmpOf x)
 | .nilCheck x => (match operand env x with | .mptr o _ _ _ => [o] | _ => [])
 | .fieldAddr _ x _ => (match operand env x with | .mptr o _ _ _ => [o] | _ => [])
 | .store _ a x => idsT env (tmpOf a ++ tmpOf x)
 | .box _ x => idsT env (tmpOf x)
 | .build _ ps => idsT env (tmpsP ps.toList)
 | .buildSlice _ _ ps => idsT env (tmpsP ps.toList)
 | .indexAddr _ x _ => idsT env (tmpOf x)
 | .slice _ x _ _ _ => idsT env (tmpOf x)
 | .convert _ _ x => idsT env (tmpOf x)
 | .lookup _ x _ _ => idsT env (tmpOf x)
 | .mapUpdate _ x _ _ => idsT env (tmpOf x)
 | _ => []
structure Dn where
 i : Nat
 anc : List Nat
 lks : List Nat
 dst : Option Nat
 v : CV
 up : List (Nat × Option Ob)
 rd : List Nat
 cr : List Nat
 ld : Option (Nat × Nat × Nat × Nat)
def Dn.app (D : Dn) (st : St) : St := apply D.dst D.cr st ⟨D.v, D.up⟩
def ancAt : List Dn → Nat → List Nat
 | [], _ => []
 | D :: r, i => match Nat.beq D.i i with | true => D.anc | false => ancAt r i
def unionN : List Nat → List Nat → List Nat
 | [], r => r
 | x :: l, r => match memN r x with | true => unionN l r | false => x :: unionN l r
def addA (acc : List Dn) (i : Nat) (r : List Nat) : List Nat := match memN r i with | true => r | false => i :: unionN (ancAt acc i) r
def ancOf (acc : List Dn) : List Edge → List Nat
 | [] => []
 | e :: r => match Region.binds .any e with | true => addA acc e.on (ancOf acc r) | false => ancOf acc r
def afterOk (j : Nat) : List Edge → Bool
 | [] => true
 | e :: r => match Region.binds .any e with | false => afterOk j r | true => match Nat.blt e.on j with | true => afterOk j r | false => false
def dstIn (l : List Nat) : Option Nat → Bool
 | some d => memN l d
 | none => false
def dstEq : Option Nat → Option Nat → Bool
 | some d, some e => Nat.beq d e
 | _, _ => false
def pairOk (D E : Dn) : Bool :=
 match dstIn E.lks D.dst with
 | true => false
 | false => match dstIn D.lks E.dst with
  | true => false
  | false => match dstEq D.dst E.dst with
   | true => false
   | false => match disN (keysOf D.up) E.rd with
    | false => false
    | true => match disN (keysOf D.up) (keysOf E.up) with
     | false => false
     | true => disN (keysOf E.up) D.rd
def pairsOk : List Dn → Dn → Bool
 | [], _ => true
 | D :: r, E => match memN E.anc D.i with
  | true => pairsOk r E
  | false => match pairOk D E with | true => pairsOk r E | false => false
def cellP (b : Ob) (off q qo : Nat) : Bool := match b with
 | .cells _ l => match dropL off l with | .ptr q' qo' :: _ => Nat.beq q' q && Nat.beq qo' qo | _ => false
 | _ => false
def keepsP (ld : Option (Nat × Nat × Nat × Nat)) (up : List (Nat × Option Ob)) : Bool := match ld with
 | none => true
 | some (p, off, q, qo) => match lk up p with
  | none => true
  | some none => false
  | some (some b) => cellP b off q qo
def keepsAll : List Dn → List (Nat × Option Ob) → Bool
 | [], _ => true
 | D :: r, up => match keepsP D.ld up with | true => keepsAll r up | false => false
def noneW : List Dn → Nat → Bool
 | [], _ => true
 | D :: r, p => match memN (keysOf D.up) p with | true => false | false => noneW r p
def ldOf (tt : TT) (env : List (Nat × CV)) (go : Nat → Option Ob) (acc : List Dn) : Op → Option (Nat × Nat × Nat × Nat)
 | .load t a => match lk tt t with
  | some d => match Nat.beq d.size 1 && !d.agg with
   | true => match operand env a with
    | .ptr p off => match go p with
     | some (.cells _ l) => match dropL off l with
      | .ptr q qo :: _ => match noneW acc p with | true => some (p, off, q, qo) | false => none
      | _ => none
     | _ => none
    | _ => none
   | false => none
  | none => none
 | _ => none
def runOpA (C : Cfg R) (all : List Oper) (o : Oper) (j : Nat) (acc : List Dn) (st : St) (k : Dn → Option R) : Option R :=
 match dstOk C.nt o.dst with
 | false => none
 | true => match ldOf C.tt st.env (lk st.obj) acc o.op with
  | some (p, off, q, qo) => match pairsOk acc ⟨j, ancOf acc o.after.toList, looks all o, o.dst, .ptr q qo, [], [], [], some (p, off, q, qo)⟩ with
   | true => k ⟨j, ancOf acc o.after.toList, looks all o, o.dst, .ptr q qo, [], [], [], some (p, off, q, qo)⟩
   | false => none
  | none => match stepP C.tt C.Γ st.env (restr (rdOf (lk st.obj) st.env o.op) (lk st.obj)) o.dst o.op with
   | none => none
   | some s => match anyN (memN (MARK :: st.used)) s.cr with
    | true => none
    | false => match anyN (memN C.ro) s.wr with
     | true => none
     | false => Option.bind s.o fun x =>
      match pairsOk acc ⟨j, ancOf acc o.after.toList, looks all o, o.dst, (s.f x).v, (s.f x).up, rdOf (lk st.obj) st.env o.op, s.cr, none⟩ with
      | true => match keepsAll acc (s.f x).up with
       | true => k ⟨j, ancOf acc o.after.toList, looks all o, o.dst, (s.f x).v, (s.f x).up, rdOf (lk st.obj) st.env o.op, s.cr, none⟩
       | false => none
      | false => none
def skipA (C : Cfg R) (all : List Oper) (o : Oper) (j : Nat) (acc : List Dn) (k : Dn → Option R) : Option R :=
 match dstOk C.nt o.dst with
 | false => none
 | true => match pairsOk acc ⟨j, ancOf acc o.after.toList, looks all o, o.dst, .und, [], [], [], none⟩ with
  | true => k ⟨j, ancOf acc o.after.toList, looks all o, o.dst, .und, [], [], [], none⟩
  | false => none
def runAny (C : Cfg R) (all : List Oper) : List Oper → Nat → List Dn → St → (St → Option R) → Option R
 | [], _, _, st, k => k st
 | o :: r, j, acc, st, k => match afterOk j o.after.toList with
  | false => none
  | true => match o.guard with
   | none => match splitOf C o st with
    | some (t, kd, n, m, g) => splitRun n (fun c => runOpA C all o j acc (learn t kd c st) fun D => runAny C all r (j + 1) (D :: acc) (D.app (learn t kd c st)) k) (runOpA (cutC C g (m / 1000)) all o j acc st fun D => runAny C all r (j + 1) (D :: acc) (D.app st) k) (m % 1000)
    | none => runOpA C all o j acc st fun D => runAny C all r (j + 1) (D :: acc) (D.app st) k
   | some (g, want) => match guardT all g with
    | none => none
    | some t => match lk st.env t with
     | some (.bool b) => match b with
      | true => match want with
       | true => runOpA C all o j acc ⟨(t, .bool true) :: st.env, st.obj, st.used⟩ fun D => runAny C all r (j + 1) (D :: acc) (D.app ⟨(t, .bool true) :: st.env, st.obj, st.used⟩) k
       | false => skipA C all o j acc fun D => runAny C all r (j + 1) (D :: acc) (D.app ⟨(t, .bool true) :: st.env, st.obj, st.used⟩) k
      | false => match want with
       | true => skipA C all o j acc fun D => runAny C all r (j + 1) (D :: acc) (D.app ⟨(t, .bool false) :: st.env, st.obj, st.used⟩) k
       | false => runOpA C all o j acc ⟨(t, .bool false) :: st.env, st.obj, st.used⟩ fun D => runAny C all r (j + 1) (D :: acc) (D.app ⟨(t, .bool false) :: st.env, st.obj, st.used⟩) k
     | some .und => skipA C all o j acc fun D => runAny C all r (j + 1) (D :: acc) (D.app st) k
     | _ => none
def firstR : Code → Option Nat
 | .region id _ _ => some id
 | .seq a b => match firstR a with | some i => some i | none => firstR b
 | .cond _ a b => match firstR a with | some i => some i | none => firstR b
 | .block _ c => firstR c
 | .loop c => firstR c
 | .scope c => firstR c
 | _ => none
def eqB : Bool → Bool → Bool
 | true, b => b
 | false, b => !b
def idRho : List Nat → Rho
 | [] => []
 | p :: r => (p, some p) :: idRho r
def ver0 (go : Nat → Option Ob) : List Nat → Bool
 | [] => true
 | p :: r => match go p with
  | some (.row v _ _ _) => match v with | 0 => ver0 go r | _ + 1 => false
  | _ => ver0 go r
def enterD (ps : List Nat) (l : Lab R) (st : St) : Option l.sh.den :=
 match eqB (memN st.used MARK) (memN (l.sh.refs ++ ps) MARK) && ver0 (lk st.obj) ps with
 | true => match l.sh.get (lk st.obj) st.env (idRho ps) with
  | some (d, _) => some d
  | none => none
 | false => none
def enter (ps : List Nat) : List (Lab R) → St → Option R
 | [], _ => none
 | l :: r, st => match enterD ps l st with
  | some d => l.f d
  | none => enter ps r st
def labAt (C : Cfg R) (kind : Nat) (c : Code) : List (Lab R) :=
 match firstR c with | some i => C.lab (2 * i + kind) | none => []
noncomputable def exec (C : Cfg R) : Code → (Ex → St → Option R) → St → Option R
 | .skip, K, st => K .normal st
 | .region _ ops draw, K, st => match draw with
  | false => runOps C ops.toList ops.toList st (K .normal)
  | true => runAny C ops.toList ops.toList 0 [] st (K .normal)
 | .seq a b, K, st => exec C a (fun e st' => match e with
  | .normal => match labAt C 1 b with
   | l :: r => enter C.ps (l :: r) st'
   | [] => exec C b K st'
  | .exit i => K (.exit i) st'
  | .ret => K .ret st') st
 | .cond c a b, K, st => match operand st.env c with
  | .bool t => match t with
   | true => exec C a K st
   | false => exec C b K st
  | .qnil e => match e with
   | true => bothE (exec C a K st) (exec C b K st)
   | false => exec C b K st
  | _ => none
 | .block id c, K, st => exec C c (fun e st' => match e with
  | .normal => K .normal st'
  | .exit i => match Nat.beq i id with | true => K .normal st' | false => K (.exit i) st'
  | .ret => K .ret st') st
 | .loop c, _, st => enter C.ps (labAt C 0 c) st
 | .exit id, K, st => K (.exit id) st
 | .ret, K, st => K .ret st
 | .scope c, K, st => exec C c K st
 | .label _, K, st => K .normal st
 | _, _, _ => none
def resEnv (tt : TT) (env : List (Nat × CV)) (go : Nat → Option Ob) : Nat → List ResultVar → Option (List (Nat × CV))
 | _, [] => some []
 | i, .tmp t :: r => match lk env t with
  | some v => match resEnv tt env go (i + 1) r with | some l => some ((i, v) :: l) | none => none
  | none => none
 | i, .cell a t :: r => match lk tt t with
  | some d => match operand env (.tmp a) with
   | .ptr o off => match go o with
    | some (.cells _ l) => match isMap l with
     | some _ => none
     | none => match takeL d.size (dropL off l) with
     | some cs => match asVal d.agg cs with
      | some v => match resEnv tt env go (i + 1) r with | some l => some ((i, v) :: l) | none => none
      | none => none
     | none => none
    | _ => none
   | _ => none
  | none => none
def hasMu : SSh → Bool
 | .own _ _ T => T.isMu
 | _ => false
def hasMuE : List (Nat × SSh) → Bool
 | [] => false
 | s :: r => match hasMu s.2 with | true => true | false => hasMuE r
def hasMuS : List SSh → Bool
 | [] => false
 | s :: r => match hasMu s with | true => true | false => hasMuS r
def hasMuO : List (Nat × Nat × List SSh) → Bool
 | [] => false
 | s :: r => match hasMuS s.2.2 with | true => true | false => hasMuO r
def LSh.hasMu (s : LSh) : Bool := match hasMuE s.slots with | true => true | false => hasMuO s.objs
def frzB : Ob → Ob
 | .row v t (.mu e) l => .row v t e l
 | b => b
def frz (keep : Bool) (go : Nat → Option Ob) (o : Nat) : Option Ob := match keep with
 | true => go o
 | false => match go o with | some b => some (frzB b) | none => none
def extra : Nat → List (Nat × SSh) → List (Nat × CV)
 | _, [] => []
 | 0, (i, .own c _ _) :: r => (i, .own c 0) :: extra 0 r
 | 0, _ :: _ => []
 | n + 1, _ :: r => extra n r
def appE : List (Nat × CV) → List (Nat × CV) → List (Nat × CV)
 | [], l => l
 | x :: r, l => x :: appE r l
def ret0 (tt : TT) (ps : List Nat) (nres : Nat) (out : LSh) (rs : List ResultVar) : Ex → St → Option out.den
 | .exit _, _ => none
 | _, st => match resEnv tt st.env (lk st.obj) 0 rs with
  | some env => match ver0 (lk st.obj) ps with
   | true => match out.get (frz out.hasMu (lk st.obj)) (appE env (extra nres out.slots)) (idRho ps) with
    | some (d, _) => some d
    | none => none
   | false => none
  | none => none
def retK (out : LSh) (C : Cfg out.den) (nres : Nat) (rs : List ResultVar) (e : Ex) (st : St) : Option out.den :=
 match memN st.used MARK with
 | false => ret0 C.tt C.ps nres out rs e st
 | true => match C.df with
  | none => none
  | some (f, p) => match lk C.Γ f with
   | none => none
   | some sps => match firstStep sps fun sp => (match sp.nd with | true => callStep (lk st.obj) none sp [.ptr p 0] | false => none) with
    | none => none
    | some s => runStp C none st s fun st' => ret0 C.tt C.ps nres out rs e st'
structure LabF (R : Type) where
 sh : LSh
 f : Nat → sh.den → Option R
def labL {R : Type} (k : Nat) : List (LabF R) → List (Lab R)
 | [] => []
 | x :: r => ⟨x.sh, x.f k⟩ :: labL k r
def labK {R : Type} (l : Nat → List (LabF R)) (k : Nat) (i : Nat) : List (Lab R) := labL k (l i)
noncomputable def seqK (C : Cfg R) (b : Code) (K : Ex → St → Option R) : Ex → St → Option R := fun e st' => match e with
  | .normal => match labAt C 1 b with
   | l :: r => enter C.ps (l :: r) st'
   | [] => exec C b K st'
  | .exit i => K (.exit i) st'
  | .ret => K .ret st'
def blockK (id : Nat) (K : Ex → St → Option R) : Ex → St → Option R := fun e st' => match e with
  | .normal => K .normal st'
  | .exit i => match Nat.beq i id with | true => K .normal st' | false => K (.exit i) st'
  | .ret => K .ret st'
noncomputable def loopK (C : Cfg R) (c : Code) (K : Ex → St → Option R) : Ex → St → Option R := fun e st' => match e with
  | .normal => exec C (.loop c) K st'
  | .exit i => K (.exit i) st'
  | .ret => K .ret st'
def labVC {R : Type} (g : Nat → (sh : LSh) → sh.den → Option R) : List (LabF R) → Prop
 | [] => True
 | l :: r => ((∀ d, l.f 0 d = none) ∧ ∀ k (d : l.sh.den), l.f (k + 1) d = g k l.sh d) ∧ labVC g r
def labsAt {R : Type} (lab : Nat → List (LabF R)) (kind : Nat) (c : Code) : List (LabF R) := match firstR c with | some i => lab (2 * i + kind) | none => []
def VCs (C : Nat → Cfg R) (lab : Nat → List (LabF R)) : Code → (Nat → Ex → St → Option R) → Prop
 | .seq a b, K => VCs C lab a (fun k => seqK (C k) b (K k)) ∧ VCs C lab b K ∧ labVC (fun k sh d => exec (C k) b (K k) (sh.st (C k).ps d)) (labsAt lab 1 b)
 | .cond _ a b, K => VCs C lab a K ∧ VCs C lab b K
 | .block id c, K => VCs C lab c (fun k => blockK id (K k))
 | .scope c, K => VCs C lab c K
 | .loop c, K => VCs C lab c (fun k => loopK (C k) c (K k)) ∧ labVC (fun k sh d => exec (C k) c (loopK (C k) c (K k)) (sh.st (C k).ps d)) (labsAt lab 0 c)
 | _, _ => True
structure FnD where
 fn : Func
 ini : LSh
 out : LSh
 nres : Nat
 ps : List Nat
 ro : List Nat
 lab : Nat → List (LabF out.den)
 f : Nat → ini.den → Option out.den
 df : Option (Nat × Nat)
 spl : List (Nat × Nat × Nat)
def extraIds (n : Nat) (l : List (Nat × SSh)) : List Nat := match n, l with
 | _, [] => []
 | 0, s :: r => ownIds (s :: r)
 | n + 1, _ :: r => extraIds n r
def FnD.ks (F : FnD) : List Nat := extraIds F.nres F.out.slots
def appN : List Nat → List Nat → List Nat
 | [], l => l
 | x :: r, l => x :: appN r l
def FnD.nd (F : FnD) : Bool := match F.df with | none => true | some _ => false
def FnD.sp (F : FnD) (k : Nat) : Spec := ⟨F.ini, F.out, F.nres, F.ro, F.ks, F.f k, F.nd⟩
def FnD.cfg (F : FnD) (tt : TT) (Γ : Nat → Gam) (k : Nat) : Cfg F.out.den := ⟨tt, Γ k, F.fn.ntmps, appN F.ps F.ks, F.ro, labK F.lab k, F.df, F.spl⟩
def ownS : List (Nat × SSh) → Bool
 | [] => true
 | (_, .own _ _ _) :: r => ownS r
 | _ :: _ => false
def dropE : Nat → List (Nat × SSh) → List (Nat × SSh)
 | 0, l => l
 | _ + 1, [] => []
 | n + 1, _ :: r => dropE n r
def bodyOf (f : Func) : Code := match f.body with | some c => c | none => .skip
def opsOk (nt : Nat) : List Oper → Bool
 | [] => true
 | o :: r => match dstOk nt o.dst with | true => opsOk nt r | false => false
def codeOk (nt : Nat) : Code → Bool
 | .region _ ops _ => opsOk nt ops.toList
 | .seq a b => match codeOk nt a with | true => codeOk nt b | false => false
 | .cond _ a b => match codeOk nt a with | true => codeOk nt b | false => false
 | .block _ c => codeOk nt c
 | .loop c => codeOk nt c
 | .scope c => codeOk nt c
 | _ => true
def seqSlots : Nat → List (Nat × SSh) → Bool
 | _, [] => true
 | i, s :: r => match Nat.beq s.1 i with | true => seqSlots (i + 1) r | false => false
def FnD.formsOk (F : FnD) : Bool :=
 nodupN F.out.ids && subN F.ini.ids (F.ro ++ F.out.ids) && disN F.ro F.out.ids && subN F.ro F.ps && subN F.ps (cellIds F.ini.objs) && disN F.ps (ownIds F.ini.slots ++ rowIds F.ini.objs) &&
 codeOk F.fn.ntmps (bodyOf F.fn) && Nat.ble (lenN F.ini.slots) F.fn.ntmps && nodupN F.ini.ids &&
 seqSlots 0 F.ini.slots && seqSlots 0 F.out.slots && Nat.beq (lenN F.fn.results.toList) F.nres && Nat.ble F.nres (lenN F.out.slots) && subN F.ini.refs (F.ps ++ (ownIds F.ini.slots ++ rowIds F.ini.objs)) && subN F.out.refs (F.ps ++ F.out.ids) &&
 disN (ownIds F.ini.slots ++ rowIds F.ini.objs) (cellIds F.ini.objs) && disN (ownIds F.ini.slots ++ rowIds F.ini.objs) (cellIds F.out.objs) && (match F.df with | none => true | some (_, p) => memN F.ps p) && !memN (F.ini.refs ++ appN F.ps F.ks) MARK && ownS (dropE F.nres F.out.slots) && subN F.ks (ownIds F.ini.slots)
def FnD.vc (F : FnD) (tt : TT) (Γ : Nat → Gam) : Prop :=
 (∀ d, F.f 0 d = none) ∧ (∀ k (d : F.ini.den), F.f (k + 1) d = exec (F.cfg tt Γ k) (bodyOf F.fn) (retK F.out (F.cfg tt Γ k) F.nres F.fn.results.toList) (F.ini.st (appN F.ps F.ks) d)) ∧
 VCs (F.cfg tt Γ) F.lab (bodyOf F.fn) (fun k => retK F.out (F.cfg tt Γ k) F.nres F.fn.results.toList)
end
end Go.Proofs.Ytcjiipbppkdkaaa.Eng
