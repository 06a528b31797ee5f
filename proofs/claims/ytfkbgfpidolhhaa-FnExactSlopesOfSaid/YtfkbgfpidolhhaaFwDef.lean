/- The framework of these proofs: symbolic values, a compact code, and a reckoning of weakest preconditions that computes. -/
import Derived.Calls
import Derived.LoopN
import Derived.Orders
import Derived.StillTail
namespace Go.Fw
open Go

/-! values -/
def nanW : FloatKind → Nat
  | .f32 => 2143289344
  | .f64 => 9221120237041090560
def canon (k : FloatKind) (b : Nat) : Nat := if (k.decode b).isNaN then nanW k else b

inductive Step where
  | fld (i off : Nat)
  | idx (i size : Nat)

inductive AV where
  | raw (v : Value)
  | flt (k : FloatKind) (x : Nat)
  | cpx (k : FloatKind) (re im : Nat)
  | st (fs : List AV)
  | ai (n : Nat) (xs : List Int)
  | af (n : Nat) (xs : List Nat)
  | ac (n : Nat) (xs : List (Nat × Nat))
  | ap (n : Nat) (xs : List (Int × Int))
  | ptr (id : Nat) (path : List Step)
  | sl (id : Nat) (path : List Step) (esz lo len cap : Nat)
  | fn (f : Nat) (caps : List AV)
  | ifc (t : Nat) (x : AV)
  | tup (vs : List AV)
  | junk

def AV.int (n : Int) : AV := .raw (.int .i64 n)
def AV.bool (b : Bool) : AV := .raw (.bool b)
def undefA : AV := .tup []
/-- The nil slice: it stands in no block. -/
def nilS (esz : Nat) : AV := .sl 1000000 [] esz 0 0 0

/-- A block: may it be written; what it reads as; how many cells it has at least (for what grows). -/
structure Ent where
  own : Bool
  c : AV
  cap : Nat

abbrev TS := List AV
abbrev MS := List Ent

def getL : TS → Nat → AV
  | [], _ => .tup []
  | x :: _, 0 => x
  | _ :: xs, n + 1 => getL xs n
def getK : TS → Nat → (AV → Prop) → Prop
  | [], _, k => k (.tup [])
  | x :: _, 0, k => k x
  | _ :: xs, n + 1, k => getK xs n k
def setK : TS → Nat → AV → (TS → Prop) → Prop
  | [], _, _, k => k []
  | _ :: xs, 0, v, k => k (v :: xs)
  | x :: xs, n + 1, v, k => setK xs n v fun l => k (x :: l)
def snocK {α : Type} : List α → α → (List α → Prop) → Prop
  | [], v, k => k [v]
  | x :: xs, v, k => snocK xs v fun l => k (x :: l)
def catK {α : Type} : List α → List α → (List α → Prop) → Prop
  | [], l, k => k l
  | x :: xs, l, k => catK xs l fun l => k (x :: l)
def getE : MS → Nat → Option Ent
  | [], _ => none
  | x :: _, 0 => some x
  | _ :: xs, n + 1 => getE xs n
def setEK : MS → Nat → Ent → (MS → Prop) → Prop
  | [], _, _, k => k []
  | _ :: xs, 0, c, k => k (c :: xs)
  | x :: xs, n + 1, c, k => setEK xs n c fun l => k (x :: l)
/-- a new block: its number, and the memory with it -/
def newK : MS → AV → Nat → (Nat → MS → Prop) → Prop
  | [], c, r, k => k 0 [⟨true, c, r⟩]
  | x :: xs, c, r, k => newK xs c r fun n l => k (n + 1) (x :: l)
/-- what a block becomes whose elements have gone elsewhere -/
def deadE : Ent := ⟨false, .ai 0 [], 0⟩

/-! operations on symbols, closed to unfolding -/
@[irreducible] def nthB (bs : List Nat) (i : Int) : Int := (bs.getD i.toNat 0 : Nat)
@[irreducible] def arI (o : BinOp) (k : IntKind) (x y : Int) : Int :=
  match o with
  | .add => k.wrap (x + y)
  | .sub => k.wrap (x - y)
  | .mul => k.wrap (x * y)
  | .quo => k.wrap (x.tdiv y)
  | .rem => x.tmod y
  | .and => k.wrap (BitVec.ofInt k.bits x &&& BitVec.ofInt k.bits y).toNat
  | .or => k.wrap (BitVec.ofInt k.bits x ||| BitVec.ofInt k.bits y).toNat
  | .xor => k.wrap (BitVec.ofInt k.bits x ^^^ BitVec.ofInt k.bits y).toNat
  | .andNot => k.wrap (BitVec.ofInt k.bits x &&& ~~~BitVec.ofInt k.bits y).toNat
  | _ => 0
@[irreducible] def shI (o : BinOp) (k : IntKind) (x y : Int) : Int :=
  match o with
  | .shl => k.wrap (x * 2 ^ (min y.toNat k.bits))
  | _ => x.fdiv (2 ^ (min y.toNat k.bits))
@[irreducible] def cmI (o : BinOp) (x y : Int) : Bool :=
  match o with
  | .eql => x == y
  | .neq => x != y
  | .lss => x < y
  | .leq => x ≤ y
  | .gtr => x > y
  | _ => x ≥ y
@[irreducible] def arF (o : BinOp) (k : FloatKind) (x y : Nat) : Nat :=
  match (match o with | .add => k.format.add x y | .sub => k.format.sub x y | .mul => k.format.mul x y | _ => k.format.div x y) with
  | some r => canon k r
  | none => nanW k
@[irreducible] def cmF (o : BinOp) (k : FloatKind) (x y : Nat) : Bool :=
  match o with
  | .eql => k.format.order x y == some .eq
  | .neq => k.format.order x y != some .eq
  | .lss => k.format.order x y == some .lt
  | .leq => k.format.order x y == some .lt || k.format.order x y == some .eq
  | .gtr => k.format.order x y == some .gt
  | _ => k.format.order x y == some .gt || k.format.order x y == some .eq
@[irreducible] def ngI (k : IntKind) (x : Int) : Int := k.wrap (0 - x)
@[irreducible] def ngF (k : FloatKind) (x : Nat) : Nat := canon k (x ^^^ 2 ^ (k.format.exponentBits + k.format.fractionBits))
@[irreducible] def notB (b : Bool) : Bool := !b
@[irreducible] def eqB (a b : Bool) : Bool := a == b
@[irreducible] def andB (a b : Bool) : Bool := a && b
@[irreducible] def wrI (k : IntKind) (x : Int) : Int := k.wrap x
@[irreducible] def iToF (k : FloatKind) (x : Int) : Nat := canon k (k.nearest x)
@[irreducible] def fToF (s d : FloatKind) (x : Nat) : Nat := if s = d then x else match s.decode x with | .nan _ _ => nanW d | y => canon d (d.encode y)
@[irreducible] def fToI (s : FloatKind) (x : Nat) : Int := ((s.decode x).toInt .zero).getD 0
@[irreducible] def nth {α : Type} (xs : List α) (i : Nat) (d : α) : α := xs.getD i d
@[irreducible] def upd {α : Type} (xs : List α) (i : Nat) (v : α) : List α := xs.set i v
@[irreducible] def mxI (x y : Int) : Int := if y > x then y else x
@[irreducible] def mnI (x y : Int) : Int := if y < x then y else x
@[irreducible] def mxF (k : FloatKind) (x y : Nat) : Nat :=
  match k.format.order x y with
  | none => nanW k
  | some .lt => y
  | some .gt => x
  | some .eq => if (k.decode x).neg then y else x
@[irreducible] def mnF (k : FloatKind) (x y : Nat) : Nat :=
  match k.format.order x y with
  | none => nanW k
  | some .lt => x
  | some .gt => y
  | some .eq => if (k.decode x).neg then x else y
@[irreducible] def mulN (x y : Nat) : Nat := x * y
@[irreducible] def addN (x y : Nat) : Nat := x + y
@[irreducible] def subN (x y : Nat) : Nat := x - y
@[irreducible] def toN (x : Int) : Nat := x.toNat

/-! marks at which the reckoning stands still -/
@[irreducible] def Side (p : Prop) : Prop := p
@[irreducible] def Leaf (p : Prop) : Prop := p
inductive br : Bool → Prop → Prop → Prop
  | yes {p q : Prop} (h : p) : br true p q
  | no {p q : Prop} (h : q) : br false p q
theorem br_t {p q : Prop} (h : br true p q) : p := by cases h; assumption
theorem br_f {p q : Prop} (h : br false p q) : q := by cases h; assumption

/-! which blocks a value speaks of -/
mutual
def mentions (i : Nat) : AV → Bool
  | .ptr id _ => Nat.beq id i
  | .sl id _ _ _ _ _ => Nat.beq id i
  | .st fs => mentionsL i fs
  | .fn _ fs => mentionsL i fs
  | .tup fs => mentionsL i fs
  | .ifc _ x => mentions i x
  | _ => false
def mentionsL (i : Nat) : List AV → Bool
  | [] => false
  | x :: xs => match mentions i x with
    | true => true
    | false => mentionsL i xs
end
mutual
def below (k : Nat) : AV → Bool
  | .ptr id _ => Nat.blt id k
  | .sl id _ _ _ _ cap => match Nat.blt id k with
    | true => true
    | false => Nat.beq cap 0
  | .st fs => belowL k fs
  | .fn _ fs => belowL k fs
  | .tup fs => belowL k fs
  | .ifc _ x => below k x
  | _ => true
def belowL (k : Nat) : List AV → Bool
  | [] => true
  | x :: xs => match below k x with
    | true => belowL k xs
    | false => false
end
/-- what no longer holds is forgotten -/
def killK (i : Nat) : TS → (TS → Prop) → Prop
  | [], k => k []
  | x :: xs, k => killK i xs fun l => match mentions i x with
    | true => k (.junk :: l)
    | false => k (x :: l)
/-- does no other block speak of this one? -/
def aloneM (i : Nat) : MS → Bool
  | [] => true
  | e :: m => match mentions i e.c with
    | true => false
    | false => aloneM i m
def Weak : TS → TS → Prop
  | [], [] => True
  | x :: xs, y :: ys => (y = x ∨ y = .junk) ∧ Weak xs ys
  | _, _ => False
def belowM (k : Nat) : MS → Bool
  | [] => true
  | e :: m => match below k e.c with
    | true => belowM k m
    | false => false
/-- The last blocks are left away: nothing speaks of them. -/
def Trim (nb : Nat) (ts : TS) (m m' : MS) : Prop :=
  m' = m ∨ ∃ k, nb ≤ k ∧ m' = m.take k ∧ belowL k ts = true ∧ belowM k m' = true

/-! sizes, reading and writing along a path -/
mutual
def szA : AV → Nat
  | .st fs => szL fs
  | .ai n _ => n
  | .af n _ => n
  | .ac n _ => n
  | .ap n _ => 2 * n
  | .tup _ => 0
  | .junk => 0
  | _ => 1
def szL : List AV → Nat
  | [] => 0
  | x :: xs => szA x + szL xs
end

def agA : AV → Bool
  | .st _ | .ai _ _ | .af _ _ | .ac _ _ | .ap _ _ => true
  | _ => false

inductive DOpd where
  | t (n : Nat)
  | c (a : AV)
inductive Ek where
  | i | f | c | p
inductive DOp where
  | mv (x : DOpd)
  | pick (c a b : DOpd)
  | bin (o : BinOp) (bl : Bool) (x y : DOpd)
  | un (o : UnOp) (x : DOpd)
  | cvI (k : IntKind) (x : DOpd)
  | cvF (k : FloatKind) (x : DOpd)
  | cvC (k : FloatKind) (x : DOpd)
  | load (ag : Bool) (n : Nat) (p : DOpd)
  | store (n : Nat) (p v : DOpd)
  | alloc (z : AV)
  | box (x : DOpd)
  | fad (x : DOpd) (i off : Nat)
  | iad (n sz : Nat) (x i : DOpd)
  | ias (sz : Nat) (x i : DOpd)
  | idx (n : Nat) (x i : DOpd)
  | build (zs : List AV) (ps : List (Nat × Nat × Nat × DOpd))
  | bsl (e : Ek) (len : Nat) (ps : List (Nat × DOpd))
  | mks (e : Ek) (l c : DOpd)
  | app (e : Ek) (s x : DOpd)
  | slc (sz : Nat) (x : DOpd) (lo hi mx : Option DOpd)
  | sla (n sz : Nat) (x : DOpd) (lo hi mx : Option DOpd)
  | len (x : DOpd)
  | re (x : DOpd)
  | im (x : DOpd)
  | mkc (x y : DOpd)
  | mxx (x y : DOpd)
  | mnn (x y : DOpd)
  | flo (args : List DOpd)
  | ext (x : DOpd) (i : Nat)
  | call (f : Nat) (args : List DOpd)
  | callv (x : DOpd) (args : List DOpd)
  | mkf (f : Nat) (caps : List DOpd)
  | mki (t : Nat) (x : DOpd)
  | tas (x : DOpd) (t : Nat) (z : AV)
  | tai (x : DOpd) (ts : List Nat) (z : AV)
  | nck (x : DOpd)
  | snl (x : DOpd)
  | six (bs : List Nat) (x : DOpd)
  | inv (x : DOpd) (tab : List (Nat × Nat)) (args : List DOpd)
  | bad
structure DOper where
  dst : Option Nat
  guard : Option (Nat × Bool)
  op : DOp
inductive DCode where
  | skip
  | ops (l : List DOper)
  | drw (h l : List DOper)
  | drg (h1 : List DOper) (g : DOp) (dst : Option Nat) (h2 l : List DOper)
  | seg (segs : List (List DOper × DOp)) (last : List DOper)
  | drs (h1 : List DOper) (g : DOp) (dst : Option Nat) (h2 : List DOper) (s : DOp) (l : List DOper)
  | seq (a b : DCode)
  | cond (c : DOpd) (t e : DCode)
  | block (id : Nat) (b : DCode)
  | loop (b : DCode)
  | exit (id : Nat)
  | ret
inductive DExit where
  | normal | ret | exit (id : Nat)

def evK (ts : TS) : DOpd → (AV → Prop) → Prop
  | .t n, k => getK ts n k
  | .c a, k => k a
def evLK (ts : TS) : List DOpd → (List AV → Prop) → Prop
  | [], k => k []
  | x :: xs, k => evK ts x fun a => evLK ts xs fun l => k (a :: l)

def stCh : List AV → Nat → Nat → Option AV
  | [], _, _ => none
  | x :: _, 0, 0 => some x
  | _ :: _, 0, _ + 1 => none
  | x :: xs, i + 1, off => if szA x ≤ off then stCh xs i (off - szA x) else none
def child : AV → Step → Option AV
  | .st fs, .fld i off => stCh fs i off
  | .ai _ xs, .idx i 1 => some (.raw (.int .i64 (nth xs i 0)))
  | .af _ xs, .idx i 1 => some (.flt .f32 (nth xs i 0))
  | .ac _ xs, .idx i 1 => some (.cpx .f32 (nth xs i (0, 0)).1 (nth xs i (0, 0)).2)
  | .ap _ xs, .idx i 2 => some (.st [.raw (.int .i64 (nth xs i (0, 0)).1), .raw (.int .i64 (nth xs i (0, 0)).2)])
  | _, _ => none
def chB : AV → Step → Prop
  | .ai n _, .idx i _ => i < n
  | .af n _, .idx i _ => i < n
  | .ac n _, .idx i _ => i < n
  | .ap n _, .idx i _ => i < n
  | _, _ => True
def setCh : AV → Step → AV → (AV → Prop) → Prop
  | .st fs, .fld i _, c, k => setK fs i c fun fs => k (.st fs)
  | .ai n xs, .idx i _, .raw (.int .i64 x), k => k (.ai n (upd xs i x))
  | .af n xs, .idx i _, .flt .f32 x, k => k (.af n (upd xs i x))
  | .ac n xs, .idx i _, .cpx .f32 x y, k => k (.ac n (upd xs i (x, y)))
  | .ap n xs, .idx i _, .st [.raw (.int .i64 x), .raw (.int .i64 y)], k => k (.ap n (upd xs i (x, y)))
  | _, _, _, _ => False
/-- what lies at the end of a path, with what must hold of the indexes on the way -/
def rdK : AV → List Step → (AV → Prop) → Prop
  | a, [], k => k a
  | a, s :: p, k =>
    match child a s with
    | some c => match s with
      | .fld _ _ => rdK c p k
      | .idx _ _ => Side (chB a s) ∧ rdK c p k
    | none => False
/-- the content with another value at the end of a path -/
def wrK : AV → List Step → AV → (AV → Prop) → Prop
  | a, [], v, k => if szA a = szA v then k v else False
  | a, s :: p, v, k =>
    match child a s with
    | some c => match s with
      | .fld _ _ => wrK c p v fun c' => setCh a s c' k
      | .idx _ _ => Side (chB a s) ∧ wrK c p v fun c' => setCh a s c' k
    | none => False

def zerosA : Ek → Nat → AV
  | .i, n => .ai n (List.replicate n 0)
  | .f, n => .af n (List.replicate n 0)
  | .c, n => .ac n (List.replicate n (0, 0))
  | .p, n => .ap n (List.replicate n (0, 0))
def eszE : Ek → Nat
  | .p => 2
  | _ => 1
end Go.Fw
