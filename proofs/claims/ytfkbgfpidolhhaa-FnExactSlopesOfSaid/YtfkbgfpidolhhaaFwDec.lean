import Derived.Test.YtfkbgfpidolhhaaFwDef
namespace Go.Fw
open Go

def isArrD : TypeDesc → Bool
  | .struct _ | .array _ _ => true
  | _ => false
def cvA : Value → Option AV
  | .float k b => if (k.decode b).isNaN then none else some (.flt k b)
  | .complex k a b => if (k.decode a).isNaN || (k.decode b).isNaN then none else some (.cpx k a b)
  | .slice none 0 0 => some (nilS 1)
  | .bool b => some (.raw (.bool b))
  | .int k n => some (.raw (.int k n))
  | .pointer none => some (.raw (.pointer none))
  | .nilFunc => some (.raw .nilFunc)
  | .nilIface => some (.raw .nilIface)
  | _ => none
def opdA : Operand → Option DOpd
  | .tmp t => some (.t t)
  | .const v => (cvA v).map .c
  | .func f => some (.c (.fn f []))
  | .global _ => none
def allSome {α β : Type} (f : α → Option β) : List α → Option (List β)
  | [] => some []
  | x :: xs => match f x, allSome f xs with
    | some y, some ys => some (y :: ys)
    | _, _ => none
def ekOf (P : Program) (e : TypeId) : Option Ek :=
  match P.underlying e with
  | some (.int .i64) => some .i
  | some (.float .f32) => some .f
  | some (.complex .f32) => some .c
  | some (.struct fs) => match fs.toList with
    | [a, b] => match P.underlying a.type, P.underlying b.type with
      | some (.int .i64), some (.int .i64) => some .p
      | _, _ => none
    | _ => none
  | _ => none
/-- the zero of a type -/
def zeroA (P : Program) : Nat → TypeId → Option AV
  | 0, _ => none
  | n + 1, t => match P.underlying t with
    | some .bool => some (.raw (.bool false))
    | some (.int k) => some (.raw (.int k 0))
    | some (.float k) => some (.flt k 0)
    | some (.complex k) => some (.cpx k 0 0)
    | some (.pointer _) => some (.raw (.pointer none))
    | some (.func _ _ _) => some (.raw .nilFunc)
    | some (.interface _) => some (.raw .nilIface)
    | some (.slice e) => match ekOf P e with
      | some k => some (nilS (eszE k))
      | none => some (nilS 1)
    | some (.array k e) => match ekOf P e with
      | some ek => some (zerosA ek k)
      | none => none
    | some (.struct fs) => (allSome (fun f => zeroA P n f.type) fs.toList).map .st
    | _ => none
/-- does the zero that is given read as these cells? -/
def zeroIs : AV → List Value → Bool
  | .raw (.bool a), [.bool b] => a == b
  | .raw (.int k a), [.int k' b] => decide (k = k') && a == b
  | .flt k a, [.float k' b] => decide (k = k') && a == b && a == 0
  | .cpx k a b, [.complex k' c d] => decide (k = k') && a == c && b == d && a == 0 && b == 0
  | .raw (.pointer none), [.pointer none] => true
  | .raw .nilFunc, [.nilFunc] => true
  | .raw .nilIface, [.nilIface] => true
  | .sl 1000000 [] _ 0 0 0, [.slice none 0 0] => true
  | _, _ => false
def zerosIs (e : Ek) : Nat → List Value → Bool
  | 0, [] => true
  | n + 1, c :: cs => match e, c, cs with
    | .i, .int .i64 0, _ => zerosIs e n cs
    | .f, .float .f32 0, _ => zerosIs e n cs
    | .c, .complex .f32 0 0, _ => zerosIs e n cs
    | .p, .int .i64 0, .int .i64 0 :: cs => zerosIs e n cs
    | _, _, _ => false
  | _, _ => false
def dsz (P : Program) (t : TypeId) : Option (Bool × Nat) :=
  match P.underlying t, P.info? t with
  | some d, some i => some (isArrD d, i.size)
  | _, _ => none
def zeroBs (g : TypeId → List Value → Option (AV × List Value)) : List TypeId → List Value → Option (List AV × List Value)
  | [], cs => some ([], cs)
  | t :: ts, cs => match g t cs with
    | some (z, r) => match zeroBs g ts r with
      | some (zs, r') => some (z :: zs, r')
      | none => none
    | none => none
/-- the zero of a type, held against the table's own -/
def zeroB (P : Program) : Nat → TypeId → List Value → Option (AV × List Value)
  | 0, _, _ => none
  | n + 1, t, cs => match P.underlying t with
    | some (.array k e) => match ekOf P e with
      | some ek => if zerosIs ek k (cs.take (k * eszE ek)) then some (zerosA ek k, cs.drop (k * eszE ek)) else none
      | none => none
    | some (.struct fs) => match zeroBs (zeroB P n) (fs.toList.map (·.type)) cs with
      | some (zs, r) => some (.st zs, r)
      | none => none
    | _ => match zeroA P 1 t, cs with
      | some z, c :: r => if zeroIs z [c] then some (z, r) else none
      | _, _ => none
def zeroT (P : Program) (t : TypeId) : Option AV :=
  match P.info? t with
  | some i => match i.zero with
    | some z => match zeroB P 8 t z.cells.toList with
      | some (a, []) => some a
      | _ => none
    | none => none
  | none => none
def isOne : Value → Bool
  | .agg _ | .tuple _ => false
  | _ => true
def zeroS (P : Program) (t : TypeId) : Option AV :=
  match P.info? t with
  | some i => match i.zero with
    | some z => if isOne z then zeroT P t else none
    | none => none
  | none => none
def fieldOf (P : Program) (s : TypeId) (f : Nat) : Option Nat :=
  match P.underlying s with
  | some (.struct fs) => match fs[f]? with
    | some fd => match P.info? fd.type with
      | some i => if i.size = 0 then none else some fd.offset
      | none => none
    | none => none
  | _ => none
/-- the kind of a slice's element, its size and its zero held against the table -/
def ekOk (P : Program) (e : TypeId) : Option Ek :=
  match ekOf P e, P.info? e with
  | some k, some i => match i.zero with
    | some z => if i.size == eszE k && decide (i.bytes ≤ 16) && zerosIs k 1 z.cells.toList then some k else none
    | none => none
  | _, _ => none
def partOf (P : Program) (t : TypeId) (p : Nat × Operand) : Option (Nat × Nat × Nat × DOpd) :=
  match P.underlying t with
  | some (.struct fs) => match fs[p.1]?, opdA p.2 with
    | some f, some x => match P.info? f.type with
      | some i => some (p.1, f.offset, i.size, x)
      | none => none
    | _, _ => none
  | _ => none
def seqFrom : Nat → List (Nat × DOpd) → Bool
  | _, [] => true
  | n, (i, _) :: r => i == n && seqFrom (n + 1) r
def missOk (P : Program) (want : Array (String × TypeId)) (t : TypeId) : Bool :=
  match P.info? t with
  | some i => want.toList.all fun x => i.methods.any fun m => m.name == x.1 && m.sig == x.2
  | none => false
def bodyHas (P : Program) (f : Nat) : Bool :=
  match P.funcs[f]? with
  | some fn => fn.body.isSome && fn.name != "runtime.NumGoroutine"
  | none => false
/-- to which function a method's name leads at a type of pointers -/
def invOk (P : Program) (name : String) (t : TypeId) : Option (Nat × Nat) :=
  match P.underlying t, P.info? t with
  | some (.pointer _), some i => match i.methods.toList.find? fun m => m.name == name with
    | some m => match m.path.toList, m.func with
      | [], some (f, true) => if bodyHas P f then some (t, f) else none
      | _, _ => none
    | none => none
  | _, _ => none
def decOp (P : Program) (o : Oper) : Option DOp :=
  match o.op with
  | .move x | .assign x => (opdA x).map .mv
  | .pick c a b => match opdA c, opdA a, opdA b with
    | some c, some a, some b => some (.pick c a b)
    | _, _, _ => none
  | .alloc e => (zeroT P e).map .alloc
  | .box _ v => (opdA v).map .box
  | .build t ps => match P.underlying t, zeroT P t, allSome (partOf P t) ps.toList with
    | some (.struct fs), some (.st zs), some ps => if fs.toList.all fun f => (P.info? f.type).isSome then some (.build zs ps) else none
    | _, _, _ => none
  | .buildSlice t n ps => match P.underlying t, allSome (fun p => (opdA p.2).map fun y => (p.1, y)) ps.toList with
    | some (.slice e), some ps => match ekOk P e with
      | some k => if seqFrom 0 ps && ps.length == n && n < 1000 then some (.bsl k n ps) else none
      | none => none
    | _, _ => none
  | .load t a => match dsz P t, opdA a with
    | some (g, n), some a => some (.load g n a)
    | _, _ => none
  | .store t a v => match dsz P t, opdA a, opdA v with
    | some (_, n), some a, some v => if n = 0 then none else some (.store n a v)
    | _, _, _ => none
  | .nilCheck x => (opdA x).map .nck
  | .binOp .eql t x (.const (.slice none 0 0)) _ => match P.underlying t with
    | some (.slice _) => (opdA x).map .snl
    | _ => none
  | .binOp op t x y _ => match P.underlying t, opdA x, opdA y with
    | some d, some x, some y => some (.bin op (d matches .bool) x y)
    | _, _, _ => none
  | .unOp op _ x => (opdA x).map (.un op)
  | .convert s d x => match P.underlying s, P.underlying d, opdA x with
    | some _, some (.int k), some x => some (.cvI k x)
    | some _, some (.float k), some x => some (.cvF k x)
    | some _, some (.complex k), some x => some (.cvC k x)
    | _, _, _ => none
  | .makeInterface t x => match P.underlying t, opdA x with
    | some (.interface _), _ => none
    | some _, some x => some (.mki t x)
    | _, _ => none
  | .makeFunc (.func f) first caps => match first.toList, allSome opdA caps.toList with
    | [], some cs => some (.mkf f cs)
    | _, _ => none
  | .makeSlice t l c => match P.underlying t, opdA l, opdA c with
    | some (.slice e), some l, some c => match ekOk P e with
      | some k => some (.mks k l c)
      | none => none
    | _, _, _ => none
  | .slice t x lo hi mx => match P.underlying t, opdA x, allSome opdA lo.toList, allSome opdA hi.toList, allSome opdA mx.toList with
    | some (.array n e), some x, some lo, some hi, some mx => match ekOk P e with
      | some k => some (.sla n (eszE k) x lo.head? hi.head? mx.head?)
      | none => none
    | some (.slice e), some x, some lo, some hi, some mx => match ekOk P e with
      | some k => some (.slc (eszE k) x lo.head? hi.head? mx.head?)
      | none => none
    | _, _, _, _, _ => none
  | .fieldAddr s x f => match fieldOf P s f, opdA x with
    | some off, some x => some (.fad x f off)
    | _, _ => none
  | .indexAddr t x i => match P.underlying t, opdA x, opdA i with
    | some (.array n e), some x, some i => match P.info? e with
      | some j => if n ≤ 1 then none else some (.iad n j.size x i)
      | none => none
    | some (.slice e), some x, some i => match P.info? e with
      | some j => some (.ias j.size x i)
      | none => none
    | _, _, _ => none
  | .index t (.const (.string s)) i => match P.underlying t, opdA i with
    | some .string, some i => some (.six (s.data.toList.map UInt8.toNat) i)
    | _, _ => none
  | .index t x i => match P.underlying t, opdA x, opdA i with
    | some (.array n e), some x, some i => match P.underlying e, P.info? e with
      | some d, some j => if isArrD d || j.size != 1 then none else some (.idx n x i)
      | _, _ => none
    | _, _, _ => none
  | .extract t i => (opdA t).map fun x => .ext x i
  | .typeAssert x _ t true => match P.underlying t, opdA x, zeroS P t with
    | some (.interface want), some x, some z => some (.tai x ((List.range P.types.size).filter (missOk P want)) z)
    | some _, some x, some z => some (.tas x t z)
    | _, _, _ => none
  | .call c => match c.callee, allSome opdA c.args.toList with
    | .value (.func f), some as => match P.funcs[f]? with
      | some fn => if fn.body.isSome && fn.name != "runtime.NumGoroutine" then some (.call f as) else if fn.body.isNone && fn.name == "math.archFloor" && fn.origin == "" then some (.flo as) else none
      | none => none
    | .value (.tmp t), some as => some (.callv (.t t) as)
    | .invoke (.tmp t) name, some as => some (.inv (.t t) ((List.range P.types.size).filterMap (invOk P name)) as)
    | .builtin .len, some [x] => match (c.argTypes[0]?).bind P.underlying with
      | some (.slice _) => some (.len x)
      | _ => none
    | .builtin .append, some [s, x] => match c.argTypes.toList with
      | [t, t'] => match P.underlying t with
        | some (.slice e) => match ekOk P e with
          | some k => if t = t' then some (.app k s x) else none
          | none => none
        | _ => none
      | _ => none
    | .builtin .real, some [x] => some (.re x)
    | .builtin .imag, some [x] => some (.im x)
    | .builtin .complex, some [x, y] => some (.mkc x y)
    | .builtin .max, some [x, y] => some (.mxx x y)
    | .builtin .min, some [x, y] => some (.mnn x y)
    | _, _ => none
  | _ => none
def decOper (P : Program) (ops : Array Oper) (o : Oper) : Option DOper :=
  match o.guard with
    | none => some ⟨o.dst, none, (decOp P o).getD .bad⟩
    | some (j, b) => match (ops[j]?).bind (·.dst) with
      | some t => some ⟨o.dst, some (t, b), (decOp P o).getD .bad⟩
      | none => none
def quiet : DOp → Bool
  | .mv _ | .pick _ _ _ | .bin _ _ _ _ | .un _ _ | .cvI _ _ | .cvF _ _ | .cvC _ _ | .load _ _ _ | .fad _ _ _ | .iad _ _ _ _ | .ias _ _ _ | .idx _ _ _ | .build _ _ | .slc _ _ _ _ _ | .sla _ _ _ _ _ _ | .len _ | .re _ | .im _ | .mkc _ _ | .mxx _ _ | .mnn _ _ | .ext _ _ | .call _ _ | .callv _ _ | .mkf _ _ | .mki _ _ | .tas _ _ _ | .tai _ _ _ | .nck _ | .snl _ | .six _ _ => true
  | _ => false
def rdO : DOpd → List Nat
  | .t n => [n]
  | .c _ => []
def rdOs : List DOpd → List Nat
  | [] => []
  | x :: xs => rdO x ++ rdOs xs
def rdOo : Option DOpd → List Nat
  | none => []
  | some x => rdO x
def readsOf : DOp → List Nat
  | .mv x | .un _ x | .cvI _ x | .cvF _ x | .cvC _ x | .load _ _ x | .box x | .fad x _ _ | .len x | .re x | .im x | .ext x _ | .mki _ x | .tas x _ _ | .tai x _ _ | .nck x | .snl x | .six _ x => rdO x
  | .pick c a b => rdO c ++ rdO a ++ rdO b
  | .bin _ _ x y | .store _ x y | .iad _ _ x y | .ias _ x y | .idx _ x y | .mks _ x y | .app _ x y | .mkc x y | .mxx x y | .mnn x y => rdO x ++ rdO y
  | .alloc _ | .bad => []
  | .build _ ps => rdOs (ps.map fun p => p.2.2.2)
  | .bsl _ _ ps => rdOs (ps.map fun p => p.2)
  | .slc _ x lo hi mx | .sla _ _ x lo hi mx => rdO x ++ rdOo lo ++ rdOo hi ++ rdOo mx
  | .flo xs | .call _ xs | .mkf _ xs => rdOs xs
  | .callv x xs => rdO x ++ rdOs xs
  | .inv x _ xs => rdO x ++ rdOs xs
def readsD (d : DOper) : List Nat :=
  match d.guard with
  | some (g, _) => g :: readsOf d.op
  | none => readsOf d.op
def quietLen : List DOper → Nat
  | [] => 0
  | d :: l => if quiet d.op then quietLen l + 1 else 0
/-- what an operation must wait for, whatever the order -/
def waitsOn (ops : Array Oper) (i : Nat) : List Nat :=
  match ops[i]? with
  | some o => (o.after.toList.filter (Region.binds .any)).map (·.on)
  | none => []
def listedN (n m : Nat) : Array Bool := (List.replicate n true ++ List.replicate (m - n) false).toArray
def readOk (ops : Array Oper) (l : List DOper) (n i : Nat) (r : Nat) : Bool :=
  (List.range n).all fun j => match l[j]? with
    | some dj => if dj.dst = some r then (if j < i then (waitsOn ops i).contains j else (j == i || (waitsOn ops j).contains i)) else true
    | none => true
def headOk (ops : Array Oper) (l : List DOper) (n i : Nat) : Bool :=
  match l[i]? with
  | some d => quiet d.op && ((waitsOn ops i).all fun j => decide (j < i)) && ((readsD d).all fun r => readOk ops l n i r)
      && ((List.range n).all fun j => j == i || match l[j]? with | some dj => d.dst.isNone || dj.dst != d.dst | none => true)
  | none => false
/-- A region in any order: what may lie in any order behind one another, then what may not. -/
def checkDraw (ops : Array Oper) (l : List DOper) (n : Nat) : Bool :=
  decide (n ≤ ops.size) && ((List.range n).all fun i => headOk ops l n i)
    && (n == ops.size || (Region.sinkB .any ops n && Region.chainB .any ops n))
    && Region.seqB .any ops (ops.size - n) n (listedN n ops.size)
/-- may one operation of the head make blocks? -/
def growD : DOp → Bool
  | .alloc _ | .bsl _ _ _ => true
  | _ => false
/-- the length of a head in which one operation may make blocks -/
def headLen : Bool → List DOper → Nat
  | _, [] => 0
  | b, d :: l => if quiet d.op then headLen b l + 1 else if b && growD d.op then headLen false l + 1 else 0
def growAt : Nat → List DOper → Option Nat
  | _, [] => none
  | i, d :: l => if growD d.op then some i else growAt (i + 1) l
def isSlc (P : Program) (t : TypeId) : Bool :=
  match P.underlying t with
  | some (.slice _) => true
  | _ => false
/-- a call that answers a slice may make blocks -/
def growCall (P : Program) (d : DOper) : Bool :=
  match d.op with
  | .call f _ => match P.funcs[f]? with
    | some fn => match fn.resultTypes.toList with
      | [t] => isSlc P t
      | _ => false
    | none => false
  | _ => false
def growCallAt (P : Program) : Nat → List DOper → Option Nat
  | _, [] => none
  | i, d :: l => if growCall P d then some i else growCallAt P (i + 1) l
/-- which operations wait for the one that grows -/
def depsOn (ops : Array Oper) (g : Nat) : List Nat → List Nat → List Nat
  | [], acc => acc
  | i :: is, acc => if (waitsOn ops i).any (fun j => j == g || acc.contains j) then depsOn ops g is (acc ++ [i]) else depsOn ops g is acc
def wrD (l : List DOper) (r j : Nat) : Bool :=
  match l[j]? with
  | some d => d.dst == some r
  | none => false
/-- in this order: who reads what another writes, waits for it, or the other for the reader -/
def readsP (ops : Array Oper) (l : List DOper) : List Nat → List Nat → Bool
  | _, [] => true
  | done, i :: rest => (match l[i]? with
    | some d => (readsD d).all fun r => (done.all fun j => !wrD l r j || (waitsOn ops i).contains j) && (rest.all fun j => !wrD l r j || (waitsOn ops j).contains i)
    | none => false) && readsP ops l (done ++ [i]) rest
def nodupB : List Nat → Bool
  | [] => true
  | i :: l => !l.contains i && nodupB l
def hdG (ops : Array Oper) (l : List DOper) (n g s i : Nat) : Bool :=
  match l[i]? with
  | some d => (i == g || i == s || quiet d.op) && ((waitsOn ops i).all fun j => decide (j < i))
      && ((List.range n).all fun j => j == i || match l[j]? with | some dj => d.dst.isNone || dj.dst != d.dst | none => true)
  | none => false
def checkG (ops : Array Oper) (l : List DOper) (n g s : Nat) (h1 h2 : List Nat) : Bool :=
  decide (n ≤ ops.size) && ((List.range n).all fun i => hdG ops l n g s i)
    && ((List.range n).all fun i => (h1 ++ g :: h2).contains i) && ((h1 ++ g :: h2).all fun i => decide (i < n)) && nodupB (h1 ++ g :: h2)
    && (h2.all fun i => (waitsOn ops i).any fun j => j == g || h2.contains j)
    && readsP ops l [] (h1 ++ g :: h2)
    && (n == ops.size || (Region.sinkB .any ops n && Region.chainB .any ops n))
    && Region.seqB .any ops (ops.size - n) n (listedN n ops.size)
def decG (ops : Array Oper) (l : List DOper) (n g : Nat) : Option DCode :=
  match l[g]? with
  | some ⟨dst, none, op⟩ =>
    let h2 := depsOn ops g (List.range n) []
    let h1 := (List.range n).filter fun i => !(i == g) && !h2.contains i
    if checkG ops l n g n h1 h2 then some (.drg (h1.filterMap (l[·]?)) op dst (h2.filterMap (l[·]?)) (l.drop n)) else none
  | _ => none
/-- does it neither look at the blocks nor make any? -/
def pureD : DOp → Bool
  | .load _ _ _ | .call _ _ | .callv _ _ => false
  | op => quiet op
def isStore : DOp → Bool
  | .store _ _ _ => true
  | _ => false
/-- what a store need not wait for is pure -/
def lateB (ops : Array Oper) (l : List DOper) (s : Nat) (h1 : List Nat) : Bool :=
  (List.range s).all fun i => (waitsOn ops s).contains i || (h1.contains i && match l[i]? with | some d => pureD d.op | none => false)
/-- a head that ends in a store -/
def decS (ops : Array Oper) (l : List DOper) (s g : Nat) : Option DCode :=
  match l[g]?, l[s]? with
  | some ⟨dst, none, op⟩, some ⟨none, none, st⟩ =>
    let h2 := depsOn ops g (List.range s) []
    let h1 := (List.range s).filter fun i => !(i == g) && !h2.contains i
    if checkG ops l (s + 1) g s h1 (h2 ++ [s]) && lateB ops l s h1 && isStore st then some (.drs (h1.filterMap (l[·]?)) op dst (h2.filterMap (l[·]?)) st (l.drop (s + 1))) else none
  | _, _ => none
/-! stores, one behind another, in a region of any order -/
/-- how many stores an operation must wait for -/
def levOf (sp : List Nat) (levs : List (Nat × Nat)) : List Nat → Nat
  | [] => 0
  | j :: r => max (match levs.find? (·.1 == j) with | some (_, v) => if sp.contains j then v + 1 else v | none => 0) (levOf sp levs r)
def levsOf (ops : Array Oper) (sp : List Nat) : List Nat → List (Nat × Nat) → List (Nat × Nat)
  | [], acc => acc
  | i :: r, acc => levsOf ops sp r (acc ++ [(i, levOf sp acc (waitsOn ops i))])
def pureAt (l : List DOper) (i : Nat) : Bool :=
  match l[i]? with
  | some d => pureD d.op
  | none => false
def quietAt (l : List DOper) (i : Nat) : Bool :=
  match l[i]? with
  | some d => quiet d.op
  | none => false
def storeAt (l : List DOper) (i : Nat) : Option DOp :=
  match l[i]? with
  | some ⟨none, none, op⟩ => if isStore op then some op else none
  | _ => none
def flatS : List (List Nat × Nat) → List Nat → List Nat
  | [], last => last
  | (q, s) :: r, last => q ++ s :: flatS r last
def segOk (ops : Array Oper) (l : List DOper) : List Nat → List (List Nat × Nat) → List Nat → Bool
  | _, [], last => last.all (quietAt l)
  | p0, (q, s) :: r, last => (q.all (quietAt l)) && (storeAt l s).isSome
      && ((flatS r last).all fun j => (waitsOn ops j).any fun x => x == s || (flatS r last).contains x)
      && ((p0 ++ q).all fun i => (waitsOn ops s).contains i || pureAt l i)
      && segOk ops l (p0 ++ q ++ [s]) r last
def hasD (ops : Array Oper) (l : List DOper) (n i : Nat) : Bool :=
  match l[i]? with
  | some d => ((waitsOn ops i).all fun j => decide (j < i)) && ((List.range n).all fun j => j == i || match l[j]? with | some dj => d.dst.isNone || dj.dst != d.dst | none => true)
  | none => false
def checkSeg (ops : Array Oper) (l : List DOper) (segs : List (List Nat × Nat)) (last : List Nat) : Bool :=
  ((List.range ops.size).all fun i => hasD ops l ops.size i)
    && ((List.range ops.size).all fun i => (flatS segs last).contains i) && ((flatS segs last).all fun i => decide (i < ops.size)) && nodupB (flatS segs last)
    && readsP ops l [] (flatS segs last)
    && segOk ops l [] segs last
def decSeg (ops : Array Oper) (l : List DOper) : Option DCode :=
  let sp := (List.range ops.size).filter fun i => (storeAt l i).isSome
  let levs := levsOf ops sp (List.range ops.size) []
  let at_ := fun t => (levs.filter fun x => x.2 == t && !sp.contains x.1).map (·.1)
  let segs := sp.zipIdx.map fun (s, t) => (at_ t, s)
  let last := at_ sp.length
  if checkSeg ops l segs last then (allSome (fun (x : List Nat × Nat) => (storeAt l x.2).map fun op => (x.1.filterMap (l[·]?), op)) segs).map fun ds => .seg ds (last.filterMap (l[·]?)) else none
def decDraw (P : Program) (ops : Array Oper) (l : List DOper) : Option DCode :=
  match (growCallAt P 0 (l.take (quietLen l))).bind (decG ops l (quietLen l)) with
  | some d => some d
  | none => if checkDraw ops l (quietLen l) then some (.drw (l.take (quietLen l)) (l.drop (quietLen l))) else match (growAt 0 (l.take (headLen true l))).bind (decG ops l (headLen true l)) with
    | some d => some d
    | none => match (growAt 0 (l.take (headLen true l))).bind (decS ops l (headLen true l)) with
      | some d => some d
      | none => decSeg ops l
def decCode (P : Program) : Code → Option DCode
  | .skip => some .skip
  | .region _ ops draw => match allSome (decOper P ops) ops.toList with
    | some l => if draw then decDraw P ops l else some (.ops l)
    | none => none
  | .seq a b => match decCode P a, decCode P b with
    | some a, some b => some (.seq a b)
    | _, _ => none
  | .cond c t e => match opdA c, decCode P t, decCode P e with
    | some c, some t, some e => some (.cond c t e)
    | _, _, _ => none
  | .block i b => (decCode P b).map (.block i)
  | .loop b => (decCode P b).map .loop
  | .exit i => some (.exit i)
  | .ret => some .ret
  | _ => none
end Go.Fw
