import Derived.Test.YtfkbgfpidolhhaaFwMem
namespace Go.Fw
open Go
/-! one operation -/
/-- what a call leaves -/
def RetK (w0 : World) (o : List Nat) (L : Locs) (K : AV → MS → Prop) (e : Ending) (w' : World) : Prop :=
  ∃ v a m' L', e = .returned v ∧ Ext L L' ∧ Rv L' a v ∧ Rep w0 o L' m' w' ∧ K a m'
/-- A call: what it does is told by a contract. -/
structure CallLeaf (P : Program) (w0 : World) (f : Nat) (args : List AV) (m : MS) (K : AV → MS → Prop) : Prop where
  out : ∀ (o : List Nat) (L : Locs) (w : World) (cargs : List Value), Rep w0 o L m w → RvL L args cargs → Calls P f cargs.toArray w (RetK w0 o L K)
def fnHas (P : Program) (f : Nat) : Bool :=
  match P.funcs[f]? with
  | some fn => fn.body.isSome && fn.name != "runtime.NumGoroutine"
  | none => false
/-- A call of a function value that is not looked into. -/
structure CallVLeaf (P : Program) (w0 : World) (fv : Value) (args : List AV) (m : MS) (K : AV → MS → Prop) : Prop where
  out : ∃ f cs, fv = .func (.func f) #[] cs ∧ fnHas P f = true ∧
    ∀ (o : List Nat) (L : Locs) (w : World) (cargs : List Value), Rep w0 o L m w → RvL L args cargs → Calls P f (cargs.toArray ++ cs) w (RetK w0 o L K)

def arr : Ek → List AV → Nat → Option AV
  | .i, l, n => go1 l (fun xs => .ai n xs)
  | .f, l, n => go2 l (fun xs => .af n xs)
  | .c, l, n => go3 l (fun xs => .ac n xs)
  | .p, l, n => go4 l (fun xs => .ap n xs)
where
  go1 : List AV → (List Int → AV) → Option AV
    | [], k => some (k [])
    | .raw (.int .i64 x) :: l, k => go1 l fun xs => k (x :: xs)
    | _, _ => none
  go2 : List AV → (List Nat → AV) → Option AV
    | [], k => some (k [])
    | .flt .f32 x :: l, k => go2 l fun xs => k (x :: xs)
    | _, _ => none
  go3 : List AV → (List (Nat × Nat) → AV) → Option AV
    | [], k => some (k [])
    | .cpx .f32 x y :: l, k => go3 l fun xs => k ((x, y) :: xs)
    | _, _ => none
  go4 : List AV → (List (Int × Int) → AV) → Option AV
    | [], k => some (k [])
    | .st [.raw (.int .i64 x), .raw (.int .i64 y)] :: l, k => go4 l fun xs => k ((x, y) :: xs)
    | _, _ => none
def isArith : BinOp → Bool
  | .add | .sub | .mul | .quo | .rem | .and | .or | .xor | .andNot => true
  | _ => false
def isFArith : BinOp → Bool
  | .add | .sub | .mul | .quo => true
  | _ => false
def isCmp : BinOp → Bool
  | .eql | .neq | .lss | .leq | .gtr | .geq => true
  | _ => false
def isShift : BinOp → Bool
  | .shl | .shr => true
  | _ => false
def isDiv : BinOp → Bool
  | .quo | .rem => true
  | _ => false
/-- the content of an array of elements, one more element at its end -/
def appA : AV → Nat → AV → Option AV
  | .ai _ xs, n, .ai _ ys => some (.ai n (xs ++ ys))
  | .af _ xs, n, .af _ ys => some (.af n (xs ++ ys))
  | .ac _ xs, n, .ac _ ys => some (.ac n (xs ++ ys))
  | .ap _ xs, n, .ap _ ys => some (.ap n (xs ++ ys))
  | _, _, _ => none
def isScalar : AV → Bool
  | .raw _ | .flt _ _ | .cpx _ _ _ | .ptr _ _ | .sl _ _ _ _ _ _ | .fn _ _ | .ifc _ _ => true
  | _ => false
def notTup : AV → Bool
  | .tup _ => false
  | .junk => false
  | _ => true
def isEk : Ek → AV → Bool
  | .i, .ai _ _ => true
  | .f, .af _ _ => true
  | .c, .ac _ _ => true
  | .p, .ap _ _ => true
  | _, _ => false
def lenA : AV → Nat
  | .ai n _ => n
  | .af n _ => n
  | .ac n _ => n
  | .ap n _ => n
  | _ => 0
def fillK (ts : TS) : List AV → List (Nat × Nat × Nat × DOpd) → (List AV → Prop) → Prop
  | zs, [], k => k zs
  | zs, (i, off, sz, x) :: ps, k => evK ts x fun v => match stCh zs i off with
    | some c => if szA c = szA v then (if szA v = sz then (match notTup v with
      | true => setK zs i v fun zs => fillK ts zs ps k
      | false => False) else False) else False
    | none => False

def lookN (t : Nat) : List (Nat × Nat) → Option Nat
  | [] => none
  | (a, f) :: l => if t = a then some f else lookN t l
/-- the next whole number below, by bits -/
def flF (a : Nat) : Nat := canon .f64 (FloatKind.f64.encode ((FloatKind.f64.decode a).integral .down))
/-- exactly one block more -/
structure GrowLeaf (m m' : MS) (K : Prop) : Prop where
  out : (∃ e, m' = m ++ [e]) ∧ K
def aop (P : Program) (w0 : World) (op : DOp) (ts : TS) (m : MS) (K : AV → MS → Prop) : Prop :=
  match op with
  | .mv x => evK ts x fun v => K v m
  | .pick c a b => evK ts c fun c => match c with
    | .raw (.bool t) => br t (evK ts a fun v => K v m) (evK ts b fun v => K v m)
    | _ => False
  | .bin o bl x y => evK ts x fun x => evK ts y fun y => match x, y with
    | .raw (.int k a), .raw (.int k' b) =>
      match isShift o with
      | true => Side (0 ≤ b) ∧ K (.raw (.int k (shI o k a b))) m
      | false => if k = k' then
          match isArith o with
          | true => match isDiv o with
            | true => Side (b ≠ 0) ∧ K (.raw (.int k (arI o k a b))) m
            | false => K (.raw (.int k (arI o k a b))) m
          | false => K (.raw (.bool (cmI o a b))) m
        else False
    | .flt k a, .flt k' b => if k = k' then
        match isFArith o with
        | true => K (.flt k (arF o k a b)) m
        | false => match isCmp o with
          | true => K (.raw (.bool (cmF o k a b))) m
          | false => False
      else False
    | .raw (.bool a), .raw (.bool b) => match bl, o with
      | true, .eql => K (.raw (.bool (eqB a b))) m
      | true, .neq => K (.raw (.bool (notB (eqB a b)))) m
      | _, _ => False
    | .cpx k a b, .cpx k' c d => if k = k' then
        match o with
        | .eql => K (.raw (.bool (andB (cmF .eql k a c) (cmF .eql k b d)))) m
        | .neq => K (.raw (.bool (notB (andB (cmF .eql k a c) (cmF .eql k b d))))) m
        | .add => K (.cpx k (arF .add k a c) (arF .add k b d)) m
        | .sub => K (.cpx k (arF .sub k a c) (arF .sub k b d)) m
        | _ => False
      else False
    | _, _ => False
  | .un o x => evK ts x fun x => match o, x with
    | .not, .raw (.bool b) => K (.raw (.bool (notB b))) m
    | .neg, .raw (.int k a) => K (.raw (.int k (ngI k a))) m
    | .neg, .flt k a => K (.flt k (ngF k a)) m
    | _, _ => False
  | .cvI k x => evK ts x fun x => match x with
    | .raw (.int _ a) => K (.raw (.int k (wrI k a))) m
    | .flt s a => Side (k.min ≤ fToI s a ∧ fToI s a ≤ k.max ∧ ((s.decode a).toInt .zero).isSome = true) ∧ K (.raw (.int k (fToI s a))) m
    | _ => False
  | .cvF k x => evK ts x fun x => match x with
    | .raw (.int _ a) => K (.flt k (iToF k a)) m
    | .flt s a => match s, k with
      | .f32, .f64 => K (.flt k (fToF s k a)) m
      | .f32, .f32 => K (.flt k a) m
      | .f64, .f64 => K (.flt k a) m
      | .f64, .f32 => False
    | _ => False
  | .cvC k x => evK ts x fun x => match x with
    | .cpx s a b => match s, k with
      | .f32, .f64 => K (.cpx k (fToF s k a) (fToF s k b)) m
      | _, _ => False
    | _ => False
  | .load ag n p => evK ts p fun p => match p with
    | .ptr id path => match getE m id with
      | some e => rdK e.c path fun v => if agA v = ag then (if szA v = n then K v m else False) else False
      | none => False
    | _ => False
  | .store n p v => evK ts p fun p => evK ts v fun v => match p with
    | .ptr id path => match getE m id with
      | some e => if szA v = n then match e.own with
        | true => wrK e.c path v fun c => setEK m id ⟨true, c, e.cap⟩ fun m => K undefA m
        | false => False
        else False
      | none => False
    | _ => False
  | .alloc z => newK m z 0 fun i m => K (.ptr i []) m
  | .box x => evK ts x fun v => match notTup v with
    | true => newK m v 0 fun i m => K (.ptr i []) m
    | false => False
  | .fad x i off => evK ts x fun x => match x with
    | .ptr id path => snocK path (.fld i off) fun path => K (.ptr id path) m
    | _ => False
  | .iad n sz x i => evK ts x fun x => evK ts i fun i => match x, i with
    | .ptr id path, .raw (.int _ j) => Side (0 ≤ j ∧ j < (n : Int)) ∧ snocK path (.idx (toN j) sz) fun path => K (.ptr id path) m
    | _, _ => False
  | .ias sz x i => evK ts x fun x => evK ts i fun i => match x, i with
    | .sl id path esz lo len _, .raw (.int _ j) => if sz = esz then Side (0 ≤ j ∧ j < (len : Int)) ∧ snocK path (.idx (addN lo (toN j)) sz) fun path => K (.ptr id path) m else False
    | _, _ => False
  | .idx n x i => evK ts x fun x => evK ts i fun i => match i with
    | .raw (.int _ j) => match child x (.idx (toN j) 1) with
      | some v => Side (0 ≤ j ∧ j < (n : Int) ∧ chB x (.idx (toN j) 1)) ∧ K v m
      | none => False
    | _ => False
  | .build zs ps => fillK ts zs ps fun fs => K (.st fs) m
  | .bsl e n ps => evLK ts (ps.map (·.2)) fun l => match arr e l n with
    | some c => newK m c (n * eszE e) fun i m => K (.sl i [] (eszE e) 0 n n) m
    | none => False
  | .mks e l c => evK ts l fun l => evK ts c fun c => match l, c with
    | .raw (.int .i64 a), .raw (.int .i64 b) => Side (a = b ∧ 0 ≤ a ∧ a ≤ 1048576) ∧ newK m (zerosA e (toN a)) (mulN (toN a) (eszE e)) fun i m => K (.sl i [] (eszE e) 0 (toN a) (toN a)) m
    | _, _ => False
  | .app _ _ _ => False
  | .len x => evK ts x fun x => match x with
    | .sl _ _ _ _ n _ => K (.raw (.int .i64 n)) m
    | _ => False
  | .re x => evK ts x fun x => match x with
    | .cpx k a _ => K (.flt k a) m
    | _ => False
  | .im x => evK ts x fun x => match x with
    | .cpx k _ b => K (.flt k b) m
    | _ => False
  | .mkc x y => evK ts x fun x => evK ts y fun y => match x, y with
    | .flt k a, .flt k' b => if k = k' then K (.cpx k a b) m else False
    | _, _ => False
  | .ext x i => evK ts x fun x => match x with
    | .tup vs => if i < vs.length then getK vs i fun v => K v m else False
    | _ => False
  | .call f args => evLK ts args fun as => CallLeaf P w0 f as m K
  | .callv x args => evK ts x fun x => evLK ts args fun as => match x with
    | .fn f caps => Side (fnHas P f = true) ∧ catK as caps fun as => CallLeaf P w0 f as m K
    | .raw v => CallVLeaf P w0 v as m K
    | _ => False
  | .mkf f caps => evLK ts caps fun cs => if cs.all isScalar then K (.fn f cs) m else False
  | .mki t x => evK ts x fun x => if (agA x == false && notTup x) = true then K (.ifc t x) m else False
  | .tai x ok z => evK ts x fun x => match x with
    | .ifc t' v => if ok.contains t' then Side (t' < P.types.size) ∧ K (.tup [.ifc t' v, .raw (.bool true)]) m else Side (t' < P.types.size) ∧ if agA z = false then K (.tup [z, .raw (.bool false)]) m else False
    | _ => False
  | .tas x t z => evK ts x fun x => match x with
    | .ifc t' v => if t = t' then K (.tup [v, .raw (.bool true)]) m else if agA z = false then K (.tup [z, .raw (.bool false)]) m else False
    | _ => False
  | .nck x => evK ts x fun x => match x with
    | .ptr id path => K (.ptr id path) m
    | _ => False
  | .snl x => evK ts x fun x => match x with
    | .sl _ _ _ _ _ cap => Side (0 < cap) ∧ K (.raw (.bool false)) m
    | _ => False
  | .six bs x => evK ts x fun x => match x with
    | .raw (.int _ i) => Side (0 ≤ i ∧ i < (bs.length : Int)) ∧ K (.raw (.int .u8 (nthB bs i))) m
    | _ => False
  | .mxx x y => evK ts x fun x => evK ts y fun y => match x, y with
    | .raw (.int k a), .raw (.int _ b) => K (.raw (.int k (mxI a b))) m
    | .flt k a, .flt k' b => if k = k' then K (.flt k (mxF k a b)) m else False
    | _, _ => False
  | .mnn x y => evK ts x fun x => evK ts y fun y => match x, y with
    | .raw (.int k a), .raw (.int _ b) => K (.raw (.int k (mnI a b))) m
    | .flt k a, .flt k' b => if k = k' then K (.flt k (mnF k a b)) m else False
    | _, _ => False
  | .sla n sz x lo hi mx => evK ts x fun x => match x, lo, hi, mx with
    | .ptr id path, none, some h, none => evK ts h fun h => match h with
      | .raw (.int _ h) => Side (0 ≤ h ∧ h ≤ (n : Int)) ∧ K (.sl id path sz 0 (toN h) n) m
      | _ => False
    | _, _, _, _ => False
  | .slc sz x lo hi mx => evK ts x fun x => match x, lo, hi, mx with
    | .sl id path esz l n c, some a, none, none => evK ts a fun a => match a with
      | .raw (.int _ a) => if sz = esz then Side (0 ≤ a ∧ a ≤ (n : Int)) ∧ K (.sl id path esz (addN l (toN a)) (subN n (toN a)) (subN c (toN a))) m else False
      | _ => False
    | .sl id path esz l _ _, none, some h, some x => evK ts h fun h => evK ts x fun x => match h, x with
      | .raw (.int _ 0), .raw (.int _ 0) => if sz = esz then K (.sl id path esz l 0 0) m else False
      | _, _ => False
    | _, _, _, _ => False
  | .flo xs => match xs with
    | [x] => evK ts x fun x => match x with
      | .flt .f64 a => Side ((FloatKind.f64.decode a).isNaN = false) ∧ K (.flt .f64 (flF a)) m
      | _ => False
    | _ => False
  | .inv x tab args => evK ts x fun x => evLK ts args fun as => match x with
    | .ifc t v => match lookN t tab with
      | some f => CallLeaf P w0 f (v :: as) m K
      | none => False
    | _ => False
  | .bad => False

def putK (ts : TS) (d : Option Nat) (v : AV) (k : TS → Prop) : Prop :=
  match d with
  | some d => setK ts d v k
  | none => k ts

/-- append: the elements may go to another block; what spoke of the old one is forgotten -/
def appS (nb : Nat) (e : Ek) (s x : AV) (ts : TS) (m : MS) (K : AV → TS → MS → Prop) : Prop :=
  match s, x with
  | .sl i p esz lo n cap, .sl j q esz' lo' n' _ => match p, q, lo, lo' with
    | [], [], 0, 0 => match getE m j with
      | some ej => if eszE e = esz' then if isEk e ej.c = true then match getE m i with
        | some ei => if eszE e = esz then match ei.own with
          | true => if nb ≤ i then match appA ei.c (addN n n') ej.c with
            | some c => match aloneM i m, belowM m.length m with
              | true, true => Side (i ≠ j ∧ lenA ei.c = n ∧ lenA ej.c = n' ∧ n + n' ≤ 1048576 ∧ ei.cap = cap * esz) ∧
                  ∀ cap, killK i ts fun ts => setEK m i ⟨true, c, cap * esz⟩ fun m => K (.sl i [] esz 0 (addN n n') cap) ts m
              | _, _ => False
            | none => False else False
          | false => False else False
        | none => match n, cap with
          | 0, 0 => (n' = 0 → K (nilS (eszE e)) ts m) ∧ (0 < n' → Side (lenA ej.c = n' ∧ n' ≤ 1048576) ∧ ∀ cap, newK m ej.c (cap * eszE e) fun i m => K (.sl i [] (eszE e) 0 n' cap) ts m)
          | _, _ => False
        else False else False
      | none => False
    | _, _, _, _ => False
  | _, _ => False
def aopX (P : Program) (w0 : World) (nb : Nat) (op : DOp) (ts : TS) (m : MS) (K : AV → TS → MS → Prop) : Prop :=
  match op with
  | .app e s x => evK ts s fun s => evK ts x fun x => appS nb e s x ts m K
  | op => aop P w0 op ts m fun v m => K v ts m
def aops (P : Program) (w0 : World) (nb : Nat) : List DOper → TS → MS → (TS → MS → Prop) → Prop
  | [], ts, m, K => K ts m
  | ⟨dst, g, op⟩ :: rest, ts, m, K =>
    match g with
    | none => aopX P w0 nb op ts m fun v ts m => putK ts dst v fun ts => aops P w0 nb rest ts m K
    | some (g, want) => getK ts g fun c =>
      match c with
      | .raw (.bool b) =>
        match want with
        | true => br b
          (setK ts g (.raw (.bool true)) fun ts => aopX P w0 nb op ts m fun v ts m => putK ts dst v fun ts => aops P w0 nb rest ts m K)
          (setK ts g (.raw (.bool false)) fun ts => putK ts dst undefA fun ts => aops P w0 nb rest ts m K)
        | false => br b
          (setK ts g (.raw (.bool true)) fun ts => putK ts dst undefA fun ts => aops P w0 nb rest ts m K)
          (setK ts g (.raw (.bool false)) fun ts => aopX P w0 nb op ts m fun v ts m => putK ts dst v fun ts => aops P w0 nb rest ts m K)
      | .tup [] => putK ts dst undefA fun ts => aops P w0 nb rest ts m K
      | _ => False

/-- A call in a region of any order: it leaves the blocks as they are, and answers one thing. -/
structure QLeaf (P : Program) (w0 : World) (f : Nat) (args : List AV) (m : MS) (K : AV → Prop) : Prop where
  out : ∃ v, CallLeaf P w0 f args m (fun v' m' => v' = v ∧ m' = m) ∧ K v
structure QVLeaf (P : Program) (w0 : World) (fv : Value) (args : List AV) (m : MS) (K : AV → Prop) : Prop where
  out : ∃ v, CallVLeaf P w0 fv args m (fun v' m' => v' = v ∧ m' = m) ∧ K v
def qop (P : Program) (w0 : World) (op : DOp) (ts : TS) (m : MS) (K : AV → Prop) : Prop :=
  match op with
  | .call f args => evLK ts args fun as => QLeaf P w0 f as m K
  | .callv x args => evK ts x fun x => evLK ts args fun as => match x with
    | .fn f caps => Side (fnHas P f = true) ∧ catK as caps fun as => QLeaf P w0 f as m K
    | .raw v => QVLeaf P w0 v as m K
    | _ => False
  | op => aop P w0 op ts m fun v _ => K v
def qops (P : Program) (w0 : World) : List DOper → TS → MS → (TS → Prop) → Prop
  | [], ts, _, K => K ts
  | ⟨dst, g, op⟩ :: rest, ts, m, K =>
    match g with
    | none => qop P w0 op ts m fun v => putK ts dst v fun ts => qops P w0 rest ts m K
    | some (g, want) => getK ts g fun c =>
      match c with
      | .raw (.bool b) =>
        match want with
        | true => br b
          (setK ts g (.raw (.bool true)) fun ts => qop P w0 op ts m fun v => putK ts dst v fun ts => qops P w0 rest ts m K)
          (setK ts g (.raw (.bool false)) fun ts => putK ts dst undefA fun ts => qops P w0 rest ts m K)
        | false => br b
          (setK ts g (.raw (.bool true)) fun ts => putK ts dst undefA fun ts => qops P w0 rest ts m K)
          (setK ts g (.raw (.bool false)) fun ts => qop P w0 op ts m fun v => putK ts dst v fun ts => qops P w0 rest ts m K)
      | .tup [] => putK ts dst undefA fun ts => qops P w0 rest ts m K
      | _ => False

/-- A call that may come before or behind an operation that makes blocks. -/
structure QLeafS (P : Program) (w0 : World) (f : Nat) (args : List AV) (m : MS) (K : AV → Prop) : Prop where
  out : ∃ v, (∀ x : MS, CallLeaf P w0 f args (m ++ x) (fun v' m' => v' = v ∧ m' = m ++ x)) ∧ K v
structure QVLeafS (P : Program) (w0 : World) (fv : Value) (args : List AV) (m : MS) (K : AV → Prop) : Prop where
  out : ∃ v, (∀ x : MS, CallVLeaf P w0 fv args (m ++ x) (fun v' m' => v' = v ∧ m' = m ++ x)) ∧ K v
def qopS (P : Program) (w0 : World) (op : DOp) (ts : TS) (m : MS) (K : AV → Prop) : Prop :=
  match op with
  | .call f args => evLK ts args fun as => QLeafS P w0 f as m K
  | .callv x args => evK ts x fun x => evLK ts args fun as => match x with
    | .fn f caps => Side (fnHas P f = true) ∧ catK as caps fun as => QLeafS P w0 f as m K
    | .raw v => QVLeafS P w0 v as m K
    | _ => False
  | op => aop P w0 op ts m fun v _ => K v
def qopsS (P : Program) (w0 : World) : List DOper → TS → MS → (TS → Prop) → Prop
  | [], ts, _, K => K ts
  | ⟨dst, g, op⟩ :: rest, ts, m, K =>
    match g with
    | none => qopS P w0 op ts m fun v => putK ts dst v fun ts => qopsS P w0 rest ts m K
    | some (g, want) => getK ts g fun c =>
      match c with
      | .raw (.bool b) =>
        match want with
        | true => br b
          (setK ts g (.raw (.bool true)) fun ts => qopS P w0 op ts m fun v => putK ts dst v fun ts => qopsS P w0 rest ts m K)
          (setK ts g (.raw (.bool false)) fun ts => putK ts dst undefA fun ts => qopsS P w0 rest ts m K)
        | false => br b
          (setK ts g (.raw (.bool true)) fun ts => putK ts dst undefA fun ts => qopsS P w0 rest ts m K)
          (setK ts g (.raw (.bool false)) fun ts => qopS P w0 op ts m fun v => putK ts dst v fun ts => qopsS P w0 rest ts m K)
      | .tup [] => putK ts dst undefA fun ts => qopsS P w0 rest ts m K
      | _ => False

def segA (P : Program) (w0 : World) : List (List DOper × DOp) → List DOper → TS → MS → (TS → MS → Prop) → Prop
  | [], last, ts, m, K => qops P w0 last ts m fun ts => K ts m
  | (h, s) :: r, last, ts, m, K => qops P w0 h ts m fun ts => aop P w0 s ts m fun _ m' => segA P w0 r last ts m' K
/-- A loop: so many rounds. Ahead of each one, what is not needed may be forgotten. -/
def rounds (nb : Nat) (body : TS → MS → (DExit → TS → MS → Prop) → Prop) (K : DExit → TS → MS → Prop) : Nat → TS → MS → Prop
  | 0, _, _ => False
  | n + 1, ts, m => ∃ ts' m', Weak ts ts' ∧ Trim nb ts' m m' ∧ body ts' m' fun e ts m => match e with
    | .normal => rounds nb body K n ts m
    | .ret => K .ret ts m
    | .exit i => K (.exit i) ts m
structure LoopLeaf (nb : Nat) (body : TS → MS → (DExit → TS → MS → Prop) → Prop) (ts : TS) (m : MS) (K : DExit → TS → MS → Prop) : Prop where
  out : ∃ n, rounds nb body K n ts m

def awp (P : Program) (w0 : World) (nb : Nat) : DCode → TS → MS → (DExit → TS → MS → Prop) → Prop
  | .skip, ts, m, K => K .normal ts m
  | .ops l, ts, m, K => aops P w0 nb l ts m fun ts m => K .normal ts m
  | .drw h l, ts, m, K => qops P w0 h ts m fun ts => aops P w0 nb l ts m fun ts m => K .normal ts m
  | .drg h1 g dst h2 l, ts, m, K => qopsS P w0 h1 ts m fun ts => aop P w0 g ts m fun v m' => GrowLeaf m m' (putK ts dst v fun ts => qops P w0 h2 ts m' fun ts => aops P w0 nb l ts m' fun ts m => K .normal ts m)
  | .seg segs last, ts, m, K => segA P w0 segs last ts m fun ts m => K .normal ts m
  | .drs h1 g dst h2 s l, ts, m, K => qopsS P w0 h1 ts m fun ts => aop P w0 g ts m fun v m' => GrowLeaf m m' (putK ts dst v fun ts => qops P w0 h2 ts m' fun ts => aop P w0 s ts m' fun _ m' => aops P w0 nb l ts m' fun ts m => K .normal ts m)
  | .seq a b, ts, m, K => awp P w0 nb a ts m fun e ts m => match e with
    | .normal => awp P w0 nb b ts m K
    | .ret => K .ret ts m
    | .exit i => K (.exit i) ts m
  | .cond c t e, ts, m, K => evK ts c fun c => match c with
    | .raw (.bool b) => br b (awp P w0 nb t ts m K) (awp P w0 nb e ts m K)
    | _ => False
  | .block id b, ts, m, K => awp P w0 nb b ts m fun e ts m => match e with
    | .normal => K .normal ts m
    | .ret => K .ret ts m
    | .exit i => if i = id then K .normal ts m else K (.exit i) ts m
  | .loop b, ts, m, K => LoopLeaf nb (fun ts m K => awp P w0 nb b ts m K) ts m K
  | .exit i, ts, m, K => K (.exit i) ts m
  | .ret, ts, m, K => K .ret ts m

theorem br_intro {b : Bool} {p q : Prop} (hp : b = true → p) (hq : b = false → q) : br b p q := by
  cases b
  · exact .no (hq rfl)
  · exact .yes (hp rfl)
end Go.Fw
