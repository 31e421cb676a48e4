/- A part of the proof: an evaluator of programs, its soundness, and what it says of the functions in hand. It holds without further conditions. -/
import Derived.Test.YtpfbgpclhkjgaaaGreatAb0
set_option linter.unusedVariables false
namespace Go.Ab

/-! ### The program in short -/
inductive Opd where
  | s (t : Nat)
  | c (x : FV)

/-- Of which form the compared type is. -/
inductive TK where
  | num
  | bool
  | str
  | sl
  | ptr
  | fn
  deriving DecidableEq

inductive IOp where
  | mv (x : Opd)
  | nilc (x : Opd)
  | pick (c a b : Opd)
  | bin (op : BinOp) (k : TK) (x y : Opd)
  | un (op : UnOp) (x : Opd)
  | conv (k : IntKind) (x : Opd)
  | alloc (sz : Nat) (z : FV)
  | box (sz : Nat) (x : Opd)
  | build (zero : List FV) (parts : List (Nat × Nat × Opd))
  | bsl (sz : Nat) (zero : FV) (len : Nat) (parts : List (Nat × Opd))
  | load (ag : Bool) (sz : Nat) (x : Opd)
  | store (sz : Nat) (a x : Opd)
  | mksl (sz bytes : Nat) (zero : FV) (len cap : Opd)
  | slice (sz : Nat) (x : Opd) (lo hi mx : Option Opd)
  | fldA (off : Nat) (ag : Bool) (sz : Nat) (x : Opd)
  | fld (off : Nat) (ag : Bool) (sz : Nat) (x : Opd)
  | idxA (sz : Nat) (x i : Opd)
  | idxS (x i : Opd)
  | len (st : Bool) (x : Opd)
  | app (sz bytes : Nat) (x y : Opd)
  | mx (args : List Opd)
  | mn (args : List Opd)
  | call (f : Opd) (args : List Opd)
  | mkfn (fn : Fn) (first caps : List Opd)
  | extr (x : Opd) (i : Nat)

/-- An operation with its place, its guard (a slot and what it must say) and, where a region draws, the operations that it waits for. -/
structure IStep where
  dst : Option Nat
  op : IOp
  guard : Option (Nat × Bool) := none
  after : List Nat := []
  asg : Bool := false

inductive ICode where
  | skip
  | reg (keep : List Nat) (steps : List IStep)
  | draw (keep : List Nat) (steps : List IStep)
  | seq (a b : ICode)
  | cond (c : Opd) (a b : ICode)
  | block (id : Nat) (b : ICode)
  | loop (keep : List Nat) (b : ICode)
  | exit (id : Nat)
  | ret

inductive IRes where
  | tmp (t : Nat)
  | cell (t : Nat) (ag : Bool) (sz : Nat)

structure IFn where
  nparams : Nat
  ntmps : Nat
  results : List IRes
  body : ICode

/-! ### The evaluator -/
abbrev Env := List (Nat × SV)

def Env.get : Env → Nat → SV
  | [], _ => .unk
  | (u, x) :: r, t => if u = t then x else Env.get r t

def Env.put : Env → Nat → SV → Env
  | [], t, s => [(t, s)]
  | (u, x) :: r, t, s => if u = t then (t, s) :: r else (u, x) :: Env.put r t s

def Env.keep (ks : List Nat) (e : Env) : Env := ks.map fun t => (t, e.get t)

def opd (e : Env) : Opd → SV
  | .s t => e.get t
  | .c x => .fv x

structure St where
  env : Env
  B : List Ent
  L : List Ent

/-- What a step's operands say. -/
abbrev Look := Opd → SV

def cutL (xs : List FV) (off len : Nat) : List FV := (xs.drop off).take len

def capFV (B L : List Ent) : Cap → Option FV
  | .fz x => some x
  | .own id sz => match ent B L id with
    | .frz sz' [x] => if sz = sz' then some (.ptr x) else none
    | _ => none

def capsFV (B L : List Ent) : List Cap → Option (List FV)
  | [] => some []
  | c :: cs => (capFV B L c).bind fun x => (capsFV B L cs).map (x :: ·)

/-- A slot's value as a frozen one. -/
def toFV (B L : List Ent) : SV → Option FV
  | .unk => none
  | .fv x => some x
  | .ref id sz off len _ => match ent B L id with
    | .frz sz' xs => if sz = sz' ∧ off + len ≤ xs.length then some (.sl .any (cutL xs off len)) else none
    | _ => none
  | .ptr id sz i c => match ent B L id with
    | .frz sz' xs => if sz = sz' ∧ c = 0 then (xs[i]?).map .ptr else none
    | _ => none
  | .clo f n caps => (capsFV B L caps).map fun xs => .fn f (xs.take n) (xs.drop n)

def toFVs (B L : List Ent) : List SV → Option (List FV)
  | [] => some []
  | s :: ss => (toFV B L s).bind fun x => (toFVs B L ss).map (x :: ·)

/-- All of one size. -/
def wid (sz : Nat) (xs : List FV) : Bool := xs.all fun x => x.cells.length == sz

/-- What a slice holds, own or frozen. -/
def rdSl (B L : List Ent) (sz : Nat) : SV → Option (List FV)
  | .fv (.sl _ xs) => if wid sz xs then some xs else none
  | .ref id sz' off len _ => match ent B L id with
    | .frz sz2 xs => if sz = sz' ∧ sz' = sz2 ∧ off + len ≤ xs.length then some (cutL xs off len) else none
    | .own sz2 xs => if sz = sz' ∧ sz' = sz2 ∧ off + len ≤ xs.length then some (cutL xs off len) else none
    | _ => none
  | _ => none

def lenSl (st : Bool) (s : SV) : Option Nat :=
  match st, s with
  | false, .fv (.sl _ xs) => some xs.length
  | true, .fv (.str s) => some s.size
  | false, .ref _ _ _ len _ => some len
  | _, _ => none

def evInt (op : BinOp) (k : IntKind) (a b : Int) : Option FV :=
  match op with
  | .add => some (.int k (k.wrap (a + b)))
  | .sub => some (.int k (k.wrap (a - b)))
  | .mul => some (.int k (k.wrap (a * b)))
  | .quo => if b = 0 then none else some (.int k (k.wrap (a.tdiv b)))
  | .rem => if b = 0 then none else some (.int k (a.tmod b))
  | .and => some (.int k (k.wrap (BitVec.ofInt k.bits a &&& BitVec.ofInt k.bits b).toNat))
  | .or => some (.int k (k.wrap (BitVec.ofInt k.bits a ||| BitVec.ofInt k.bits b).toNat))
  | .xor => some (.int k (k.wrap (BitVec.ofInt k.bits a ^^^ BitVec.ofInt k.bits b).toNat))
  | .andNot => some (.int k (k.wrap (BitVec.ofInt k.bits a &&& ~~~(BitVec.ofInt k.bits b)).toNat))
  | .eql => some (.bool (a == b))
  | .neq => some (.bool (a != b))
  | .lss => some (.bool (a < b))
  | .leq => some (.bool (a ≤ b))
  | .gtr => some (.bool (a > b))
  | .geq => some (.bool (a ≥ b))
  | _ => none

def evShift (op : BinOp) (k : IntKind) (a b : Int) : Option FV :=
  if b < 0 then none else
  match op with
  | .shl => some (.int k (k.wrap (a * 2 ^ (min b.toNat k.bits))))
  | .shr => some (.int k (a.fdiv (2 ^ (min b.toNat k.bits))))
  | _ => none

/-- Is a value nil? (where that can be told) -/
def isNil (tk : TK) (s : SV) : Option Bool :=
  match tk, s with
  | .sl, .fv (.sl .nil []) => some true
  | .sl, .fv (.sl _ (_ :: _)) => some false
  | .ptr, .fv .nilPtr => some true
  | .ptr, .fv (.ptr _) => some false
  | .fn, .fv .nilFn => some true
  | .fn, .fv (.fn ..) => some false
  | .sl, .ref .. => some false
  | .ptr, .ptr .. => some false
  | .fn, .clo .. => some false
  | _, _ => none

def isNilC (tk : TK) (s : SV) : Bool :=
  match tk, s with
  | .sl, .fv (.sl .nil []) => true
  | .ptr, .fv .nilPtr => true
  | .fn, .fv .nilFn => true
  | _, _ => false

def evBin (op : BinOp) (tk : TK) (x y : SV) : Option FV :=
  match x, y with
  | .fv (.int k a), .fv (.int k' b) =>
    match op with
    | .shl | .shr => evShift op k a b
    | _ => if k = k' then evInt op k a b else none
  | .fv (.bool a), .fv (.bool b) =>
    match tk, op with
    | .bool, .eql => some (.bool (a == b))
    | .bool, .neq => some (.bool (a != b))
    | _, _ => none
  | .fv (.str a), .fv (.str b) =>
    match op with
    | .eql => some (.bool (a.toList == b.toList))
    | .neq => some (.bool !(a.toList == b.toList))
    | .lss => some (.bool (Op.bytesLess a.toList b.toList))
    | .leq => some (.bool (Op.bytesLess a.toList b.toList || a.toList == b.toList))
    | .gtr => some (.bool !(Op.bytesLess a.toList b.toList || a.toList == b.toList))
    | .geq => some (.bool !(Op.bytesLess a.toList b.toList))
    | .add => if a.size + b.size ≤ 9223372036854775807 then some (.str (a ++ b)) else none
    | _ => none
  | x, y =>
    if isNilC tk y then
      match op with
      | .eql => (isNil tk x).map .bool
      | .neq => (isNil tk x).map fun b => .bool !b
      | _ => none
    else none

def evUn (op : UnOp) (x : SV) : Option FV :=
  match op, x with
  | .neg, .fv (.int k n) => some (.int k (k.wrap (0 - n)))
  | .not, .fv (.bool b) => some (.bool !b)
  | _, _ => none

def minOne (lt : Int → Int → Bool) : FV → List SV → Option FV
  | x, [] => some x
  | .int k a, .fv (.int k' b) :: r => if k = k' then minOne lt (.int k (if lt b a then b else a)) r else none
  | _, _ => none

def ldElem (ag : Bool) (sz c : Nat) (x : FV) : Option FV :=
  if c = 0 ∧ x.fits ag sz = true then some x
  else if ag then (if c + sz ≤ x.cells.length ∧ 0 < sz then some (.agg (cutL x.cells c sz)) else none)
  else if sz = 1 then x.cells[c]? else none

def stElem (c : Nat) (x y : FV) : Option FV :=
  match x with
  | .agg cs => if c + y.cells.length ≤ cs.length then some (.agg (cs.take c ++ y.cells ++ cs.drop (c + y.cells.length))) else none
  | _ => if c = 0 ∧ y.one = true then some y else none

def okPart : FV → Bool
  | .tup _ => false
  | _ => true

/-- The places of a struct are filled. -/
def fillF (cells : List FV) : List (Nat × Nat × FV) → Option (List FV)
  | [] => some cells
  | (off, size, x) :: r =>
    if x.cells.length = size ∧ off + size ≤ cells.length ∧ okPart x = true then fillF (cells.take off ++ x.cells ++ cells.drop (off + size)) r else none

def fillS (sz : Nat) (xs : List FV) : List (Nat × FV) → Option (List FV)
  | [] => some xs
  | (i, x) :: r => if i < xs.length ∧ x.cells.length = sz ∧ okPart x = true then fillS sz (xs.set i x) r else none

/-- A cut's bound: at most n, and d if none is given. -/
def bnd (n d : Nat) : Option SV → Option Nat
  | none => some d
  | some (.fv (.int _ i)) => if 0 ≤ i ∧ i ≤ n then some i.toNat else none
  | some _ => none

/-- low, high, max of a cut; the length is n. -/
def bnds (n : Nat) (lo hi mx : Option SV) : Option (Nat × Nat × Option Nat) :=
  match mx with
  | none => (bnd n n hi).bind fun h => (bnd h 0 lo).map fun l => (l, h, none)
  | some m => if hi.isNone then none else (bnd n n (some m)).bind fun m => (bnd m m hi).bind fun h => (bnd h 0 lo).map fun l => (l, h, some m)

abbrev Disp := FuncId → List SV → List Ent → Option (SV × List Ent × List Ent)

def asInt? : SV → Option Int
  | .fv (.int _ n) => some n
  | _ => none

def parts2 (B L : List Ent) (g : Look) : List (Nat × Nat × Opd) → Option (List (Nat × Nat × FV))
  | [] => some []
  | (o, n, x) :: r => (toFV B L (g x)).bind fun v => (parts2 B L g r).map ((o, n, v) :: ·)

def parts1 (B L : List Ent) (g : Look) : List (Nat × Opd) → Option (List (Nat × FV))
  | [] => some []
  | (o, x) :: r => (toFV B L (g x)).bind fun v => (parts1 B L g r).map ((o, v) :: ·)

def mkCap (B L : List Ent) : SV → Option Cap
  | .ptr id sz 0 0 => match ent B L id with
    | .own sz' _ => if sz = sz' then some (.own id sz) else none
    | .frz sz' [x] => if sz = sz' then some (.fz (.ptr x)) else none
    | _ => none
  | s => (toFV B L s).map .fz

def mkCaps (B L : List Ent) : List SV → Option (List Cap)
  | [] => some []
  | s :: ss => (mkCap B L s).bind fun c => (mkCaps B L ss).map (c :: ·)

def Cap.fv? : Cap → Option FV
  | .fz x => some x
  | .own .. => none

def capsFv? : List Cap → Option (List FV)
  | [] => some []
  | c :: cs => c.fv?.bind fun x => (capsFv? cs).map (x :: ·)

def Ent.fz : Ent → Ent
  | .own sz xs => .frz sz xs
  | e => e

/-- What is done without a change of the arena. -/
def evQ (call : Disp) (o : IOp) (g : Look) (B L : List Ent) : Option SV :=
  match o with
  | .mv x => match g x with
    | .unk => none
    | s => some s
  | .nilc x => match g x with
    | .fv (.ptr y) => some (.fv (.ptr y))
    | .ptr id sz i c => some (.ptr id sz i c)
    | .fv (.fn f a b) => match f with
      | .method _ => none
      | f => some (.fv (.fn f a b))
    | .clo f a b => match f with
      | .method _ => none
      | f => some (.clo f a b)
    | _ => none
  | .pick c a b => match g c with
    | .fv (.bool t) => match (if t then g a else g b) with
      | .unk => none
      | s => some s
    | _ => none
  | .bin op tk x y => (evBin op tk (g x) (g y)).map .fv
  | .un op x => (evUn op (g x)).map .fv
  | .conv k x => match g x with
    | .fv (.int _ n) => some (.fv (.int k (k.wrap n)))
    | _ => none
  | .build zero ps => (parts2 B L g ps).bind fun ps => (fillF zero ps).map fun cs => .fv (.agg cs)
  | .bsl sz zero n ps => if 0 < sz ∧ zero.cells.length = sz ∧ okPart zero = true ∧ n * sz ≤ 16777216 then (parts1 B L g ps).bind fun ps => (fillS sz (List.replicate n zero) ps).map fun xs => .fv (.sl .full xs) else none
  | .load ag sz x => match g x with
    | .fv (.ptr y) => (ldElem ag sz 0 y).map .fv
    | .ptr id sz' i c => match ent B L id with
      | .own sz2 xs => if sz' = sz2 then (xs[i]?).bind fun y => (ldElem ag sz c y).map .fv else none
      | .frz sz2 xs => if sz' = sz2 then (xs[i]?).bind fun y => (ldElem ag sz c y).map .fv else none
      | .dead => none
    | _ => none
  | .slice sz x lo hi mx => match g x with
    | .fv (.sl t xs) => if wid sz xs then (bnds xs.length (lo.map g) (hi.map g) (mx.map g)).map fun (l, h, m) => .fv (.sl (if m = some h then .full else .any) (cutL xs l (h - l))) else none
    | .ref id sz' off n ap => if sz = sz' then (bnds n (lo.map g) (hi.map g) (mx.map g)).map fun (l, h, m) =>
        if l = h ∧ l ≠ 0 then .fv (.sl .any []) else .ref id sz (off + l) (h - l) (ap && l == 0 && m.isNone) else none
    | _ => none
  | .fldA off ag sz x => match g x with
    | .fv (.ptr (.agg cs)) => (ldElem ag sz off (.agg cs)).map fun y => .fv (.ptr y)
    | .ptr id sz' i c => if 0 < sz then some (.ptr id sz' i (c + off)) else none
    | _ => none
  | .fld off ag sz x => match g x with
    | .fv (.agg cs) => (if ag then (if off + sz ≤ cs.length then some (FV.agg (cutL cs off sz)) else none) else cs[off]?).map .fv
    | _ => none
  | .idxA sz x i => match g x, g i with
    | .fv (.sl _ xs), .fv (.int _ n) => if 0 ≤ n then (match xs[n.toNat]? with | some y => if y.cells.length = sz then some (.fv (.ptr y)) else none | none => none) else none
    | .ref id sz' off len _, .fv (.int _ n) => if sz = sz' ∧ 0 ≤ n ∧ n < len then some (.ptr id sz (off + n.toNat) 0) else none
    | _, _ => none
  | .idxS x i => match g x, g i with
    | .fv (.str s), .fv (.int _ n) => if 0 ≤ n then (s[n.toNat]?).map fun b => .fv (.int .u8 b.toNat) else none
    | _, _ => none
  | .len st x => (lenSl st (g x)).map fun (n : Nat) => .fv (.int .i64 (n : Int))
  | .mx args => match args.map g with
    | .fv (.int k n) :: r => (minOne (fun b a => b > a) (.int k n) r).map .fv
    | _ => none
  | .mn args => match args.map g with
    | .fv (.int k n) :: r => (minOne (fun b a => b < a) (.int k n) r).map .fv
    | _ => none
  | .mkfn fn first caps => (mkCaps B L ((first ++ caps).map g)).map fun cs => match capsFv? cs with
    | some xs => .fv (.fn fn (xs.take first.length) (xs.drop first.length))
    | none => .clo fn first.length cs
  | .extr x i => match g x with
    | .fv (.tup xs) => (xs[i]?).map .fv
    | _ => none
  | .call f args => match g f with
    | .fv (.fn (.func n) first caps) => (toFVs B L (args.map g)).bind fun as =>
        match call n ((first ++ as ++ caps).map .fv) [] with
        | some (r, _, L') => (toFV [] (L'.map Ent.fz) r).map .fv
        | none => none
    | _ => none
  | .alloc .. | .box .. | .store .. | .mksl .. | .app .. => none

/-! ### What changes the arena -/
def frz1 (id : Id) (B L : List Ent) : List Ent × List Ent :=
  match id with
  | .b i => (B.modify i Ent.fz, L)
  | .l i => (B, L.modify i Ent.fz)

def frzs : List Id → List Ent → List Ent → List Ent × List Ent
  | [], B, L => (B, L)
  | i :: r, B, L => frzs r (frz1 i B L).1 (frz1 i B L).2

def setE (id : Id) (e : Ent) (B L : List Ent) : List Ent × List Ent :=
  match id with
  | .b i => (B.set i e, L)
  | .l i => (B, L.set i e)

def Cap.ids : Cap → List Id
  | .fz _ => []
  | .own id _ => [id]

def SV.ids : SV → List Id
  | .ref id .. => [id]
  | .ptr id .. => [id]
  | .clo _ _ caps => caps.flatMap Cap.ids
  | _ => []

def SV.refIds : SV → List Id
  | .ref id .. => [id]
  | _ => []

def Cap.ren (σ : Id → Id) : Cap → Cap
  | .fz x => .fz x
  | .own id sz => .own (σ id) sz

def SV.ren (σ : Id → Id) : SV → SV
  | .ref id sz off len ap => .ref (σ id) sz off len ap
  | .ptr id sz i c => .ptr (σ id) sz i c
  | .clo f n caps => .clo f n (caps.map (Cap.ren σ))
  | s => s

/-- Which callees get what is own as it is; whose results stay own. -/
structure Ann where
  inh : FuncId → Bool
  raw : FuncId → FuncId → Bool

def callee : SV → Option FuncId
  | .fv (.fn (.func n) _ _) => some n
  | .clo (.func n) _ _ => some n
  | _ => none

def SV.live : SV → Bool
  | .ptr .. => true
  | .clo .. => true
  | _ => false

def keepsOwn (an : Ann) (g : Look) (f : Opd) (args : List Opd) : Bool :=
  (g f).live || args.any (fun x => (g x).live) || ((callee (g f)).map an.inh).getD false

def rawCall (an : Ann) (self : FuncId) (s : SV) : Bool := ((callee s).map (an.raw self)).getD false

def toFreeze (an : Ann) (self : FuncId) (o : IOp) (g : Look) : List Id :=
  match o with
  | .build _ ps => ps.flatMap fun p => (g p.2.2).ids
  | .bsl _ _ _ ps => ps.flatMap fun p => (g p.2).ids
  | .box _ x => (g x).ids
  | .store _ _ x => (g x).ids
  | .mkfn _ first caps => (first ++ caps).flatMap fun x => (g x).refIds
  | .app _ _ _ y => []
  | .call f args => if keepsOwn an g f args then [] else args.flatMap fun x => (g x).ids
  | _ => []

def dedup : List Id → List Id
  | [] => []
  | i :: r => if i ∈ dedup r then dedup r else i :: dedup r

def writeBack : List Id → List Ent → List Ent → List Ent → List Ent × List Ent
  | i :: is, e :: es, B, L => writeBack is es (setE i e B L).1 (setE i e B L).2
  | _, _, B, L => (B, L)

def selOf (g : Look) (f : Opd) (args : List Opd) : List Id := dedup ((g f).ids ++ args.flatMap fun x => (g x).ids)

def capArg : Cap → SV
  | .fz x => .fv x
  | .own id sz => .ptr id sz 0 0

def callArgs (s : SV) (args : List SV) : Option (FuncId × List SV) :=
  match s with
  | .fv (.fn (.func n) first caps) => some (n, first.map .fv ++ args ++ caps.map .fv)
  | .clo (.func n) k caps => some (n, (caps.map capArg).take k ++ args ++ (caps.map capArg).drop k)
  | _ => none

def downTo (sel : List Id) (i : Id) : Id := .b (sel.idxOf i)
def upFrom (sel : List Id) (n : Nat) : Id → Id
  | .b j => sel.getD j (.b 0)
  | .l j => .l (n + j)

/-- A call that gets what is own, or gives it. -/
def evI (call : Disp) (raw : Bool) (g : Look) (f : Opd) (args : List Opd) (B L : List Ent) : Option (SV × List Ent × List Ent) :=
  let sel := selOf g f args
  (callArgs (g f) (args.map g)).bind fun (n, as) =>
  if as.any (fun s => match s with | .unk => true | _ => false) then none else
  (call n (as.map (SV.ren (downTo sel))) (sel.map (ent B L))).bind fun (r, B', L') =>
    let W := writeBack sel B' B L
    if raw then some (r.ren (upFrom sel L.length), W.1, W.2 ++ L')
    else match r with
      | .ref (.b j) sz off len ap => some (.ref (sel.getD j (.b 0)) sz off len ap, W.1, W.2)
      | r => (toFV [] (L'.map Ent.fz) r).map fun x => (.fv x, W.1, W.2)

def evA (call : Disp) (o : IOp) (g : Look) (B L : List Ent) : Option (SV × List Ent × List Ent) :=
  match o with
  | .alloc sz z => if 0 < sz ∧ z.cells.length = sz then some (.ptr (.l L.length) sz 0 0, B, L ++ [.own sz [z]]) else none
  | .box sz x => (toFV B L (g x)).bind fun x => if 0 < sz ∧ x.cells.length = sz ∧ okPart x = true then some (.ptr (.l L.length) sz 0 0, B, L ++ [.own sz [x]]) else none
  | .store sz a x => match g a with
    | .ptr id sz' i c => match ent B L id with
      | .own sz2 xs => if sz' = sz2 then
          (toFV B L (g x)).bind fun y => if y.cells.length = sz ∧ okPart y = true then
            (xs[i]?).bind fun e => (stElem c e y).map fun e' => (.unk, (setE id (.own sz2 (xs.set i e')) B L).1, (setE id (.own sz2 (xs.set i e')) B L).2)
          else none
        else none
      | _ => none
    | _ => none
  | .mksl sz bytes zero n c => match g n, g c with
    | .fv (.int k n), .fv (.int k' c) => if k = k' ∧ n = c ∧ 0 ≤ n ∧ n * bytes ≤ 140737488355328 ∧ 0 < bytes ∧ 0 < sz ∧ zero.cells.length = sz then
        some (.ref (.l L.length) sz 0 n.toNat true, B, L ++ [.own sz (List.replicate n.toNat zero)]) else none
    | _, _ => none
  | .app sz bytes x y => (rdSl B L sz (g y)).bind fun ys =>
    match g x with
    | .fv (.sl .nil []) => if ys = [] then some (.fv (.sl .nil []), B, L) else
        if ys.length * bytes ≤ 140737488355328 ∧ 0 < bytes ∧ 0 < sz then some (.ref (.l L.length) sz 0 ys.length true, B, L ++ [.own sz ys]) else none
    | .fv (.sl .full (x0 :: xs)) =>
        if ys.length = 0 then some (.fv (.sl .full (x0 :: xs)), B, L) else if ys ≠ [] ∧ (xs.length + 1 + ys.length) * bytes ≤ 140737488355328 ∧ 0 < bytes ∧ 0 < sz ∧ x0.cells.length = sz then some (.ref (.l L.length) sz 0 (xs.length + 1 + ys.length) true, B, L ++ [.own sz (x0 :: xs ++ ys)]) else none
    | .ref id sz' 0 n true => match ent B L id with
      | .own sz2 xs => if sz' = sz2 ∧ sz = sz2 ∧ n = xs.length ∧ (xs.length + ys.length) * bytes ≤ 140737488355328 ∧ 0 < bytes then
          some (.ref (.l L.length) sz 0 (xs.length + ys.length) true, (setE id .dead B L).1, (setE id .dead B L).2 ++ [.own sz (xs ++ ys)]) else none
      | _ => none
    | _ => none
  | o => (evQ call o g B L).map fun s => (s, B, L)

def evOp (call : Disp) (an : Ann) (self : FuncId) (o : IOp) (g : Look) (B L : List Ent) : Option (SV × List Ent × List Ent) :=
  match o with
  | .call f args => if keepsOwn an g f args || rawCall an self (g f) then evI call (rawCall an self (g f)) g f args B L
      else evQ call o g (frzs (toFreeze an self o g) B L).1 (frzs (toFreeze an self o g) B L).2 |>.map fun s => (s, frzs (toFreeze an self o g) B L)
  | o => evA call o g (frzs (toFreeze an self o g) B L).1 (frzs (toFreeze an self o g) B L).2

def putO (e : Env) : Option Nat → SV → Env
  | none, _ => e
  | some t, s => e.put t s

def evStep (call : Disp) (an : Ann) (self : FuncId) (s : IStep) (st : St) : Option St :=
  let run (st : St) : Option St := (evOp call an self s.op (opd st.env) st.B st.L).map fun (v, B, L) => ⟨putO st.env s.dst v, B, L⟩
  match s.guard with
  | none => run st
  | some (t, want) => match st.env.get t with
    | .fv (.bool b) => if b = want then run st else some { st with env := putO st.env s.dst .unk }
    | _ => none

def evSteps (call : Disp) (an : Ann) (self : FuncId) : List IStep → St → Option St
  | [], st => some st
  | s :: r, st => (evStep call an self s st).bind (evSteps call an self r)

/-! ### A region that draws its order: new variables, what only reads, and the stores and assignments -/
def Ent.hide : Ent → Ent
  | .own .. => .dead
  | e => e

def IOp.isAlloc : IOp → Bool
  | .alloc .. => true
  | _ => false
/-- It turns what is there. -/
def IOp.turns : IOp → Bool
  | .store .. => true
  | .app .. => true
  | _ => false
/-- It makes or turns. -/
def IOp.acts : IOp → Bool
  | .store .. => true
  | .app .. => true
  | .mksl .. => true
  | .box .. => true
  | _ => false

def IStep.isA (s : IStep) : Bool := s.op.isAlloc && s.guard.isNone
def IStep.isS (s : IStep) : Bool := (s.op.acts || s.asg) && s.guard.isNone

/-- What a step waits for, whatever that waits for, .. (all of it lies before the step) -/
def clos (steps : List IStep) : List (List Nat) :=
  steps.foldl (fun acc s => acc ++ [s.after ++ s.after.flatMap fun j => acc.getD j []]) []

def waits (cl : List (List Nat)) (i j : Nat) : Bool := (cl.getD i []).contains j

/-- Is what is appended to surely no row of one's own? -/
def fvOpd (steps : List IStep) : Opd → Bool
  | .c _ => true
  | .s t => steps.any fun q => q.dst == some t && (match q.op with | .bsl .. => true | _ => false)

/-- May the step turn what is there? -/
def turnsS (steps : List IStep) (s : IStep) : Bool :=
  match s.op with
  | .app _ _ x _ => !fvOpd steps x
  | o => o.turns

/-- It turns nothing that is there. -/
def quietAt (o : IOp) (g : Look) : Bool :=
  match o with
  | .app _ _ x _ => match g x with
    | .fv _ => true
    | _ => false
  | o => !o.turns

def unwritten (steps : List IStep) (t : Nat) : Bool := steps.all fun q => q.dst != some t

/-- The rows that a step may turn; none: it may be any. -/
def tgt (steps : List IStep) (e0 : Env) (s : IStep) : Option (List Id) :=
  if turnsS steps s then
    match s.op with
    | .store _ (.s t) _ => if unwritten steps t then some (e0.get t).ids else none
    | .app _ _ (.s t) _ => if unwritten steps t then some (e0.get t).ids else none
    | _ => none
  else some []

/-- May a row be turned by what is in no order with step i? -/
def mayTurn (cl : List (List Nat)) (steps : List IStep) (e0 : Env) (i : Nat) (id : Id) : Bool :=
  (List.range steps.length).any fun j => match steps[j]? with
    | some s => s.isS && !waits cl j i && !waits cl i j && (match tgt steps e0 s with
      | none => true
      | some ids => ids.contains id)
    | none => true

def hideBy (h : Id → Bool) (B L : List Ent) : List Ent × List Ent :=
  (B.mapIdx fun j e => if h (.b j) then e.hide else e, L.mapIdx fun j e => if h (.l j) then e.hide else e)

/-- Does a step wait for one that makes or turns? -/
def late (cl : List (List Nat)) (steps : List IStep) (i : Nat) : Bool :=
  (List.range i).any fun j => match steps[j]? with
    | some s => s.isS && waits cl i j
    | none => false

def drawA : Nat → List IStep → Env → Env
  | _, [], e => e
  | n, s :: r, e => if s.isA then drawA (n + 1) r (putO e s.dst (match s.op with | .alloc sz _ => .ptr (.l n) sz 0 0 | _ => .unk)) else drawA n r e

def drawEnts : List IStep → List Ent
  | [] => []
  | s :: r => if s.isA then (match s.op with | .alloc sz z => .own sz [z] | _ => .dead) :: drawEnts r else drawEnts r

def okAllocs : List IStep → Bool
  | [] => true
  | s :: r => (!s.isA || (match s.op with | .alloc sz z => 0 < sz && z.cells.length == sz | _ => false)) && okAllocs r

def evQ2 (call : Disp) (h : Id → Bool) (o : IOp) (g : Look) (B L : List Ent) : Option SV := evQ call o g (hideBy h B L).1 (hideBy h B L).2

/-- The steps that make a variable, each with its row's number. -/
def allocsAt : Nat → Nat → List IStep → List (Nat × Nat)
  | _, _, [] => []
  | i, n, s :: r => if s.isA then (i, n) :: allocsAt (i + 1) (n + 1) r else allocsAt (i + 1) n r

def maskL (h : Nat → Bool) (L : List Ent) : List Ent := L.mapIdx fun p e => if h p then .dead else e
def restL (h : Nat → Bool) (L L' : List Ent) : List Ent := L'.mapIdx fun p e => if h p then L.getD p .dead else e

/-- The rows of variables that step j doesn't wait for. -/
def hidFor (cl : List (List Nat)) (al : List (Nat × Nat)) (j p : Nat) : Bool := al.any fun q => p == q.2 && !waits cl j q.1

/-- It names none of them. -/
def okIds (cl : List (List Nat)) (al : List (Nat × Nat)) (j : Nat) (v : SV) : Bool := v.ids.all fun id => match id with
  | .l p => !hidFor cl al j p
  | .b _ => true

def chk (b : Bool) (v : SV) : Option SV := if b then some v else none

def drawQ (call : Disp) (B L : List Ent) (cl : List (List Nat)) (al : List (Nat × Nat)) (all : List IStep) (e0 : Env) : Nat → List IStep → Env → Option Env
  | _, [], e => some e
  | i, s :: r, e =>
    if s.isA || s.isS || late cl all i then drawQ call B L cl al all e0 (i + 1) r e else
    match s.guard with
    | none => (evQ2 call (mayTurn cl all e0 i) s.op (opd e) B L).bind fun v => (chk (okIds cl al i v) v).bind fun v => drawQ call B L cl al all e0 (i + 1) r (putO e s.dst v)
    | some (t, want) => match e.get t with
      | .fv (.bool b) => if b = want then (evQ2 call (mayTurn cl all e0 i) s.op (opd e) B L).bind fun v => (chk (okIds cl al i v) v).bind fun v => drawQ call B L cl al all e0 (i + 1) r (putO e s.dst v) else drawQ call B L cl al all e0 (i + 1) r (putO e s.dst .unk)
      | _ => none

/-- Is what the step makes handed on in the region? -/
def handed (steps : List IStep) (s : IStep) : Bool :=
  let isD (x : Opd) : Bool := match x, s.dst with
    | .s t, some d => t == d
    | _, _ => false
  steps.any fun q => match q.op with
    | .call _ args => args.any isD
    | .build _ ps => ps.any fun p => isD p.2.2
    | .bsl _ _ _ ps => ps.any fun p => isD p.2
    | .store _ _ x => isD x
    | _ => false

/-- What is made and handed on is frozen at once. -/
def frzNew (steps : List IStep) (s : IStep) (n : Nat) (v : SV) (B L : List Ent) : List Ent × List Ent :=
  if handed steps s && v.ids.all (fun id => match id with
    | .l p => n ≤ p
    | .b _ => false) then frzs v.ids B L else (B, L)

def stepS (call : Disp) (cl : List (List Nat)) (al : List (Nat × Nat)) (all : List IStep) (e0 : Env) (j : Nat) (s : IStep) (st : St) : Option St :=
  if s.isS then (evA call s.op (opd st.env) st.B (maskL (hidFor cl al j) st.L)).bind fun (v, B, L) => (chk (okIds cl al j v && (turnsS all s || quietAt s.op (opd st.env))) v).map fun v => ⟨putO st.env s.dst v, (frzNew all s st.L.length v B L).1, restL (hidFor cl al j) st.L (frzNew all s st.L.length v B L).2⟩
  else if !s.isA && late cl all j then
    match s.guard with
    | none => (evQ2 call (mayTurn cl all e0 j) s.op (opd st.env) st.B (maskL (hidFor cl al j) st.L)).bind fun v => (chk (okIds cl al j v) v).map fun v => ⟨putO st.env s.dst v, st.B, st.L⟩
    | some (t, want) => match st.env.get t with
      | .fv (.bool b) => if b = want then (evQ2 call (mayTurn cl all e0 j) s.op (opd st.env) st.B (maskL (hidFor cl al j) st.L)).bind fun v => (chk (okIds cl al j v) v).map fun v => ⟨putO st.env s.dst v, st.B, st.L⟩ else some ⟨putO st.env s.dst .unk, st.B, st.L⟩
      | _ => none
  else some st

def drawS (call : Disp) (cl : List (List Nat)) (al : List (Nat × Nat)) (all : List IStep) (e0 : Env) : Nat → List IStep → St → Option St
  | _, [], st => some st
  | j, s :: r, st => (stepS call cl al all e0 j s st).bind (drawS call cl al all e0 (j + 1) r)

/-- Which own rows a drawn region hands on: by what is moved. -/
def preIds (e : Env) (steps : List IStep) : List Id :=
  let of (x : Opd) : List Id := match x with
    | .s t => (e.get t).ids ++ steps.flatMap fun q => match q.dst, q.op with
        | some d, .mv (.s u) => if d = t then (e.get u).ids else []
        | _, _ => []
    | .c _ => []
  steps.flatMap fun s => match s.op with
    | .call _ args => args.flatMap of
    | .build _ ps => ps.flatMap fun p => of p.2.2
    | .bsl _ _ _ ps => ps.flatMap fun p => of p.2
    | .store _ _ x => of x
    | _ => []

def evDraw (call : Disp) (steps : List IStep) (st : St) : Option St :=
  let BL := frzs (preIds st.env steps) st.B st.L
  if okAllocs steps then
    (drawQ call BL.1 BL.2 (clos steps) (allocsAt 0 BL.2.length steps) steps st.env 0 steps (drawA BL.2.length steps st.env)).bind fun e =>
      drawS call (clos steps) (allocsAt 0 BL.2.length steps) steps st.env 0 steps ⟨e, BL.1, BL.2 ++ drawEnts steps⟩
  else none

inductive IExit where
  | normal
  | exit (id : Nat)
  | ret

def gcL (e : Env) (n : Nat) : List Nat := (List.range n).filter fun i => e.any fun p => p.2.ids.contains (.l i)
def gcR (ls : List Nat) : Id → Id
  | .b i => .b i
  | .l i => .l (ls.idxOf i)
def gc (keep : List Nat) (st : St) : St :=
  let e := st.env.keep keep
  let ls := gcL e st.L.length
  ⟨e.map fun p => (p.1, p.2.ren (gcR ls)), st.B, ls.map fun i => st.L.getD i .dead⟩

def iter (step : St → Option (IExit × St)) : Nat → St → Option (IExit × St)
  | 0, _ => none
  | n + 1, st => match step st with
    | some (.normal, st') => iter step n st'
    | r => r

def evC (call : Disp) (an : Ann) (self : FuncId) (k : Nat) : ICode → St → Option (IExit × St)
  | .skip, st => some (.normal, st)
  | .reg keep steps, st => (evSteps call an self steps { st with env := st.env.keep keep }).map fun st => (.normal, st)
  | .draw keep steps, st => (evDraw call steps { st with env := st.env.keep keep }).map fun st => (.normal, st)
  | .seq a b, st => match evC call an self k a st with
    | some (.normal, st') => evC call an self k b st'
    | r => r
  | .cond c a b, st => match opd st.env c with
    | .fv (.bool t) => if t then evC call an self k a st else evC call an self k b st
    | _ => none
  | .block id b, st => match evC call an self k b st with
    | some (.exit i, st') => if i = id then some (.normal, st') else some (.exit i, st')
    | r => r
  | .loop keep b, st => iter (fun st => evC call an self k b (gc keep st)) k st
  | .exit id, st => some (.exit id, st)
  | .ret, st => some (.ret, st)

def evRes (e : Env) (B L : List Ent) : IRes → Option SV
  | .tmp t => match e.get t with
    | .unk => none
    | s => some s
  | .cell t ag sz => match e.get t with
    | .ptr id sz' i c => match ent B L id with
      | .own sz2 xs => if sz' = sz2 then (xs[i]?).bind fun y => (ldElem ag sz c y).map .fv else none
      | .frz sz2 xs => if sz' = sz2 then (xs[i]?).bind fun y => (ldElem ag sz c y).map .fv else none
      | .dead => none
    | _ => none

def evRess (e : Env) (B L : List Ent) : List IRes → Option (List SV)
  | [] => some []
  | r :: rs => (evRes e B L r).bind fun s => (evRess e B L rs).map (s :: ·)

def finish (rs : List SV) (B L : List Ent) : Option (SV × List Ent × List Ent) :=
  match rs with
  | [s] => some (s, B, L)
  | rs => let BL := frzs (rs.flatMap SV.ids) B L; (toFVs BL.1 BL.2 rs).map fun xs => (.fv (.tup xs), BL.1, BL.2)

def argEnv : Nat → List SV → Env
  | _, [] => []
  | i, s :: r => (i, s) :: argEnv (i + 1) r

def evF (fns : FuncId → Option IFn) (an : Ann) : Nat → Disp
  | 0, _, _, _ => none
  | k + 1, f, args, B => (fns f).bind fun fn =>
    if args.length ≠ fn.nparams then none else
    match evC (evF fns an k) an f k fn.body ⟨argEnv 0 args, B, []⟩ with
    | some (.normal, st) | some (.ret, st) => (evRess st.env st.B st.L fn.results).bind fun rs => finish rs st.B st.L
    | _ => none
end Go.Ab
