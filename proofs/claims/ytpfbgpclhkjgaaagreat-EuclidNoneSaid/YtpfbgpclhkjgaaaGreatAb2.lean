/- A part of the proof: an evaluator of programs, its soundness, and what it says of the functions in hand. It holds without further conditions. -/
import Derived.Test.YtpfbgpclhkjgaaaGreatAb1
set_option linter.unusedVariables false
namespace Go.Ab

/-! ### From the machine's code to the short one -/
def fvAtom : Value → Option FV
  | .bool b => some (.bool b)
  | .int k n => some (.int k n)
  | .string s => some (.str s)
  | .slice none 0 0 => some (.sl .nil [])
  | .pointer none => some .nilPtr
  | .nilFunc => some .nilFn
  | .nilIface => some .nilIface
  | _ => none

def fvAtoms : List Value → Option (List FV)
  | [] => some []
  | v :: r => (fvAtom v).bind fun x => (fvAtoms r).map (x :: ·)

def fvOf : Value → Option FV
  | .agg cs => (fvAtoms cs.toList).map .agg
  | v => fvAtom v

def trOpd (nt : Nat) : Operand → Option Opd
  | .tmp t => if t < nt then some (.s t) else none
  | .const v => (fvOf v).map .c
  | .func f => some (.c (.fn (.func f) [] []))
  | .global _ => none

def trOpds (nt : Nat) : List Operand → Option (List Opd)
  | [] => some []
  | x :: r => (trOpd nt x).bind fun y => (trOpds nt r).map (y :: ·)

def trOpt (nt : Nat) : Option Operand → Option (Option Opd)
  | none => some none
  | some x => (trOpd nt x).map some

def szOf (P : Program) (t : TypeId) : Option Nat := (P.info? t).map (·.size)
def byOf (P : Program) (t : TypeId) : Option Nat := (P.info? t).map (·.bytes)
def zeroOf (P : Program) (t : TypeId) : Option FV := (P.info? t).bind fun i => i.zero.bind fvOf
def agOf (P : Program) (t : TypeId) : Option Bool := (P.underlying t).map fun
  | .struct _ => true
  | .array _ _ => true
  | _ => false

def sliceOf (P : Program) (t : TypeId) : Option TypeId :=
  match P.underlying t with
  | some (.slice e) => some e
  | _ => none

def structOf (P : Program) (t : TypeId) : Option (List Field) :=
  match P.underlying t with
  | some (.struct fs) => some fs.toList
  | _ => none

def tkOf (P : Program) (t : TypeId) : Option TK :=
  match P.underlying t with
  | some (.int _) => some .num
  | some .bool => some .bool
  | some .string => some .str
  | some (.slice _) => some .sl
  | some (.pointer _) => some .ptr
  | some (.func _ _ _) => some .fn
  | _ => none

def trParts2 (P : Program) (nt : Nat) (fs : List Field) : List (Nat × Operand) → Option (List (Nat × Nat × Opd))
  | [] => some []
  | (i, x) :: r => (fs[i]?).bind fun f => (szOf P f.type).bind fun n => (trOpd nt x).bind fun y => (trParts2 P nt fs r).map ((f.offset, n, y) :: ·)

def trParts1 (nt : Nat) : List (Nat × Operand) → Option (List (Nat × Opd))
  | [] => some []
  | (i, x) :: r => (trOpd nt x).bind fun y => (trParts1 nt r).map ((i, y) :: ·)

def trCall (P : Program) (nt : Nat) (c : Call) : Option IOp :=
  match c.callee with
  | .builtin .len => match c.args.toList, c.argTypes.toList with
    | [x], [t] => match P.underlying t with
      | some (.slice _) => (trOpd nt x).map (.len false)
      | some .string => (trOpd nt x).map (.len true)
      | _ => none
    | _, _ => none
  | .builtin .append => match c.args.toList, c.argTypes.toList with
    | [x, y], [t, t'] => (sliceOf P t).bind fun e => (sliceOf P t').bind fun _ => (szOf P e).bind fun sz => (byOf P e).bind fun by' => (zeroOf P e).bind fun z =>
      if z.cells.length = sz then (trOpd nt x).bind fun x => (trOpd nt y).map fun y => .app sz by' x y else none
    | _, _ => none
  | .builtin .max => (trOpds nt c.args.toList).map .mx
  | .builtin .min => (trOpds nt c.args.toList).map .mn
  | .value f => (trOpd nt f).bind fun f => (trOpds nt c.args.toList).map fun as => .call f as
  | _ => none

def trOp (P : Program) (nt : Nat) (o : Op) : Option IOp :=
  match o with
  | .move x | .assign x => (trOpd nt x).map .mv
  | .pick c a b => (trOpd nt c).bind fun c => (trOpd nt a).bind fun a => (trOpd nt b).map fun b => .pick c a b
  | .alloc e => (szOf P e).bind fun n => (zeroOf P e).map fun z => .alloc n z
  | .box e x => (szOf P e).bind fun n => (trOpd nt x).map fun x => .box n x
  | .build t ps => (structOf P t).bind fun fs => (zeroOf P t).bind fun z => if fs.all (fun f => (szOf P f.type).isSome) then (trParts2 P nt fs ps.toList).map fun ps => .build z.cells ps else none
  | .buildSlice t n ps => (sliceOf P t).bind fun e => (szOf P e).bind fun sz => (zeroOf P e).bind fun z => (trParts1 nt ps.toList).map fun ps => .bsl sz z n ps
  | .load t a => (agOf P t).bind fun ag => (szOf P t).bind fun n => (trOpd nt a).map fun a => .load ag n a
  | .store t a x => (szOf P t).bind fun n => (trOpd nt a).bind fun a => (trOpd nt x).map fun x => .store n a x
  | .nilCheck x => (trOpd nt x).map .nilc
  | .binOp op t x y _ => (tkOf P t).bind fun k => (trOpd nt x).bind fun x => (trOpd nt y).map fun y => .bin op k x y
  | .unOp op _ x => (trOpd nt x).map fun x => .un op x
  | .convert s d x => match P.underlying s, P.underlying d with
    | some _, some (.int k) => (trOpd nt x).map fun x => .conv k x
    | _, _ => none
  | .makeFunc fn first caps => (trOpds nt first.toList).bind fun f => (trOpds nt caps.toList).map fun c => .mkfn fn f c
  | .makeSlice t l c => (sliceOf P t).bind fun e => (szOf P e).bind fun sz => (byOf P e).bind fun by' => (zeroOf P e).bind fun z => (trOpd nt l).bind fun l => (trOpd nt c).map fun c => .mksl sz by' z l c
  | .slice t x lo hi mx => (sliceOf P t).bind fun e => (szOf P e).bind fun sz => (trOpd nt x).bind fun x => (trOpt nt lo).bind fun lo => (trOpt nt hi).bind fun hi => (trOpt nt mx).map fun mx => .slice sz x lo hi mx
  | .fieldAddr t x i => (structOf P t).bind fun fs => (fs[i]?).bind fun f => (agOf P f.type).bind fun ag => (szOf P f.type).bind fun n => (trOpd nt x).bind fun x => if 0 < n then some (.fldA f.offset ag n x) else none
  | .field t x i => (structOf P t).bind fun fs => (fs[i]?).bind fun f => (agOf P f.type).bind fun ag => (szOf P f.type).bind fun n => (trOpd nt x).map fun x => .fld f.offset ag n x
  | .indexAddr t x i => (sliceOf P t).bind fun e => (szOf P e).bind fun sz => (trOpd nt x).bind fun x => (trOpd nt i).map fun i => .idxA sz x i
  | .index t x i => match P.underlying t with
    | some .string => (trOpd nt x).bind fun x => (trOpd nt i).map fun i => .idxS x i
    | _ => none
  | .extract x i => (trOpd nt x).map fun x => .extr x i
  | .call c => trCall P nt c
  | _ => none

def trDst (nt : Nat) : Option Tmp → Option (Option Nat)
  | none => some none
  | some d => if d < nt then some (some d) else none

def trGuard (nt : Nat) (ops : List Oper) : Option (Nat × Bool) → Option (Option (Nat × Bool))
  | none => some none
  | some (j, want) => (ops[j]?).bind fun o => o.dst.bind fun d => if d < nt then some (some (d, want)) else none

def trStep (P : Program) (nt : Nat) (ops : List Oper) (o : Oper) : Option IStep :=
  (trOp P nt o.op).bind fun op => (trDst nt o.dst).bind fun d => (trGuard nt ops o.guard).map fun g =>
    { dst := d, op := op, guard := g, after := (o.after.toList.filterMap fun e => if Region.binds .any e then some e.on else none).eraseDups, asg := match o.op with | .assign _ => true | _ => false }

def trSteps (P : Program) (nt : Nat) (ops : List Oper) : List Oper → Option (List IStep)
  | [] => some []
  | o :: r => (trStep P nt ops o).bind fun s => (trSteps P nt ops r).map (s :: ·)

def Opd.slots : Opd → List Nat
  | .s t => [t]
  | .c _ => []

def optSlots : Option Opd → List Nat
  | none => []
  | some x => x.slots

def IOp.slots : IOp → List Nat
  | .mv x | .nilc x | .un _ x | .conv _ x | .box _ x | .load _ _ x | .fldA _ _ _ x | .fld _ _ _ x | .len _ x | .extr x _ => x.slots
  | .pick c a b => c.slots ++ a.slots ++ b.slots
  | .bin _ _ x y | .store _ x y | .mksl _ _ _ x y | .idxA _ x y | .idxS x y | .app _ _ x y => x.slots ++ y.slots
  | .alloc _ _ => []
  | .build _ ps => ps.flatMap fun p => p.2.2.slots
  | .bsl _ _ _ ps => ps.flatMap fun p => p.2.slots
  | .slice _ x a b c => x.slots ++ optSlots a ++ optSlots b ++ optSlots c
  | .mx as | .mn as => as.flatMap Opd.slots
  | .call f as => f.slots ++ as.flatMap Opd.slots
  | .mkfn _ a b => a.flatMap Opd.slots ++ b.flatMap Opd.slots

def IStep.reads (s : IStep) : List Nat := s.op.slots ++ (match s.guard with | some (t, _) => [t] | none => [])

/-- Is whatever could turn what a step reads, or what it writes, in order with it? -/
def okDraw (steps : List IStep) : Bool :=
  let cl := clos steps
  let n := steps.length
  (List.range n).all fun i =>
    match steps[i]? with
    | none => false
    | some s =>
      s.after.all (· < i) &&
      (if s.isS then (List.range i).all fun j => match steps[j]? with
          | some q => !q.isS || waits cl i j
          | none => false
       else (match s.dst with
         | some d => !s.reads.contains d
         | none => false) && (!late cl steps i || (List.range i).all fun j => match steps[j]? with
          | some q => !q.isS || waits cl i j
          | none => false)) &&
      (List.range n).all fun j => match steps[j]? with
        | none => false
        | some q => i == j || (match q.dst with
          | none => true
          | some d =>
            (if s.isS && q.isS then true else s.dst != some d) &&
            (!s.reads.contains d ||
              (if q.isS then s.isS || waits cl j i || waits cl i j else waits cl i j)))

def trC (P : Program) (nt : Nat) : Code → List (List Nat) → Option (ICode × List (List Nat))
  | .skip, h => some (.skip, h)
  | .region _ ops dr, h => (trSteps P nt ops.toList ops.toList).bind fun steps =>
      if dr then (if okDraw steps then some (.draw (h.headD []) steps, h.tail) else none)
      else some (.reg (h.headD []) (steps.map fun s => { s with after := [] }), h.tail)
  | .seq a b, h => (trC P nt a h).bind fun (x, h) => (trC P nt b h).map fun (y, h) => (.seq x y, h)
  | .cond c a b, h => (trOpd nt c).bind fun c => (trC P nt a h).bind fun (x, h) => (trC P nt b h).map fun (y, h) => (.cond c x y, h)
  | .block id b, h => (trC P nt b h).map fun (x, h) => (.block id x, h)
  | .loop b, h => (trC P nt b h.tail).map fun (x, h') => (.loop (h.headD []) x, h')
  | .exit id, h => some (.exit id, h)
  | .ret, h => some (.ret, h)
  | _, _ => none

def trRes (P : Program) (nt : Nat) : ResultVar → Option IRes
  | .tmp t => if t < nt then some (.tmp t) else none
  | .cell t ty => if t < nt then (agOf P ty).bind fun ag => (szOf P ty).map fun n => .cell t ag n else none

def trRess (P : Program) (nt : Nat) : List ResultVar → Option (List IRes)
  | [] => some []
  | r :: rs => (trRes P nt r).bind fun x => (trRess P nt rs).map (x :: ·)

def trF (P : Program) (h : List (List Nat)) (f : Func) : Option IFn :=
  f.body.bind fun c => (trC P f.ntmps c h).bind fun (b, _) => (trRess P f.ntmps f.results.toList).bind fun rs =>
    if f.params.size + f.nfree ≤ f.ntmps ∧ f.name ≠ "runtime.NumGoroutine" then some { nparams := f.params.size + f.nfree, ntmps := f.ntmps, results := rs, body := b } else none
end Go.Ab
