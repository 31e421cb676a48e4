/- A part of the proof: an evaluator of programs, its soundness, and what it says of the functions in hand. It holds without further conditions. -/
import Derived.Laws.AppendOwn
import Derived.Maps.AppendAt
import Derived.Orders
import Derived.LoopN
import Derived.Tactics
import Derived.WalkKit
import Derived.KernelRfl
import Derived.Deep.OwnRows
set_option linter.unusedVariables false
set_option linter.unusedSimpArgs false
namespace Go.Ab
inductive Tag where
  | any
  | nil
  | full
  deriving DecidableEq
inductive FV where
  | int (k : IntKind) (n : Int)
  | bool (b : Bool)
  | str (s : ByteArray)
  | agg (cs : List FV)
  | sl (t : Tag) (xs : List FV)
  | fn (f : Fn) (first caps : List FV)
  | nilFn
  | ptr (x : FV)
  | nilPtr
  | tup (xs : List FV)
  | iface (t : TypeId) (x : FV)
  | nilIface
def FV.cells : FV → List FV
  | .agg cs => cs
  | x => [x]
def FV.one : FV → Bool
  | .agg _ => false
  | .tup _ => false
  | _ => true
def FV.fits (ag : Bool) (sz : Nat) (x : FV) : Bool :=
  match ag, x with
  | true, .agg cs => cs.length == sz
  | false, x => x.one && sz == 1
  | _, _ => false
def flat (xs : List FV) : List FV := xs.flatMap FV.cells
def TagOK (t : Tag) (a : Option Addr) (n c : Nat) : Prop :=
  match t with
  | .any => True
  | .nil => a = none ∧ n = 0 ∧ c = 0
  | .full => c = n
def At (vs : Array Value) (j : Nat) : Option Value := vs[j]?
inductive Rd (w : World) (O : Nat → Prop) : Value → FV → Prop where
  | int (k : IntKind) (n : Int) : Rd w O (.int k n) (.int k n)
  | bool (b : Bool) : Rd w O (.bool b) (.bool b)
  | str (s : ByteArray) : Rd w O (.string s) (.str s)
  | agg (vs : Array Value) (cs : List FV) (hl : vs.size = cs.length) (ho : ∀ x ∈ cs, x.one = true)
      (h : ∀ j v x, At vs j = some v → cs[j]? = some x → Rd w O v x) : Rd w O (.agg vs) (.agg cs)
  | tup (vs : Array Value) (cs : List FV) (hl : vs.size = cs.length) (h : ∀ j v x, At vs j = some v → cs[j]? = some x → Rd w O v x) : Rd w O (.tuple vs) (.tup cs)
  | slE (t : Tag) (a : Option Addr) (c : Nat) (ht : TagOK t a 0 c) : Rd w O (.slice a 0 c) (.sl t [])
  | sl (t : Tag) (xs : List FV) (sz b o c : Nat) (f : Nat → Value) (hz : 0 < sz) (hx : xs ≠ []) (hk : xs.length ≤ c) (hw : ∀ x ∈ xs, x.cells.length = sz ∧ ∀ y ∈ x.cells, y.one = true) (ho : ¬ O b)
      (hf : ∀ j, j < (flat xs).length → w.cell? ⟨b, o + j, none⟩ = some (f j)) (hr : ∀ j x, (flat xs)[j]? = some x → Rd w O (f j) x)
      (ht : TagOK t (some ⟨b, o, none⟩) xs.length c) : Rd w O (.slice (some ⟨b, o, none⟩) xs.length c) (.sl t xs)
  | fn (g : Fn) (fs cs : Array Value) (first caps : List FV) (hf : fs.size = first.length) (hc : cs.size = caps.length)
      (h1 : ∀ j v x, At fs j = some v → first[j]? = some x → Rd w O v x) (h2 : ∀ j v x, At cs j = some v → caps[j]? = some x → Rd w O v x) : Rd w O (.func g fs cs) (.fn g first caps)
  | nilFn : Rd w O .nilFunc .nilFn
  | ptr (x : FV) (b o : Nat) (f : Nat → Value) (hx : 0 < x.cells.length) (h1 : ∀ y ∈ x.cells, y.one = true) (ho : ¬ O b) (hf : ∀ j, j < x.cells.length → w.cell? ⟨b, o + j, none⟩ = some (f j))
      (hr : ∀ j y, x.cells[j]? = some y → Rd w O (f j) y) : Rd w O (.pointer (some ⟨b, o, none⟩)) (.ptr x)
  | nilPtr : Rd w O (.pointer none) .nilPtr
  | iface (t : TypeId) (v : Value) (x : FV) (h : Rd w O v x) : Rd w O (.iface t v) (.iface t x)
  | nilIface : Rd w O .nilIface .nilIface
structure Chg (S : Nat → Prop) (w w' : World) : Prop where
  os : w'.os = w.os
  tape : w'.tape = w.tape
  output : w'.output = w.output
  size : w.heap.size ≤ w'.heap.size
  block : ∀ k, k < w.heap.size → ¬ S k → w'.heap[k]? = w.heap[k]?
theorem Chg.refl (S : Nat → Prop) (w : World) : Chg S w w := ⟨rfl, rfl, rfl, Nat.le_refl _, fun _ _ _ => rfl⟩
theorem Chg.mono {S T : Nat → Prop} {a b : World} (h : Chg S a b) (hs : ∀ k, k < a.heap.size → S k → T k) : Chg T a b :=
  ⟨h.os, h.tape, h.output, h.size, fun k hk ht => h.block k hk fun hs' => ht (hs k hk hs')⟩
theorem Chg.then {S T : Nat → Prop} {a b c : World} (h : Chg S a b) (k : Chg T b c) (ht : ∀ i, i < a.heap.size → T i → S i) : Chg S a c :=
  ⟨k.os.trans h.os, k.tape.trans h.tape, k.output.trans h.output, Nat.le_trans h.size k.size, fun i hi hs => (k.block i (Nat.lt_of_lt_of_le hi h.size) fun h' => hs (ht i hi h')).trans (h.block i hi hs)⟩
theorem Chg.trans {S : Nat → Prop} {a b c : World} (h : Chg S a b) (k : Chg S b c) : Chg S a c := h.then k fun _ _ h => h
theorem Chg.alloc (S : Nat → Prop) (w : World) (o : Obj) : Chg S w (w.alloc o) :=
  ⟨rfl, rfl, rfl, by simp, fun k hk _ => by show (w.heap.push o)[k]? = _; rw [Array.getElem?_push, if_neg (by omega)]⟩
theorem Chg.drew (S : Nat → Prop) (w : World) : Chg S w w.drew := ⟨rfl, rfl, rfl, Nat.le_refl _, fun _ _ _ => rfl⟩
theorem Chg.setRow (w : World) (g : Nat) (c : Array Value) : Chg (fun b => b = g) w (w.setRow g c) :=
  ⟨rfl, rfl, rfl, by simp, fun k _ hs => setRow_other w g k _ hs⟩
theorem Chg.of_grownBy {w w' : World} {row : Option Nat} (h : w.grownBy w' row) : Chg (fun b => some b = row) w w' :=
  ⟨h.os, h.tape, h.output, h.size, fun k hk hs => h.block k hk hs⟩
theorem Chg.cell {S : Nat → Prop} {w w' : World} (h : Chg S w w') {b o : Nat} {v : Value} (hs : ¬ S b) (hc : w.cell? ⟨b, o, none⟩ = some v) : w'.cell? ⟨b, o, none⟩ = some v := by
  have hb := World.block_lt_of_cell? w _ hc
  rw [← hc]
  simp only [World.cell?]
  rw [h.block b hb hs]
theorem flat_length {sz : Nat} : ∀ (xs : List FV), (∀ x ∈ xs, x.cells.length = sz) → (flat xs).length = xs.length * sz
  | [], _ => by simp [flat]
  | x :: xs, h => by
    have ih := flat_length xs (fun y hy => h y (by simp [hy]))
    simp only [flat, List.flatMap_cons, List.length_append, List.length_cons] at ih ⊢
    rw [h x (by simp), ih, Nat.add_mul]
    omega
theorem Rd.mono {w w' : World} {O O' S : Nat → Prop} (hw : Chg S w w') (hS : ∀ b, S b → O b) (hO : ∀ b, b < w.heap.size → O' b → O b) {v : Value} {x : FV} (h : Rd w O v x) : Rd w' O' v x := by
  induction h with
  | int k n => exact .int k n
  | bool b => exact .bool b
  | str s => exact .str s
  | agg vs cs hl ho _ ih => exact .agg vs cs hl ho ih
  | tup vs cs hl _ ih => exact .tup vs cs hl ih
  | slE t a c ht => exact .slE t a c ht
  | sl t xs sz b o c f hz hx hk hw' ho hf _ ht ih =>
    have hn : 0 < (flat xs).length := by
      rw [flat_length xs fun x hx => (hw' x hx).1]
      exact Nat.mul_pos (List.length_pos_iff.2 hx) hz
    have hb : b < w.heap.size := World.block_lt_of_cell? w _ (hf 0 hn)
    exact Rd.sl t xs sz b o c f hz hx hk hw' (fun h' => ho (hO b hb h')) (fun j hj => hw.cell (fun h' => ho (hS b h')) (hf j hj)) ih ht
  | fn g fs cs first caps hf hc _ _ ih1 ih2 => exact .fn g fs cs first caps hf hc ih1 ih2
  | nilFn => exact .nilFn
  | ptr x b o f hx h1 ho hf _ ih =>
    have hb : b < w.heap.size := World.block_lt_of_cell? w _ (hf 0 hx)
    exact Rd.ptr x b o f hx h1 (fun h' => ho (hO b hb h')) (fun j hj => hw.cell (fun h' => ho (hS b h')) (hf j hj)) ih
  | nilPtr => exact .nilPtr
  | iface t v x _ ih => exact .iface t v x ih
  | nilIface => exact .nilIface
theorem Rd.one {w : World} {O : Nat → Prop} {v : Value} {x : FV} (h : Rd w O v x) (h1 : x.one = true) : v.oneCell' = true := by
  cases h <;> first | rfl | (simp [FV.one] at h1)
theorem Rd.cells {w : World} {O : Nat → Prop} {v : Value} {x : FV} (h : Rd w O v x) (ht : x.one = true ∨ ∃ cs, x = .agg cs) :
    v.cells.size = x.cells.length ∧ (∀ y ∈ x.cells, y.one = true) ∧ ∀ j u y, At v.cells j = some u → x.cells[j]? = some y → Rd w O u y := by
  have single : ∀ (v : Value) (x : FV), Rd w O v x → x.one = true → v.cells = #[v] → x.cells = [x] →
      v.cells.size = x.cells.length ∧ (∀ y ∈ x.cells, y.one = true) ∧ ∀ j u y, At v.cells j = some u → x.cells[j]? = some y → Rd w O u y := by
    intro v x h h1 hv hx
    rw [hv, hx]
    refine ⟨rfl, by simpa using h1, fun j u y hu hy => ?_⟩
    match j with
    | 0 => simp [At] at hu hy; subst hu; subst hy; exact h
    | j + 1 => simp at hy
  cases h with
  | agg vs cs hl ho h => exact ⟨hl, ho, fun j u y hu hy => h j u y hu hy⟩
  | tup vs cs hl h => rcases ht with ht | ⟨_, ht⟩ <;> first | (simp [FV.one] at ht) | cases ht
  | int k n => exact single _ _ (.int k n) rfl rfl rfl
  | bool b => exact single _ _ (.bool b) rfl rfl rfl
  | str s => exact single _ _ (.str s) rfl rfl rfl
  | slE t a c ht' => exact single _ _ (.slE t a c ht') rfl rfl rfl
  | sl t xs sz b o c f hz hx hk hw' ho hf hr ht' => exact single _ _ (.sl t xs sz b o c f hz hx hk hw' ho hf hr ht') rfl rfl rfl
  | fn g fs cs first caps hf hc h1 h2 => exact single _ _ (.fn g fs cs first caps hf hc h1 h2) rfl rfl rfl
  | nilFn => exact single _ _ .nilFn rfl rfl rfl
  | ptr x b o f hx h1 ho hf hr => exact single _ _ (.ptr x b o f hx h1 ho hf hr) rfl rfl rfl
  | nilPtr => exact single _ _ .nilPtr rfl rfl rfl
  | iface t v x h => exact single _ _ (.iface t v x h) rfl rfl rfl
  | nilIface => exact single _ _ .nilIface rfl rfl rfl
inductive Id where
  | b (i : Nat)
  | l (i : Nat)
  deriving DecidableEq
inductive Ent where
  | dead
  | own (sz : Nat) (xs : List FV)
  | frz (sz : Nat) (xs : List FV)
def Ent.isOwn : Ent → Bool
  | .own .. => true
  | _ => false
def ent (B L : List Ent) : Id → Ent
  | .b i => B.getD i .dead
  | .l i => L.getD i .dead
def Id.valid (B L : List Ent) : Id → Prop
  | .b i => i < B.length
  | .l i => i < L.length
inductive Cap where
  | fz (x : FV)
  | own (id : Id) (sz : Nat)
inductive SV where
  | unk
  | fv (x : FV)
  | ref (id : Id) (sz off len : Nat) (ap : Bool)
  | ptr (id : Id) (sz i c : Nat)
  | clo (f : Fn) (n : Nat) (caps : List Cap)
abbrev Rho := Id → Nat × Nat
def Av (O : Nat → Prop) (ρ : Rho) (B L : List Ent) (b : Nat) : Prop := O b ∨ ∃ i, (ent B L i).isOwn = true ∧ (ρ i).1 = b
def CapRel (w : World) (A : Nat → Prop) (ρ : Rho) (B L : List Ent) (v : Value) : Cap → Prop
  | .fz x => Rd w A v x
  | .own id _ => id.valid B L ∧ v = .pointer (some ⟨(ρ id).1, 0, none⟩)
def SvRel (w : World) (A : Nat → Prop) (ρ : Rho) (B L : List Ent) (v : Value) : SV → Prop
  | .unk => True
  | .fv x => Rd w A v x
  | .ref id sz off len ap => id.valid B L ∧ ∃ cap, v = .slice (some ⟨(ρ id).1, off * sz, none⟩) len cap ∧ len ≤ cap ∧ (ap = true → off = 0 ∧ cap = (ρ id).2)
  | .ptr id sz i c => id.valid B L ∧ v = .pointer (some ⟨(ρ id).1, i * sz + c, none⟩)
  | .clo f n caps => ∃ fs cs, v = .func f fs cs ∧ fs.size = n ∧ (fs ++ cs).size = caps.length ∧
      ∀ j u x, At (fs ++ cs) j = some u → caps[j]? = some x → CapRel w A ρ B L u x
structure Heap (w : World) (O : Nat → Prop) (ρ : Rho) (B L : List Ent) : Prop where
  inj : ∀ i j, (ent B L i).isOwn = true → (ent B L j).isOwn = true → (ρ i).1 = (ρ j).1 → i = j
  notO : ∀ i, (ent B L i).isOwn = true → ¬ O (ρ i).1
  oLt : ∀ b, O b → b < w.heap.size
  own : ∀ i sz xs, ent B L i = .own sz xs → 0 < sz ∧ (∀ x ∈ xs, x.cells.length = sz ∧ ∀ y ∈ x.cells, y.one = true) ∧ xs.length ≤ (ρ i).2 ∧ (ρ i).2 ≤ maxLen ∧
    ∃ cur t, w.heap[(ρ i).1]? = some (.cells cur t (0, 0)) ∧ cur.size = (ρ i).2 * sz ∧
      ∀ j x, (flat xs)[j]? = some x → ∃ v, At cur j = some v ∧ Rd w (Av O ρ B L) v x
  frz : ∀ i sz xs, ent B L i = .frz sz xs → 0 < sz ∧ (∀ x ∈ xs, x.cells.length = sz ∧ ∀ y ∈ x.cells, y.one = true) ∧ ¬ Av O ρ B L (ρ i).1 ∧ (ρ i).1 < w.heap.size ∧
    ∀ j x, (flat xs)[j]? = some x → ∃ v, w.cell? ⟨(ρ i).1, j, none⟩ = some v ∧ Rd w (Av O ρ B L) v x
structure Ext (w : World) (O : Nat → Prop) (ρ : Rho) (B L : List Ent) (w' : World) (ρ' : Rho) (B' L' : List Ent) : Prop where
  chg : Chg (fun b => ∃ i, (ent B L i).isOwn = true ∧ (ρ i).1 = b) w w'
  heap : Heap w' O ρ' B' L'
  rho : ∀ id, id.valid B L → ρ' id = ρ id
  av : ∀ b, b < w.heap.size → Av O ρ' B' L' b → Av O ρ B L b
  lenB : B'.length = B.length
  lenL : L.length ≤ L'.length
theorem Id.valid.ext {B L B' L' : List Ent} {id : Id} (h : id.valid B L) (hb : B'.length = B.length) (hl : L.length ≤ L'.length) : id.valid B' L' := by
  cases id <;> simp only [Id.valid] at h ⊢ <;> omega
section
variable {w w' : World} {O : Nat → Prop} {ρ ρ' : Rho} {B L B' L' : List Ent}
theorem Ext.rd (h : Ext w O ρ B L w' ρ' B' L') {v : Value} {x : FV} (hr : Rd w (Av O ρ B L) v x) : Rd w' (Av O ρ' B' L') v x :=
  Rd.mono h.chg (fun b ⟨i, hi, hb⟩ => .inr ⟨i, hi, hb⟩) h.av hr
theorem Ext.cap (h : Ext w O ρ B L w' ρ' B' L') {v : Value} {c : Cap} (hr : CapRel w (Av O ρ B L) ρ B L v c) : CapRel w' (Av O ρ' B' L') ρ' B' L' v c := by
  cases c with
  | fz x => exact h.rd hr
  | own id sz => exact ⟨hr.1.ext h.lenB h.lenL, by rw [h.rho _ hr.1]; exact hr.2⟩
theorem Ext.sv (h : Ext w O ρ B L w' ρ' B' L') {v : Value} {s : SV} (hr : SvRel w (Av O ρ B L) ρ B L v s) : SvRel w' (Av O ρ' B' L') ρ' B' L' v s := by
  cases s with
  | unk => trivial
  | fv x => exact h.rd hr
  | ref id sz off len ap => exact ⟨hr.1.ext h.lenB h.lenL, by rw [h.rho _ hr.1]; exact hr.2⟩
  | ptr id sz i c => exact ⟨hr.1.ext h.lenB h.lenL, by rw [h.rho _ hr.1]; exact hr.2⟩
  | clo f nf caps =>
    obtain ⟨fs, cs, e, h1, h2, h4⟩ := hr
    exact ⟨fs, cs, e, h1, h2, fun j u x hu hx => h.cap (h4 j u x hu hx)⟩
theorem Ext.refl (h : Heap w O ρ B L) : Ext w O ρ B L w ρ B L := ⟨Chg.refl _ _, h, fun _ _ => rfl, fun _ _ h => h, rfl, Nat.le_refl _⟩
theorem Ext.trans {w2 : World} {ρ2 : Rho} {B2 L2 : List Ent} (h : Ext w O ρ B L w' ρ' B' L') (k : Ext w' O ρ' B' L' w2 ρ2 B2 L2) (hh : Heap w O ρ B L) : Ext w O ρ B L w2 ρ2 B2 L2 := by
  refine ⟨h.chg.then k.chg ?_, k.heap, fun id hv => (k.rho id (hv.ext h.lenB h.lenL)).trans (h.rho id hv), fun b hb hA => h.av b hb (k.av b (Nat.lt_of_lt_of_le hb h.chg.size) hA), k.lenB.trans h.lenB, Nat.le_trans h.lenL k.lenL⟩
  rintro b hb ⟨i, hi, e⟩
  rcases h.av b hb (.inr ⟨i, hi, e⟩) with hO | ho
  · exact absurd (e ▸ hO) (h.heap.notO i hi)
  · exact ho
theorem Heap.grow (hh : Heap w O ρ B L) (hc : Chg (fun _ => False) w w') : Ext w O ρ B L w' ρ B L := by
  have hrd : ∀ {v x}, Rd w (Av O ρ B L) v x → Rd w' (Av O ρ B L) v x := fun h => Rd.mono hc (fun _ h => h.elim) (fun _ _ h => h) h
  refine ⟨hc.mono fun _ _ h => h.elim, ⟨hh.inj, hh.notO, fun b hb => Nat.lt_of_lt_of_le (hh.oLt b hb) hc.size, ?_, ?_⟩, fun _ _ => rfl, fun _ _ h => h, rfl, Nat.le_refl _⟩
  · intro i sz xs he
    obtain ⟨h1, h2, h3, h4, cur, t, h5, h6, h7⟩ := hh.own i sz xs he
    refine ⟨h1, h2, h3, h4, cur, t, ?_, h6, fun j x hx => ?_⟩
    · rw [hc.block _ (Array.getElem?_eq_some_iff.1 h5).1 (fun h => h)]; exact h5
    · obtain ⟨v, hv, hr⟩ := h7 j x hx; exact ⟨v, hv, hrd hr⟩
  · intro i sz xs he
    obtain ⟨h1, h2, h3, h4, h5⟩ := hh.frz i sz xs he
    refine ⟨h1, h2, h3, Nat.lt_of_lt_of_le h4 hc.size, fun j x hx => ?_⟩
    obtain ⟨v, hv, hr⟩ := h5 j x hx
    exact ⟨v, hc.cell (fun h => h) hv, hrd hr⟩
end
end Go.Ab
namespace Go.Ab
inductive Opd where
  | s (t : Nat)
  | c (x : FV)
inductive TK where
  | num
  | bool
  | str
  | sl
  | ptr
  | fn
  deriving DecidableEq
inductive IOp where
  | mv (x : Opd)
  | nilc (x : Opd)
  | pick (c a b : Opd)
  | bin (op : BinOp) (k : TK) (x y : Opd)
  | un (op : UnOp) (x : Opd)
  | conv (k : IntKind) (x : Opd)
  | alloc (sz : Nat) (z : FV)
  | box (sz : Nat) (x : Opd)
  | build (zero : List FV) (parts : List (Nat × Nat × Opd))
  | bsl (sz : Nat) (zero : FV) (len : Nat) (parts : List (Nat × Opd))
  | load (ag : Bool) (sz : Nat) (x : Opd)
  | store (sz : Nat) (a x : Opd)
  | mksl (sz bytes : Nat) (zero : FV) (len cap : Opd)
  | slice (sz : Nat) (x : Opd) (lo hi mx : Option Opd)
  | fldA (off : Nat) (ag : Bool) (sz : Nat) (x : Opd)
  | fld (off : Nat) (ag : Bool) (sz : Nat) (x : Opd)
  | idxA (sz : Nat) (x i : Opd)
  | idxS (x i : Opd)
  | len (st : Bool) (x : Opd)
  | app (sz bytes : Nat) (x y : Opd)
  | mx (args : List Opd)
  | mn (args : List Opd)
  | call (f : Opd) (args : List Opd)
  | mkfn (fn : Fn) (first caps : List Opd)
  | extr (x : Opd) (i : Nat)
structure IStep where
  dst : Option Nat
  op : IOp
  guard : Option (Nat × Bool) := none
  after : List Nat := []
  asg : Bool := false
inductive ICode where
  | skip
  | reg (keep : List Nat) (steps : List IStep)
  | draw (keep : List Nat) (steps : List IStep)
  | seq (a b : ICode)
  | cond (c : Opd) (a b : ICode)
  | block (id : Nat) (b : ICode)
  | loop (keep : List Nat) (b : ICode)
  | exit (id : Nat)
  | ret
inductive IRes where
  | tmp (t : Nat)
  | cell (t : Nat) (ag : Bool) (sz : Nat)
structure IFn where
  nparams : Nat
  ntmps : Nat
  results : List IRes
  body : ICode
abbrev Env := List (Nat × SV)
def Env.get : Env → Nat → SV
  | [], _ => .unk
  | (u, x) :: r, t => if u = t then x else Env.get r t
def Env.put : Env → Nat → SV → Env
  | [], t, s => [(t, s)]
  | (u, x) :: r, t, s => if u = t then (t, s) :: r else (u, x) :: Env.put r t s
def Env.keep (ks : List Nat) (e : Env) : Env := ks.map fun t => (t, e.get t)
def opd (e : Env) : Opd → SV
  | .s t => e.get t
  | .c x => .fv x
structure St where
  env : Env
  B : List Ent
  L : List Ent
abbrev Look := Opd → SV
def cutL (xs : List FV) (off len : Nat) : List FV := (xs.drop off).take len
def capFV (B L : List Ent) : Cap → Option FV
  | .fz x => some x
  | .own id sz => match ent B L id with
    | .frz sz' [x] => if sz = sz' then some (.ptr x) else none
    | _ => none
def capsFV (B L : List Ent) : List Cap → Option (List FV)
  | [] => some []
  | c :: cs => (capFV B L c).bind fun x => (capsFV B L cs).map (x :: ·)
def toFV (B L : List Ent) : SV → Option FV
  | .unk => none
  | .fv x => some x
  | .ref id sz off len _ => match ent B L id with
    | .frz sz' xs => if sz = sz' ∧ off + len ≤ xs.length then some (.sl .any (cutL xs off len)) else none
    | _ => none
  | .ptr id sz i c => match ent B L id with
    | .frz sz' xs => if sz = sz' ∧ c = 0 then (xs[i]?).map .ptr else none
    | _ => none
  | .clo f n caps => (capsFV B L caps).map fun xs => .fn f (xs.take n) (xs.drop n)
def toFVs (B L : List Ent) : List SV → Option (List FV)
  | [] => some []
  | s :: ss => (toFV B L s).bind fun x => (toFVs B L ss).map (x :: ·)
def wid (sz : Nat) (xs : List FV) : Bool := xs.all fun x => x.cells.length == sz
def rdSl (B L : List Ent) (sz : Nat) : SV → Option (List FV)
  | .fv (.sl _ xs) => if wid sz xs then some xs else none
  | .ref id sz' off len _ => match ent B L id with
    | .frz sz2 xs => if sz = sz' ∧ sz' = sz2 ∧ off + len ≤ xs.length then some (cutL xs off len) else none
    | .own sz2 xs => if sz = sz' ∧ sz' = sz2 ∧ off + len ≤ xs.length then some (cutL xs off len) else none
    | _ => none
  | _ => none
def lenSl (st : Bool) (s : SV) : Option Nat :=
  match st, s with
  | false, .fv (.sl _ xs) => some xs.length
  | true, .fv (.str s) => some s.size
  | false, .ref _ _ _ len _ => some len
  | _, _ => none
def evInt (op : BinOp) (k : IntKind) (a b : Int) : Option FV :=
  match op with
  | .add => some (.int k (k.wrap (a + b)))
  | .sub => some (.int k (k.wrap (a - b)))
  | .mul => some (.int k (k.wrap (a * b)))
  | .quo => if b = 0 then none else some (.int k (k.wrap (a.tdiv b)))
  | .rem => if b = 0 then none else some (.int k (a.tmod b))
  | .and => some (.int k (k.wrap (BitVec.ofInt k.bits a &&& BitVec.ofInt k.bits b).toNat))
  | .or => some (.int k (k.wrap (BitVec.ofInt k.bits a ||| BitVec.ofInt k.bits b).toNat))
  | .xor => some (.int k (k.wrap (BitVec.ofInt k.bits a ^^^ BitVec.ofInt k.bits b).toNat))
  | .andNot => some (.int k (k.wrap (BitVec.ofInt k.bits a &&& ~~~(BitVec.ofInt k.bits b)).toNat))
  | .eql => some (.bool (a == b))
  | .neq => some (.bool (a != b))
  | .lss => some (.bool (a < b))
  | .leq => some (.bool (a ≤ b))
  | .gtr => some (.bool (a > b))
  | .geq => some (.bool (a ≥ b))
  | _ => none
def evShift (op : BinOp) (k : IntKind) (a b : Int) : Option FV :=
  if b < 0 then none else
  match op with
  | .shl => some (.int k (k.wrap (a * 2 ^ (min b.toNat k.bits))))
  | .shr => some (.int k (a.fdiv (2 ^ (min b.toNat k.bits))))
  | _ => none
def isNil (tk : TK) (s : SV) : Option Bool :=
  match tk, s with
  | .sl, .fv (.sl .nil []) => some true
  | .sl, .fv (.sl _ (_ :: _)) => some false
  | .ptr, .fv .nilPtr => some true
  | .ptr, .fv (.ptr _) => some false
  | .fn, .fv .nilFn => some true
  | .fn, .fv (.fn ..) => some false
  | .sl, .ref .. => some false
  | .ptr, .ptr .. => some false
  | .fn, .clo .. => some false
  | _, _ => none
def isNilC (tk : TK) (s : SV) : Bool :=
  match tk, s with
  | .sl, .fv (.sl .nil []) => true
  | .ptr, .fv .nilPtr => true
  | .fn, .fv .nilFn => true
  | _, _ => false
def evBin (op : BinOp) (tk : TK) (x y : SV) : Option FV :=
  match x, y with
  | .fv (.int k a), .fv (.int k' b) =>
    match op with
    | .shl | .shr => evShift op k a b
    | _ => if k = k' then evInt op k a b else none
  | .fv (.bool a), .fv (.bool b) =>
    match tk, op with
    | .bool, .eql => some (.bool (a == b))
    | .bool, .neq => some (.bool (a != b))
    | _, _ => none
  | .fv (.str a), .fv (.str b) =>
    match op with
    | .eql => some (.bool (a.toList == b.toList))
    | .neq => some (.bool !(a.toList == b.toList))
    | .lss => some (.bool (Op.bytesLess a.toList b.toList))
    | .leq => some (.bool (Op.bytesLess a.toList b.toList || a.toList == b.toList))
    | .gtr => some (.bool !(Op.bytesLess a.toList b.toList || a.toList == b.toList))
    | .geq => some (.bool !(Op.bytesLess a.toList b.toList))
    | .add => if a.size + b.size ≤ 9223372036854775807 then some (.str (a ++ b)) else none
    | _ => none
  | x, y =>
    if isNilC tk y then
      match op with
      | .eql => (isNil tk x).map .bool
      | .neq => (isNil tk x).map fun b => .bool !b
      | _ => none
    else none
def evUn (op : UnOp) (x : SV) : Option FV :=
  match op, x with
  | .neg, .fv (.int k n) => some (.int k (k.wrap (0 - n)))
  | .not, .fv (.bool b) => some (.bool !b)
  | _, _ => none
def minOne (lt : Int → Int → Bool) : FV → List SV → Option FV
  | x, [] => some x
  | .int k a, .fv (.int k' b) :: r => if k = k' then minOne lt (.int k (if lt b a then b else a)) r else none
  | _, _ => none
def ldElem (ag : Bool) (sz c : Nat) (x : FV) : Option FV :=
  if c = 0 ∧ x.fits ag sz = true then some x
  else if ag then (if c + sz ≤ x.cells.length ∧ 0 < sz then some (.agg (cutL x.cells c sz)) else none)
  else if sz = 1 then x.cells[c]? else none
def stElem (c : Nat) (x y : FV) : Option FV :=
  match x with
  | .agg cs => if c + y.cells.length ≤ cs.length then some (.agg (cs.take c ++ y.cells ++ cs.drop (c + y.cells.length))) else none
  | _ => if c = 0 ∧ y.one = true then some y else none
def okPart : FV → Bool
  | .tup _ => false
  | _ => true
def fillF (cells : List FV) : List (Nat × Nat × FV) → Option (List FV)
  | [] => some cells
  | (off, size, x) :: r =>
    if x.cells.length = size ∧ off + size ≤ cells.length ∧ okPart x = true then fillF (cells.take off ++ x.cells ++ cells.drop (off + size)) r else none
def fillS (sz : Nat) (xs : List FV) : List (Nat × FV) → Option (List FV)
  | [] => some xs
  | (i, x) :: r => if i < xs.length ∧ x.cells.length = sz ∧ okPart x = true then fillS sz (xs.set i x) r else none
def bnd (n d : Nat) : Option SV → Option Nat
  | none => some d
  | some (.fv (.int _ i)) => if 0 ≤ i ∧ i ≤ n then some i.toNat else none
  | some _ => none
def bnds (n : Nat) (lo hi mx : Option SV) : Option (Nat × Nat × Option Nat) :=
  match mx with
  | none => (bnd n n hi).bind fun h => (bnd h 0 lo).map fun l => (l, h, none)
  | some m => if hi.isNone then none else (bnd n n (some m)).bind fun m => (bnd m m hi).bind fun h => (bnd h 0 lo).map fun l => (l, h, some m)
abbrev Disp := FuncId → List SV → List Ent → Option (SV × List Ent × List Ent)
def asInt? : SV → Option Int
  | .fv (.int _ n) => some n
  | _ => none
def parts2 (B L : List Ent) (g : Look) : List (Nat × Nat × Opd) → Option (List (Nat × Nat × FV))
  | [] => some []
  | (o, n, x) :: r => (toFV B L (g x)).bind fun v => (parts2 B L g r).map ((o, n, v) :: ·)
def parts1 (B L : List Ent) (g : Look) : List (Nat × Opd) → Option (List (Nat × FV))
  | [] => some []
  | (o, x) :: r => (toFV B L (g x)).bind fun v => (parts1 B L g r).map ((o, v) :: ·)
def mkCap (B L : List Ent) : SV → Option Cap
  | .ptr id sz 0 0 => match ent B L id with
    | .own sz' _ => if sz = sz' then some (.own id sz) else none
    | .frz sz' [x] => if sz = sz' then some (.fz (.ptr x)) else none
    | _ => none
  | s => (toFV B L s).map .fz
def mkCaps (B L : List Ent) : List SV → Option (List Cap)
  | [] => some []
  | s :: ss => (mkCap B L s).bind fun c => (mkCaps B L ss).map (c :: ·)
def Cap.fv? : Cap → Option FV
  | .fz x => some x
  | .own .. => none
def capsFv? : List Cap → Option (List FV)
  | [] => some []
  | c :: cs => c.fv?.bind fun x => (capsFv? cs).map (x :: ·)
def Ent.fz : Ent → Ent
  | .own sz xs => .frz sz xs
  | e => e
def evQ (call : Disp) (o : IOp) (g : Look) (B L : List Ent) : Option SV :=
  match o with
  | .mv x => match g x with
    | .unk => none
    | s => some s
  | .nilc x => match g x with
    | .fv (.ptr y) => some (.fv (.ptr y))
    | .ptr id sz i c => some (.ptr id sz i c)
    | .fv (.fn f a b) => match f with
      | .method _ => none
      | f => some (.fv (.fn f a b))
    | .clo f a b => match f with
      | .method _ => none
      | f => some (.clo f a b)
    | _ => none
  | .pick c a b => match g c with
    | .fv (.bool t) => match (if t then g a else g b) with
      | .unk => none
      | s => some s
    | _ => none
  | .bin op tk x y => (evBin op tk (g x) (g y)).map .fv
  | .un op x => (evUn op (g x)).map .fv
  | .conv k x => match g x with
    | .fv (.int _ n) => some (.fv (.int k (k.wrap n)))
    | _ => none
  | .build zero ps => (parts2 B L g ps).bind fun ps => (fillF zero ps).map fun cs => .fv (.agg cs)
  | .bsl sz zero n ps => if 0 < sz ∧ zero.cells.length = sz ∧ okPart zero = true ∧ n * sz ≤ 16777216 then (parts1 B L g ps).bind fun ps => (fillS sz (List.replicate n zero) ps).map fun xs => .fv (.sl .full xs) else none
  | .load ag sz x => match g x with
    | .fv (.ptr y) => (ldElem ag sz 0 y).map .fv
    | .ptr id sz' i c => match ent B L id with
      | .own sz2 xs => if sz' = sz2 then (xs[i]?).bind fun y => (ldElem ag sz c y).map .fv else none
      | .frz sz2 xs => if sz' = sz2 then (xs[i]?).bind fun y => (ldElem ag sz c y).map .fv else none
      | .dead => none
    | _ => none
  | .slice sz x lo hi mx => match g x with
    | .fv (.sl t xs) => if wid sz xs then (bnds xs.length (lo.map g) (hi.map g) (mx.map g)).map fun (l, h, m) => .fv (.sl (if m = some h then .full else .any) (cutL xs l (h - l))) else none
    | .ref id sz' off n ap => if sz = sz' then (bnds n (lo.map g) (hi.map g) (mx.map g)).map fun (l, h, m) =>
        if l = h ∧ l ≠ 0 then .fv (.sl .any []) else .ref id sz (off + l) (h - l) (ap && l == 0 && m.isNone) else none
    | _ => none
  | .fldA off ag sz x => match g x with
    | .fv (.ptr (.agg cs)) => (ldElem ag sz off (.agg cs)).map fun y => .fv (.ptr y)
    | .ptr id sz' i c => if 0 < sz then some (.ptr id sz' i (c + off)) else none
    | _ => none
  | .fld off ag sz x => match g x with
    | .fv (.agg cs) => (if ag then (if off + sz ≤ cs.length then some (FV.agg (cutL cs off sz)) else none) else cs[off]?).map .fv
    | _ => none
  | .idxA sz x i => match g x, g i with
    | .fv (.sl _ xs), .fv (.int _ n) => if 0 ≤ n then (match xs[n.toNat]? with | some y => if y.cells.length = sz then some (.fv (.ptr y)) else none | none => none) else none
    | .ref id sz' off len _, .fv (.int _ n) => if sz = sz' ∧ 0 ≤ n ∧ n < len then some (.ptr id sz (off + n.toNat) 0) else none
    | _, _ => none
  | .idxS x i => match g x, g i with
    | .fv (.str s), .fv (.int _ n) => if 0 ≤ n then (s[n.toNat]?).map fun b => .fv (.int .u8 b.toNat) else none
    | _, _ => none
  | .len st x => (lenSl st (g x)).map fun (n : Nat) => .fv (.int .i64 (n : Int))
  | .mx args => match args.map g with
    | .fv (.int k n) :: r => (minOne (fun b a => b > a) (.int k n) r).map .fv
    | _ => none
  | .mn args => match args.map g with
    | .fv (.int k n) :: r => (minOne (fun b a => b < a) (.int k n) r).map .fv
    | _ => none
  | .mkfn fn first caps => (mkCaps B L ((first ++ caps).map g)).map fun cs => match capsFv? cs with
    | some xs => .fv (.fn fn (xs.take first.length) (xs.drop first.length))
    | none => .clo fn first.length cs
  | .extr x i => match g x with
    | .fv (.tup xs) => (xs[i]?).map .fv
    | _ => none
  | .call f args => match g f with
    | .fv (.fn (.func n) first caps) => (toFVs B L (args.map g)).bind fun as =>
        match call n ((first ++ as ++ caps).map .fv) [] with
        | some (r, _, L') => (toFV [] (L'.map Ent.fz) r).map .fv
        | none => none
    | _ => none
  | .alloc .. | .box .. | .store .. | .mksl .. | .app .. => none
def frz1 (id : Id) (B L : List Ent) : List Ent × List Ent :=
  match id with
  | .b i => (B.modify i Ent.fz, L)
  | .l i => (B, L.modify i Ent.fz)
def frzs : List Id → List Ent → List Ent → List Ent × List Ent
  | [], B, L => (B, L)
  | i :: r, B, L => frzs r (frz1 i B L).1 (frz1 i B L).2
def setE (id : Id) (e : Ent) (B L : List Ent) : List Ent × List Ent :=
  match id with
  | .b i => (B.set i e, L)
  | .l i => (B, L.set i e)
def Cap.ids : Cap → List Id
  | .fz _ => []
  | .own id _ => [id]
def SV.ids : SV → List Id
  | .ref id .. => [id]
  | .ptr id .. => [id]
  | .clo _ _ caps => caps.flatMap Cap.ids
  | _ => []
def SV.refIds : SV → List Id
  | .ref id .. => [id]
  | _ => []
def Cap.ren (σ : Id → Id) : Cap → Cap
  | .fz x => .fz x
  | .own id sz => .own (σ id) sz
def SV.ren (σ : Id → Id) : SV → SV
  | .ref id sz off len ap => .ref (σ id) sz off len ap
  | .ptr id sz i c => .ptr (σ id) sz i c
  | .clo f n caps => .clo f n (caps.map (Cap.ren σ))
  | s => s
structure Ann where
  inh : FuncId → Bool
  raw : FuncId → FuncId → Bool
def callee : SV → Option FuncId
  | .fv (.fn (.func n) _ _) => some n
  | .clo (.func n) _ _ => some n
  | _ => none
def SV.live : SV → Bool
  | .ptr .. => true
  | .clo .. => true
  | _ => false
def keepsOwn (an : Ann) (g : Look) (f : Opd) (args : List Opd) : Bool :=
  (g f).live || args.any (fun x => (g x).live) || ((callee (g f)).map an.inh).getD false
def rawCall (an : Ann) (self : FuncId) (s : SV) : Bool := ((callee s).map (an.raw self)).getD false
def toFreeze (an : Ann) (self : FuncId) (o : IOp) (g : Look) : List Id :=
  match o with
  | .build _ ps => ps.flatMap fun p => (g p.2.2).ids
  | .bsl _ _ _ ps => ps.flatMap fun p => (g p.2).ids
  | .box _ x => (g x).ids
  | .store _ _ x => (g x).ids
  | .mkfn _ first caps => (first ++ caps).flatMap fun x => (g x).refIds
  | .app _ _ _ y => []
  | .call f args => if keepsOwn an g f args then [] else args.flatMap fun x => (g x).ids
  | _ => []
def dedup : List Id → List Id
  | [] => []
  | i :: r => if i ∈ dedup r then dedup r else i :: dedup r
def writeBack : List Id → List Ent → List Ent → List Ent → List Ent × List Ent
  | i :: is, e :: es, B, L => writeBack is es (setE i e B L).1 (setE i e B L).2
  | _, _, B, L => (B, L)
def selOf (g : Look) (f : Opd) (args : List Opd) : List Id := dedup ((g f).ids ++ args.flatMap fun x => (g x).ids)
def capArg : Cap → SV
  | .fz x => .fv x
  | .own id sz => .ptr id sz 0 0
def callArgs (s : SV) (args : List SV) : Option (FuncId × List SV) :=
  match s with
  | .fv (.fn (.func n) first caps) => some (n, first.map .fv ++ args ++ caps.map .fv)
  | .clo (.func n) k caps => some (n, (caps.map capArg).take k ++ args ++ (caps.map capArg).drop k)
  | _ => none
def downTo (sel : List Id) (i : Id) : Id := .b (sel.idxOf i)
def upFrom (sel : List Id) (n : Nat) : Id → Id
  | .b j => sel.getD j (.b 0)
  | .l j => .l (n + j)
def evI (call : Disp) (raw : Bool) (g : Look) (f : Opd) (args : List Opd) (B L : List Ent) : Option (SV × List Ent × List Ent) :=
  let sel := selOf g f args
  (callArgs (g f) (args.map g)).bind fun (n, as) =>
  if as.any (fun s => match s with | .unk => true | _ => false) then none else
  (call n (as.map (SV.ren (downTo sel))) (sel.map (ent B L))).bind fun (r, B', L') =>
    let W := writeBack sel B' B L
    if raw then some (r.ren (upFrom sel L.length), W.1, W.2 ++ L')
    else match r with
      | .ref (.b j) sz off len ap => some (.ref (sel.getD j (.b 0)) sz off len ap, W.1, W.2)
      | r => (toFV [] (L'.map Ent.fz) r).map fun x => (.fv x, W.1, W.2)
def evA (call : Disp) (o : IOp) (g : Look) (B L : List Ent) : Option (SV × List Ent × List Ent) :=
  match o with
  | .alloc sz z => if 0 < sz ∧ z.cells.length = sz then some (.ptr (.l L.length) sz 0 0, B, L ++ [.own sz [z]]) else none
  | .box sz x => (toFV B L (g x)).bind fun x => if 0 < sz ∧ x.cells.length = sz ∧ okPart x = true then some (.ptr (.l L.length) sz 0 0, B, L ++ [.own sz [x]]) else none
  | .store sz a x => match g a with
    | .ptr id sz' i c => match ent B L id with
      | .own sz2 xs => if sz' = sz2 then
          (toFV B L (g x)).bind fun y => if y.cells.length = sz ∧ okPart y = true then
            (xs[i]?).bind fun e => (stElem c e y).map fun e' => (.unk, (setE id (.own sz2 (xs.set i e')) B L).1, (setE id (.own sz2 (xs.set i e')) B L).2)
          else none
        else none
      | _ => none
    | _ => none
  | .mksl sz bytes zero n c => match g n, g c with
    | .fv (.int k n), .fv (.int k' c) => if k = k' ∧ n = c ∧ 0 ≤ n ∧ n * bytes ≤ 140737488355328 ∧ 0 < bytes ∧ 0 < sz ∧ zero.cells.length = sz then
        some (.ref (.l L.length) sz 0 n.toNat true, B, L ++ [.own sz (List.replicate n.toNat zero)]) else none
    | _, _ => none
  | .app sz bytes x y => (rdSl B L sz (g y)).bind fun ys =>
    match g x with
    | .fv (.sl .nil []) => if ys = [] then some (.fv (.sl .nil []), B, L) else
        if ys.length * bytes ≤ 140737488355328 ∧ 0 < bytes ∧ 0 < sz then some (.ref (.l L.length) sz 0 ys.length true, B, L ++ [.own sz ys]) else none
    | .fv (.sl .full (x0 :: xs)) =>
        if ys.length = 0 then some (.fv (.sl .full (x0 :: xs)), B, L) else if ys ≠ [] ∧ (xs.length + 1 + ys.length) * bytes ≤ 140737488355328 ∧ 0 < bytes ∧ 0 < sz ∧ x0.cells.length = sz then some (.ref (.l L.length) sz 0 (xs.length + 1 + ys.length) true, B, L ++ [.own sz (x0 :: xs ++ ys)]) else none
    | .ref id sz' 0 n true => match ent B L id with
      | .own sz2 xs => if sz' = sz2 ∧ sz = sz2 ∧ n = xs.length ∧ (xs.length + ys.length) * bytes ≤ 140737488355328 ∧ 0 < bytes then
          some (.ref (.l L.length) sz 0 (xs.length + ys.length) true, (setE id .dead B L).1, (setE id .dead B L).2 ++ [.own sz (xs ++ ys)]) else none
      | _ => none
    | _ => none
  | o => (evQ call o g B L).map fun s => (s, B, L)
def evOp (call : Disp) (an : Ann) (self : FuncId) (o : IOp) (g : Look) (B L : List Ent) : Option (SV × List Ent × List Ent) :=
  match o with
  | .call f args => if keepsOwn an g f args || rawCall an self (g f) then evI call (rawCall an self (g f)) g f args B L
      else evQ call o g (frzs (toFreeze an self o g) B L).1 (frzs (toFreeze an self o g) B L).2 |>.map fun s => (s, frzs (toFreeze an self o g) B L)
  | o => evA call o g (frzs (toFreeze an self o g) B L).1 (frzs (toFreeze an self o g) B L).2
def putO (e : Env) : Option Nat → SV → Env
  | none, _ => e
  | some t, s => e.put t s
def evStep (call : Disp) (an : Ann) (self : FuncId) (s : IStep) (st : St) : Option St :=
  let run (st : St) : Option St := (evOp call an self s.op (opd st.env) st.B st.L).map fun (v, B, L) => ⟨putO st.env s.dst v, B, L⟩
  match s.guard with
  | none => run st
  | some (t, want) => match st.env.get t with
    | .fv (.bool b) => if b = want then run st else some { st with env := putO st.env s.dst .unk }
    | _ => none
def evSteps (call : Disp) (an : Ann) (self : FuncId) : List IStep → St → Option St
  | [], st => some st
  | s :: r, st => (evStep call an self s st).bind (evSteps call an self r)
def Ent.hide : Ent → Ent
  | .own .. => .dead
  | e => e
def IOp.isAlloc : IOp → Bool
  | .alloc .. => true
  | _ => false
def IOp.turns : IOp → Bool
  | .store .. => true
  | .app .. => true
  | _ => false
def IOp.acts : IOp → Bool
  | .store .. => true
  | .app .. => true
  | .mksl .. => true
  | .box .. => true
  | _ => false
def IStep.isA (s : IStep) : Bool := s.op.isAlloc && s.guard.isNone
def IStep.isS (s : IStep) : Bool := (s.op.acts || s.asg) && s.guard.isNone
def clos (steps : List IStep) : List (List Nat) :=
  steps.foldl (fun acc s => acc ++ [s.after ++ s.after.flatMap fun j => acc.getD j []]) []
def waits (cl : List (List Nat)) (i j : Nat) : Bool := (cl.getD i []).contains j
def fvOpd (steps : List IStep) : Opd → Bool
  | .c _ => true
  | .s t => steps.any fun q => q.dst == some t && (match q.op with | .bsl .. => true | _ => false)
def turnsS (steps : List IStep) (s : IStep) : Bool :=
  match s.op with
  | .app _ _ x _ => !fvOpd steps x
  | o => o.turns
def quietAt (o : IOp) (g : Look) : Bool :=
  match o with
  | .app _ _ x _ => match g x with
    | .fv _ => true
    | _ => false
  | o => !o.turns
def unwritten (steps : List IStep) (t : Nat) : Bool := steps.all fun q => q.dst != some t
def tgt (steps : List IStep) (e0 : Env) (s : IStep) : Option (List Id) :=
  if turnsS steps s then
    match s.op with
    | .store _ (.s t) _ => if unwritten steps t then some (e0.get t).ids else none
    | .app _ _ (.s t) _ => if unwritten steps t then some (e0.get t).ids else none
    | _ => none
  else some []
def mayTurn (cl : List (List Nat)) (steps : List IStep) (e0 : Env) (i : Nat) (id : Id) : Bool :=
  (List.range steps.length).any fun j => match steps[j]? with
    | some s => s.isS && !waits cl j i && !waits cl i j && (match tgt steps e0 s with
      | none => true
      | some ids => ids.contains id)
    | none => true
def hideBy (h : Id → Bool) (B L : List Ent) : List Ent × List Ent :=
  (B.mapIdx fun j e => if h (.b j) then e.hide else e, L.mapIdx fun j e => if h (.l j) then e.hide else e)
def late (cl : List (List Nat)) (steps : List IStep) (i : Nat) : Bool :=
  (List.range i).any fun j => match steps[j]? with
    | some s => s.isS && waits cl i j
    | none => false
def drawA : Nat → List IStep → Env → Env
  | _, [], e => e
  | n, s :: r, e => if s.isA then drawA (n + 1) r (putO e s.dst (match s.op with | .alloc sz _ => .ptr (.l n) sz 0 0 | _ => .unk)) else drawA n r e
def drawEnts : List IStep → List Ent
  | [] => []
  | s :: r => if s.isA then (match s.op with | .alloc sz z => .own sz [z] | _ => .dead) :: drawEnts r else drawEnts r
def okAllocs : List IStep → Bool
  | [] => true
  | s :: r => (!s.isA || (match s.op with | .alloc sz z => 0 < sz && z.cells.length == sz | _ => false)) && okAllocs r
def evQ2 (call : Disp) (h : Id → Bool) (o : IOp) (g : Look) (B L : List Ent) : Option SV := evQ call o g (hideBy h B L).1 (hideBy h B L).2
def allocsAt : Nat → Nat → List IStep → List (Nat × Nat)
  | _, _, [] => []
  | i, n, s :: r => if s.isA then (i, n) :: allocsAt (i + 1) (n + 1) r else allocsAt (i + 1) n r
def maskL (h : Nat → Bool) (L : List Ent) : List Ent := L.mapIdx fun p e => if h p then .dead else e
def restL (h : Nat → Bool) (L L' : List Ent) : List Ent := L'.mapIdx fun p e => if h p then L.getD p .dead else e
def hidFor (cl : List (List Nat)) (al : List (Nat × Nat)) (j p : Nat) : Bool := al.any fun q => p == q.2 && !waits cl j q.1
def okIds (cl : List (List Nat)) (al : List (Nat × Nat)) (j : Nat) (v : SV) : Bool := v.ids.all fun id => match id with
  | .l p => !hidFor cl al j p
  | .b _ => true
def chk (b : Bool) (v : SV) : Option SV := if b then some v else none
def drawQ (call : Disp) (B L : List Ent) (cl : List (List Nat)) (al : List (Nat × Nat)) (all : List IStep) (e0 : Env) : Nat → List IStep → Env → Option Env
  | _, [], e => some e
  | i, s :: r, e =>
    if s.isA || s.isS || late cl all i then drawQ call B L cl al all e0 (i + 1) r e else
    match s.guard with
    | none => (evQ2 call (mayTurn cl all e0 i) s.op (opd e) B L).bind fun v => (chk (okIds cl al i v) v).bind fun v => drawQ call B L cl al all e0 (i + 1) r (putO e s.dst v)
    | some (t, want) => match e.get t with
      | .fv (.bool b) => if b = want then (evQ2 call (mayTurn cl all e0 i) s.op (opd e) B L).bind fun v => (chk (okIds cl al i v) v).bind fun v => drawQ call B L cl al all e0 (i + 1) r (putO e s.dst v) else drawQ call B L cl al all e0 (i + 1) r (putO e s.dst .unk)
      | _ => none
def handed (steps : List IStep) (s : IStep) : Bool :=
  let isD (x : Opd) : Bool := match x, s.dst with
    | .s t, some d => t == d
    | _, _ => false
  steps.any fun q => match q.op with
    | .call _ args => args.any isD
    | .build _ ps => ps.any fun p => isD p.2.2
    | .bsl _ _ _ ps => ps.any fun p => isD p.2
    | .store _ _ x => isD x
    | _ => false
def frzNew (steps : List IStep) (s : IStep) (n : Nat) (v : SV) (B L : List Ent) : List Ent × List Ent :=
  if handed steps s && v.ids.all (fun id => match id with
    | .l p => n ≤ p
    | .b _ => false) then frzs v.ids B L else (B, L)
def stepS (call : Disp) (cl : List (List Nat)) (al : List (Nat × Nat)) (all : List IStep) (e0 : Env) (j : Nat) (s : IStep) (st : St) : Option St :=
  if s.isS then (evA call s.op (opd st.env) st.B (maskL (hidFor cl al j) st.L)).bind fun (v, B, L) => (chk (okIds cl al j v && (turnsS all s || quietAt s.op (opd st.env))) v).map fun v => ⟨putO st.env s.dst v, (frzNew all s st.L.length v B L).1, restL (hidFor cl al j) st.L (frzNew all s st.L.length v B L).2⟩
  else if !s.isA && late cl all j then
    match s.guard with
    | none => (evQ2 call (mayTurn cl all e0 j) s.op (opd st.env) st.B (maskL (hidFor cl al j) st.L)).bind fun v => (chk (okIds cl al j v) v).map fun v => ⟨putO st.env s.dst v, st.B, st.L⟩
    | some (t, want) => match st.env.get t with
      | .fv (.bool b) => if b = want then (evQ2 call (mayTurn cl all e0 j) s.op (opd st.env) st.B (maskL (hidFor cl al j) st.L)).bind fun v => (chk (okIds cl al j v) v).map fun v => ⟨putO st.env s.dst v, st.B, st.L⟩ else some ⟨putO st.env s.dst .unk, st.B, st.L⟩
      | _ => none
  else some st
def drawS (call : Disp) (cl : List (List Nat)) (al : List (Nat × Nat)) (all : List IStep) (e0 : Env) : Nat → List IStep → St → Option St
  | _, [], st => some st
  | j, s :: r, st => (stepS call cl al all e0 j s st).bind (drawS call cl al all e0 (j + 1) r)
def preIds (e : Env) (steps : List IStep) : List Id :=
  let of (x : Opd) : List Id := match x with
    | .s t => (e.get t).ids ++ steps.flatMap fun q => match q.dst, q.op with
        | some d, .mv (.s u) => if d = t then (e.get u).ids else []
        | _, _ => []
    | .c _ => []
  steps.flatMap fun s => match s.op with
    | .call _ args => args.flatMap of
    | .build _ ps => ps.flatMap fun p => of p.2.2
    | .bsl _ _ _ ps => ps.flatMap fun p => of p.2
    | .store _ _ x => of x
    | _ => []
def evDraw (call : Disp) (steps : List IStep) (st : St) : Option St :=
  let BL := frzs (preIds st.env steps) st.B st.L
  if okAllocs steps then
    (drawQ call BL.1 BL.2 (clos steps) (allocsAt 0 BL.2.length steps) steps st.env 0 steps (drawA BL.2.length steps st.env)).bind fun e =>
      drawS call (clos steps) (allocsAt 0 BL.2.length steps) steps st.env 0 steps ⟨e, BL.1, BL.2 ++ drawEnts steps⟩
  else none
inductive IExit where
  | normal
  | exit (id : Nat)
  | ret
def gcL (e : Env) (n : Nat) : List Nat := (List.range n).filter fun i => e.any fun p => p.2.ids.contains (.l i)
def gcR (ls : List Nat) : Id → Id
  | .b i => .b i
  | .l i => .l (ls.idxOf i)
def gc (keep : List Nat) (st : St) : St :=
  let e := st.env.keep keep
  let ls := gcL e st.L.length
  ⟨e.map fun p => (p.1, p.2.ren (gcR ls)), st.B, ls.map fun i => st.L.getD i .dead⟩
def iter (step : St → Option (IExit × St)) : Nat → St → Option (IExit × St)
  | 0, _ => none
  | n + 1, st => match step st with
    | some (.normal, st') => iter step n st'
    | r => r
def evC (call : Disp) (an : Ann) (self : FuncId) (k : Nat) : ICode → St → Option (IExit × St)
  | .skip, st => some (.normal, st)
  | .reg keep steps, st => (evSteps call an self steps { st with env := st.env.keep keep }).map fun st => (.normal, st)
  | .draw keep steps, st => (evDraw call steps { st with env := st.env.keep keep }).map fun st => (.normal, st)
  | .seq a b, st => match evC call an self k a st with
    | some (.normal, st') => evC call an self k b st'
    | r => r
  | .cond c a b, st => match opd st.env c with
    | .fv (.bool t) => if t then evC call an self k a st else evC call an self k b st
    | _ => none
  | .block id b, st => match evC call an self k b st with
    | some (.exit i, st') => if i = id then some (.normal, st') else some (.exit i, st')
    | r => r
  | .loop keep b, st => iter (fun st => evC call an self k b (gc keep st)) k st
  | .exit id, st => some (.exit id, st)
  | .ret, st => some (.ret, st)
def evRes (e : Env) (B L : List Ent) : IRes → Option SV
  | .tmp t => match e.get t with
    | .unk => none
    | s => some s
  | .cell t ag sz => match e.get t with
    | .ptr id sz' i c => match ent B L id with
      | .own sz2 xs => if sz' = sz2 then (xs[i]?).bind fun y => (ldElem ag sz c y).map .fv else none
      | .frz sz2 xs => if sz' = sz2 then (xs[i]?).bind fun y => (ldElem ag sz c y).map .fv else none
      | .dead => none
    | _ => none
def evRess (e : Env) (B L : List Ent) : List IRes → Option (List SV)
  | [] => some []
  | r :: rs => (evRes e B L r).bind fun s => (evRess e B L rs).map (s :: ·)
def finish (rs : List SV) (B L : List Ent) : Option (SV × List Ent × List Ent) :=
  match rs with
  | [s] => some (s, B, L)
  | rs => let BL := frzs (rs.flatMap SV.ids) B L; (toFVs BL.1 BL.2 rs).map fun xs => (.fv (.tup xs), BL.1, BL.2)
def argEnv : Nat → List SV → Env
  | _, [] => []
  | i, s :: r => (i, s) :: argEnv (i + 1) r
def evF (fns : FuncId → Option IFn) (an : Ann) : Nat → Disp
  | 0, _, _, _ => none
  | k + 1, f, args, B => (fns f).bind fun fn =>
    if args.length ≠ fn.nparams then none else
    match evC (evF fns an k) an f k fn.body ⟨argEnv 0 args, B, []⟩ with
    | some (.normal, st) | some (.ret, st) => (evRess st.env st.B st.L fn.results).bind fun rs => finish rs st.B st.L
    | _ => none
end Go.Ab
namespace Go.Ab
def fvAtom : Value → Option FV
  | .bool b => some (.bool b)
  | .int k n => some (.int k n)
  | .string s => some (.str s)
  | .slice none 0 0 => some (.sl .nil [])
  | .pointer none => some .nilPtr
  | .nilFunc => some .nilFn
  | .nilIface => some .nilIface
  | _ => none
def fvAtoms : List Value → Option (List FV)
  | [] => some []
  | v :: r => (fvAtom v).bind fun x => (fvAtoms r).map (x :: ·)
def fvOf : Value → Option FV
  | .agg cs => (fvAtoms cs.toList).map .agg
  | v => fvAtom v
def trOpd (nt : Nat) : Operand → Option Opd
  | .tmp t => if t < nt then some (.s t) else none
  | .const v => (fvOf v).map .c
  | .func f => some (.c (.fn (.func f) [] []))
  | .global _ => none
def trOpds (nt : Nat) : List Operand → Option (List Opd)
  | [] => some []
  | x :: r => (trOpd nt x).bind fun y => (trOpds nt r).map (y :: ·)
def trOpt (nt : Nat) : Option Operand → Option (Option Opd)
  | none => some none
  | some x => (trOpd nt x).map some
def szOf (P : Program) (t : TypeId) : Option Nat := (P.info? t).map (·.size)
def byOf (P : Program) (t : TypeId) : Option Nat := (P.info? t).map (·.bytes)
def zeroOf (P : Program) (t : TypeId) : Option FV := (P.info? t).bind fun i => i.zero.bind fvOf
def agOf (P : Program) (t : TypeId) : Option Bool := (P.underlying t).map fun
  | .struct _ => true
  | .array _ _ => true
  | _ => false
def sliceOf (P : Program) (t : TypeId) : Option TypeId :=
  match P.underlying t with
  | some (.slice e) => some e
  | _ => none
def structOf (P : Program) (t : TypeId) : Option (List Field) :=
  match P.underlying t with
  | some (.struct fs) => some fs.toList
  | _ => none
def tkOf (P : Program) (t : TypeId) : Option TK :=
  match P.underlying t with
  | some (.int _) => some .num
  | some .bool => some .bool
  | some .string => some .str
  | some (.slice _) => some .sl
  | some (.pointer _) => some .ptr
  | some (.func _ _ _) => some .fn
  | _ => none
def trParts2 (P : Program) (nt : Nat) (fs : List Field) : List (Nat × Operand) → Option (List (Nat × Nat × Opd))
  | [] => some []
  | (i, x) :: r => (fs[i]?).bind fun f => (szOf P f.type).bind fun n => (trOpd nt x).bind fun y => (trParts2 P nt fs r).map ((f.offset, n, y) :: ·)
def trParts1 (nt : Nat) : List (Nat × Operand) → Option (List (Nat × Opd))
  | [] => some []
  | (i, x) :: r => (trOpd nt x).bind fun y => (trParts1 nt r).map ((i, y) :: ·)
def trCall (P : Program) (nt : Nat) (c : Call) : Option IOp :=
  match c.callee with
  | .builtin .len => match c.args.toList, c.argTypes.toList with
    | [x], [t] => match P.underlying t with
      | some (.slice _) => (trOpd nt x).map (.len false)
      | some .string => (trOpd nt x).map (.len true)
      | _ => none
    | _, _ => none
  | .builtin .append => match c.args.toList, c.argTypes.toList with
    | [x, y], [t, t'] => (sliceOf P t).bind fun e => (sliceOf P t').bind fun _ => (szOf P e).bind fun sz => (byOf P e).bind fun by' => (zeroOf P e).bind fun z =>
      if z.cells.length = sz then (trOpd nt x).bind fun x => (trOpd nt y).map fun y => .app sz by' x y else none
    | _, _ => none
  | .builtin .max => (trOpds nt c.args.toList).map .mx
  | .builtin .min => (trOpds nt c.args.toList).map .mn
  | .value f => (trOpd nt f).bind fun f => (trOpds nt c.args.toList).map fun as => .call f as
  | _ => none
def trOp (P : Program) (nt : Nat) (o : Op) : Option IOp :=
  match o with
  | .move x | .assign x => (trOpd nt x).map .mv
  | .pick c a b => (trOpd nt c).bind fun c => (trOpd nt a).bind fun a => (trOpd nt b).map fun b => .pick c a b
  | .alloc e => (szOf P e).bind fun n => (zeroOf P e).map fun z => .alloc n z
  | .box e x => (szOf P e).bind fun n => (trOpd nt x).map fun x => .box n x
  | .build t ps => (structOf P t).bind fun fs => (zeroOf P t).bind fun z => if fs.all (fun f => (szOf P f.type).isSome) then (trParts2 P nt fs ps.toList).map fun ps => .build z.cells ps else none
  | .buildSlice t n ps => (sliceOf P t).bind fun e => (szOf P e).bind fun sz => (zeroOf P e).bind fun z => (trParts1 nt ps.toList).map fun ps => .bsl sz z n ps
  | .load t a => (agOf P t).bind fun ag => (szOf P t).bind fun n => (trOpd nt a).map fun a => .load ag n a
  | .store t a x => (szOf P t).bind fun n => (trOpd nt a).bind fun a => (trOpd nt x).map fun x => .store n a x
  | .nilCheck x => (trOpd nt x).map .nilc
  | .binOp op t x y _ => (tkOf P t).bind fun k => (trOpd nt x).bind fun x => (trOpd nt y).map fun y => .bin op k x y
  | .unOp op _ x => (trOpd nt x).map fun x => .un op x
  | .convert s d x => match P.underlying s, P.underlying d with
    | some _, some (.int k) => (trOpd nt x).map fun x => .conv k x
    | _, _ => none
  | .makeFunc fn first caps => (trOpds nt first.toList).bind fun f => (trOpds nt caps.toList).map fun c => .mkfn fn f c
  | .makeSlice t l c => (sliceOf P t).bind fun e => (szOf P e).bind fun sz => (byOf P e).bind fun by' => (zeroOf P e).bind fun z => (trOpd nt l).bind fun l => (trOpd nt c).map fun c => .mksl sz by' z l c
  | .slice t x lo hi mx => (sliceOf P t).bind fun e => (szOf P e).bind fun sz => (trOpd nt x).bind fun x => (trOpt nt lo).bind fun lo => (trOpt nt hi).bind fun hi => (trOpt nt mx).map fun mx => .slice sz x lo hi mx
  | .fieldAddr t x i => (structOf P t).bind fun fs => (fs[i]?).bind fun f => (agOf P f.type).bind fun ag => (szOf P f.type).bind fun n => (trOpd nt x).bind fun x => if 0 < n then some (.fldA f.offset ag n x) else none
  | .field t x i => (structOf P t).bind fun fs => (fs[i]?).bind fun f => (agOf P f.type).bind fun ag => (szOf P f.type).bind fun n => (trOpd nt x).map fun x => .fld f.offset ag n x
  | .indexAddr t x i => (sliceOf P t).bind fun e => (szOf P e).bind fun sz => (trOpd nt x).bind fun x => (trOpd nt i).map fun i => .idxA sz x i
  | .index t x i => match P.underlying t with
    | some .string => (trOpd nt x).bind fun x => (trOpd nt i).map fun i => .idxS x i
    | _ => none
  | .extract x i => (trOpd nt x).map fun x => .extr x i
  | .call c => trCall P nt c
  | _ => none
def trDst (nt : Nat) : Option Tmp → Option (Option Nat)
  | none => some none
  | some d => if d < nt then some (some d) else none
def trGuard (nt : Nat) (ops : List Oper) : Option (Nat × Bool) → Option (Option (Nat × Bool))
  | none => some none
  | some (j, want) => (ops[j]?).bind fun o => o.dst.bind fun d => if d < nt then some (some (d, want)) else none
def trStep (P : Program) (nt : Nat) (ops : List Oper) (o : Oper) : Option IStep :=
  (trOp P nt o.op).bind fun op => (trDst nt o.dst).bind fun d => (trGuard nt ops o.guard).map fun g =>
    { dst := d, op := op, guard := g, after := (o.after.toList.filterMap fun e => if Region.binds .any e then some e.on else none).eraseDups, asg := match o.op with | .assign _ => true | _ => false }
def trSteps (P : Program) (nt : Nat) (ops : List Oper) : List Oper → Option (List IStep)
  | [] => some []
  | o :: r => (trStep P nt ops o).bind fun s => (trSteps P nt ops r).map (s :: ·)
def Opd.slots : Opd → List Nat
  | .s t => [t]
  | .c _ => []
def optSlots : Option Opd → List Nat
  | none => []
  | some x => x.slots
def IOp.slots : IOp → List Nat
  | .mv x | .nilc x | .un _ x | .conv _ x | .box _ x | .load _ _ x | .fldA _ _ _ x | .fld _ _ _ x | .len _ x | .extr x _ => x.slots
  | .pick c a b => c.slots ++ a.slots ++ b.slots
  | .bin _ _ x y | .store _ x y | .mksl _ _ _ x y | .idxA _ x y | .idxS x y | .app _ _ x y => x.slots ++ y.slots
  | .alloc _ _ => []
  | .build _ ps => ps.flatMap fun p => p.2.2.slots
  | .bsl _ _ _ ps => ps.flatMap fun p => p.2.slots
  | .slice _ x a b c => x.slots ++ optSlots a ++ optSlots b ++ optSlots c
  | .mx as | .mn as => as.flatMap Opd.slots
  | .call f as => f.slots ++ as.flatMap Opd.slots
  | .mkfn _ a b => a.flatMap Opd.slots ++ b.flatMap Opd.slots
def IStep.reads (s : IStep) : List Nat := s.op.slots ++ (match s.guard with | some (t, _) => [t] | none => [])
def okDraw (steps : List IStep) : Bool :=
  let cl := clos steps
  let n := steps.length
  (List.range n).all fun i =>
    match steps[i]? with
    | none => false
    | some s =>
      s.after.all (· < i) &&
      (if s.isS then (List.range i).all fun j => match steps[j]? with
          | some q => !q.isS || waits cl i j
          | none => false
       else (match s.dst with
         | some d => !s.reads.contains d
         | none => false) && (!late cl steps i || (List.range i).all fun j => match steps[j]? with
          | some q => !q.isS || waits cl i j
          | none => false)) &&
      (List.range n).all fun j => match steps[j]? with
        | none => false
        | some q => i == j || (match q.dst with
          | none => true
          | some d =>
            (if s.isS && q.isS then true else s.dst != some d) &&
            (!s.reads.contains d ||
              (if q.isS then s.isS || waits cl j i || waits cl i j else waits cl i j)))
def trC (P : Program) (nt : Nat) : Code → List (List Nat) → Option (ICode × List (List Nat))
  | .skip, h => some (.skip, h)
  | .region _ ops dr, h => (trSteps P nt ops.toList ops.toList).bind fun steps =>
      if dr then (if okDraw steps then some (.draw (h.headD []) steps, h.tail) else none)
      else some (.reg (h.headD []) (steps.map fun s => { s with after := [] }), h.tail)
  | .seq a b, h => (trC P nt a h).bind fun (x, h) => (trC P nt b h).map fun (y, h) => (.seq x y, h)
  | .cond c a b, h => (trOpd nt c).bind fun c => (trC P nt a h).bind fun (x, h) => (trC P nt b h).map fun (y, h) => (.cond c x y, h)
  | .block id b, h => (trC P nt b h).map fun (x, h) => (.block id x, h)
  | .loop b, h => (trC P nt b h.tail).map fun (x, h') => (.loop (h.headD []) x, h')
  | .exit id, h => some (.exit id, h)
  | .ret, h => some (.ret, h)
  | _, _ => none
def trRes (P : Program) (nt : Nat) : ResultVar → Option IRes
  | .tmp t => if t < nt then some (.tmp t) else none
  | .cell t ty => if t < nt then (agOf P ty).bind fun ag => (szOf P ty).map fun n => .cell t ag n else none
def trRess (P : Program) (nt : Nat) : List ResultVar → Option (List IRes)
  | [] => some []
  | r :: rs => (trRes P nt r).bind fun x => (trRess P nt rs).map (x :: ·)
def trF (P : Program) (h : List (List Nat)) (f : Func) : Option IFn :=
  f.body.bind fun c => (trC P f.ntmps c h).bind fun (b, _) => (trRess P f.ntmps f.results.toList).bind fun rs =>
    if f.params.size + f.nfree ≤ f.ntmps ∧ f.name ≠ "runtime.NumGoroutine" then some { nparams := f.params.size + f.nfree, ntmps := f.ntmps, results := rs, body := b } else none
end Go.Ab
namespace Go.Ab
theorem At_toArray (l : List Value) (j : Nat) : At l.toArray j = l[j]? := by simp [At]
theorem At_lt {vs : Array Value} {j : Nat} {v : Value} (h : At vs j = some v) : j < vs.size := (Array.getElem?_eq_some_iff.1 h).1
theorem add_plain (b o j : Nat) : (⟨b, o, none⟩ : Addr).add j = ⟨b, o + j, none⟩ := by unfold Addr.add; split <;> simp_all
theorem fvAtom_rd {v : Value} {x : FV} (h : fvAtom v = some x) (w : World) (O : Nat → Prop) : Rd w O v x ∧ x.one = true := by
  unfold fvAtom at h
  split at h <;> simp at h <;> subst h
  · exact ⟨.bool _, rfl⟩
  · exact ⟨.int _ _, rfl⟩
  · exact ⟨.str _, rfl⟩
  · exact ⟨.slE _ _ _ ⟨rfl, rfl, rfl⟩, rfl⟩
  · exact ⟨.nilPtr, rfl⟩
  · exact ⟨.nilFn, rfl⟩
  · exact ⟨.nilIface, rfl⟩
theorem fvAtoms_rd : ∀ (l : List Value) (xs : List FV), fvAtoms l = some xs → l.length = xs.length ∧ (∀ x ∈ xs, x.one = true) ∧ ∀ (w : World) (O : Nat → Prop) (j : Nat) (v : Value) (x : FV), l[j]? = some v → xs[j]? = some x → Rd w O v x
  | [], xs, h => by simp [fvAtoms] at h; subst h; simp
  | v :: r, xs, h => by
    simp only [fvAtoms, Option.bind_eq_some_iff, Option.map_eq_some_iff] at h
    obtain ⟨x, hx, ys, hy, rfl⟩ := h
    obtain ⟨h1, h2, h3⟩ := fvAtoms_rd r ys hy
    refine ⟨by simp [h1], fun z hz => ?_, fun w O j u z hu hz => ?_⟩
    · rcases List.mem_cons.1 hz with rfl | hz
      · exact (fvAtom_rd hx default (fun _ => False)).2
      · exact h2 z hz
    · match j with
      | 0 => simp at hu hz; subst hu; subst hz; exact (fvAtom_rd hx w O).1
      | j + 1 => exact h3 w O j u z (by simpa using hu) (by simpa using hz)
theorem fvOf_rd {v : Value} {x : FV} (h : fvOf v = some x) (w : World) (O : Nat → Prop) : Rd w O v x ∧ (x.one = true ∨ ∃ cs, x = .agg cs) := by
  unfold fvOf at h
  split at h
  · rename_i cs
    simp only [Option.map_eq_some_iff] at h
    obtain ⟨xs, hx, rfl⟩ := h
    obtain ⟨h1, h2, h3⟩ := fvAtoms_rd _ _ hx
    refine ⟨.agg _ _ (by simpa using h1) h2 fun j v x hv hx => h3 w O j v x ?_ hx, .inr ⟨_, rfl⟩⟩
    simpa [At] using hv
  · exact ⟨(fvAtom_rd h w O).1, .inl (fvAtom_rd h w O).2⟩
theorem okPart_of {x : FV} (h : okPart x = true) : x.one = true ∨ ∃ cs, x = .agg cs := by
  cases x <;> first | exact .inl rfl | exact .inr ⟨_, rfl⟩ | (simp [okPart] at h)
section
variable {P : Program} {w : World} {A : Nat → Prop}
theorem run_isAgg {t : TypeId} {ag : Bool} (h : agOf P t = some ag) (w : World) : (isAgg t).run P w = .ok ag w := by
  unfold agOf at h
  obtain ⟨d, hd, rfl⟩ := Option.map_eq_some_iff.1 h
  simp only [isAgg, Sem.run_bind, run_underlying hd, Result.andThen_ok]
  cases d <;> rfl
theorem run_sizeOf {t : TypeId} {n : Nat} (h : szOf P t = some n) (w : World) : (sizeOf t).run P w = .ok n w := by
  obtain ⟨i, hi, rfl⟩ := Option.map_eq_some_iff.1 h
  simp [sizeOf, typeInfo, hi]
theorem run_loadVar {t : TypeId} {ag : Bool} {n b o : Nat} (h1 : agOf P t = some ag) (h2 : szOf P t = some n) (f : Nat → Value)
    (hf : ∀ j, j < (if ag then n else 1) → w.cell? ⟨b, o + j, none⟩ = some (f j)) :
    (loadVar t ⟨b, o, none⟩).run P w = .ok (if ag then .agg ((List.range n).map f).toArray else f 0) w := by
  unfold loadVar
  simp only [Sem.run_bind, run_isAgg h1, Result.andThen_ok]
  cases ag with
  | true =>
    simp only [if_true, Sem.run_bind, run_sizeOf h2, Result.andThen_ok]
    rw [run_loadCells w ⟨b, o, none⟩ n f (fun j hj => by rw [add_plain]; exact hf j (by simpa using hj))]
    rfl
  | false =>
    have h0 := hf 0 (by simp)
    simp only [Nat.add_zero] at h0
    simp [h0]
theorem ldElem_rd {ag : Bool} {sz c : Nat} {x y : FV} {f : Nat → Value} (h1 : ∀ z ∈ x.cells, z.one = true) (hr : ∀ j z, x.cells[j]? = some z → Rd w A (f j) z) (h : ldElem ag sz c x = some y) :
    c + (if ag then sz else 1) ≤ x.cells.length ∧ Rd w A (if ag then .agg ((List.range sz).map fun j => f (c + j)).toArray else f c) y := by
  unfold ldElem at h
  split at h
  · rename_i hc
    obtain ⟨rfl, hfit⟩ := hc
    injection h with h; subst h
    cases ag with
    | true =>
      cases x <;> simp [FV.fits] at hfit
      rename_i cs
      subst hfit
      simp only [FV.cells] at h1 hr ⊢
      refine ⟨by simp, ?_⟩
      simp only [if_true, Nat.zero_add]
      refine .agg _ _ (by simp) h1 fun j v z hv hz => ?_
      have hj : j < cs.length := (List.getElem?_eq_some_iff.1 hz).1
      simp [At, hj] at hv
      subst hv
      exact hr j z hz
    | false =>
      simp only [FV.fits, Bool.and_eq_true, beq_iff_eq] at hfit
      obtain ⟨ho, rfl⟩ := hfit
      have hc : x.cells = [x] := by cases x <;> first | rfl | (simp [FV.one] at ho)
      refine ⟨by simp [hc], ?_⟩
      simp only [Bool.false_eq_true, if_false]
      exact hr 0 x (by simp [hc])
  · split at h
    · rename_i hag
      split at h
      · rename_i hl
        injection h with h; subst h
        refine ⟨by simpa [hag] using hl.1, ?_⟩
        simp only [hag, if_true]
        refine .agg _ _ ?_ (fun z hz => ?_) fun j v z hv hz => ?_
        · simp [cutL]; omega
        · exact h1 z (List.mem_of_mem_drop (List.mem_of_mem_take hz))
        · have hj : j < sz := by have := (List.getElem?_eq_some_iff.1 hz).1; simp [cutL] at this; omega
          simp [At, hj] at hv
          subst hv
          refine hr _ z ?_
          simpa [cutL, hj] using hz
      · cases h
    · rename_i hag
      split at h
      · have := (List.getElem?_eq_some_iff.1 h).1
        refine ⟨by simp [hag]; omega, ?_⟩
        simp only [hag, Bool.false_eq_true, if_false]
        exact hr _ _ h
      · cases h
theorem getElem?_flat {sz : Nat} : ∀ (xs : List FV) (i : Nat) (x : FV), (∀ x ∈ xs, x.cells.length = sz) → xs[i]? = some x → ∀ c, c < sz → (flat xs)[i * sz + c]? = x.cells[c]?
  | [], i, x, _, h, _, _ => by simp at h
  | y :: ys, 0, x, hw, h, c, hc => by
    simp at h; subst h
    have := hw y (by simp)
    simp only [flat, List.flatMap_cons, Nat.zero_mul, Nat.zero_add]
    rw [List.getElem?_append_left (by omega)]
  | y :: ys, i + 1, x, hw, h, c, hc => by
    have ih := getElem?_flat ys i x (fun z hz => hw z (by simp [hz])) (by simpa using h) c hc
    have := hw y (by simp)
    simp only [flat, List.flatMap_cons] at ih ⊢
    rw [List.getElem?_append_right (by rw [this, Nat.add_mul]; omega), this, Nat.add_mul]
    rw [show i * sz + 1 * sz + c - sz = i * sz + c from by omega]
    exact ih
theorem flat_cutL {sz : Nat} : ∀ (xs : List FV) (off len : Nat), (∀ x ∈ xs, x.cells.length = sz) → off + len ≤ xs.length → ∀ j, j < len * sz → (flat (cutL xs off len))[j]? = (flat xs)[off * sz + j]? := by
  intro xs off len hw hl j hj
  have hsz : 0 < sz := Nat.pos_of_ne_zero fun h => by subst h; simp at hj
  have hw' : ∀ x ∈ cutL xs off len, x.cells.length = sz := fun x hx => hw x (List.mem_of_mem_drop (List.mem_of_mem_take hx))
  have hi : j / sz < len := Nat.div_lt_of_lt_mul (by rw [Nat.mul_comm]; exact hj)
  have hc : j % sz < sz := Nat.mod_lt _ hsz
  have hx : (cutL xs off len)[j / sz]? = some (xs[off + j / sz]'(by omega)) := by
    simp [cutL, hi]
  have e : j = j / sz * sz + j % sz := by rw [Nat.mul_comm]; exact (Nat.div_add_mod j sz).symm
  rw [e, getElem?_flat _ _ _ hw' hx _ hc, show off * sz + (j / sz * sz + j % sz) = (off + j / sz) * sz + j % sz from by rw [Nat.add_mul]; omega,
    getElem?_flat xs (off + j / sz) _ hw (by rw [List.getElem?_eq_getElem (by omega)]) _ hc]
theorem cutL_length {xs : List FV} {off len : Nat} (h : off + len ≤ xs.length) : (cutL xs off len).length = len := by simp [cutL]; omega
theorem mem_cutL {xs : List FV} {off len : Nat} {x : FV} (h : x ∈ cutL xs off len) : x ∈ xs := List.mem_of_mem_drop (List.mem_of_mem_take h)
theorem rd_cut {b sz off len cap : Nat} {xs : List FV} (hz : 0 < sz) (hw : ∀ x ∈ xs, x.cells.length = sz ∧ ∀ y ∈ x.cells, y.one = true) (hb : ¬ A b)
    (hc : ∀ j x, (flat xs)[j]? = some x → ∃ v, w.cell? ⟨b, j, none⟩ = some v ∧ Rd w A v x) (hl : off + len ≤ xs.length) (hcap : len ≤ cap) :
    Rd w A (.slice (some ⟨b, off * sz, none⟩) len cap) (.sl .any (cutL xs off len)) := by
  rcases Nat.eq_zero_or_pos len with h0 | h0
  · subst h0
    have : cutL xs off 0 = [] := by simp [cutL]
    rw [this]
    exact .slE _ _ _ trivial
  · have hlen := cutL_length hl
    have hw1 : ∀ x ∈ xs, x.cells.length = sz := fun x hx => (hw x hx).1
    have hfl : (flat (cutL xs off len)).length = len * sz := by rw [flat_length _ (fun x hx => hw1 x (mem_cutL hx)), hlen]
    have key : ∀ j, j < len * sz → ∃ v x, (flat (cutL xs off len))[j]? = some x ∧ w.cell? ⟨b, off * sz + j, none⟩ = some v ∧ Rd w A v x := by
      intro j hj
      have hx : (flat (cutL xs off len))[j]? = some ((flat (cutL xs off len))[j]'(by omega)) := List.getElem?_eq_getElem _
      have hx2 := hx
      rw [flat_cutL xs off len hw1 hl j hj] at hx2
      obtain ⟨v, hv, hr⟩ := hc _ _ hx2
      exact ⟨v, _, hx, hv, hr⟩
    have hcell : ∀ j, j < len * sz → w.cell? ⟨b, off * sz + j, none⟩ = some ((w.cell? ⟨b, off * sz + j, none⟩).getD undef) := by
      intro j hj
      obtain ⟨v, x, _, h2, _⟩ := key j hj
      rw [h2]; rfl
    have := Rd.sl (w := w) (O := A) .any (cutL xs off len) sz b (off * sz) cap (fun j => (w.cell? ⟨b, off * sz + j, none⟩).getD undef) hz
      (fun e => by rw [e] at hlen; simp at hlen; omega) (by rw [hlen]; exact hcap) (fun x hx => hw x (mem_cutL hx)) hb (fun j hj => hcell j (by omega))
      (fun j x hx => by
        have hj : j < len * sz := by have := (List.getElem?_eq_some_iff.1 hx).1; omega
        obtain ⟨v, x', h1, h2, h3⟩ := key j hj
        rw [hx] at h1; injection h1 with h1; subst h1
        rw [h2]; exact h3) trivial
    rw [hlen] at this
    exact this
theorem rd_elem {b sz i : Nat} {xs : List FV} {x : FV} (hz : 0 < sz) (hw : ∀ x ∈ xs, x.cells.length = sz ∧ ∀ y ∈ x.cells, y.one = true) (hb : ¬ A b)
    (hc : ∀ j x, (flat xs)[j]? = some x → ∃ v, w.cell? ⟨b, j, none⟩ = some v ∧ Rd w A v x) (hx : xs[i]? = some x) : Rd w A (.pointer (some ⟨b, i * sz, none⟩)) (.ptr x) := by
  have hm : x ∈ xs := List.mem_of_getElem? hx
  have hw1 : ∀ x ∈ xs, x.cells.length = sz := fun x hx => (hw x hx).1
  have hl := (hw x hm).1
  refine Rd.ptr x b (i * sz) (fun j => (w.cell? ⟨b, i * sz + j, none⟩).getD undef) (by omega) (hw x hm).2 hb (fun j hj => ?_) fun j y hy => ?_
  · have hf := getElem?_flat xs i x hw1 hx j (by omega)
    rw [List.getElem?_eq_getElem hj] at hf
    obtain ⟨v, hv, _⟩ := hc _ _ hf
    rw [hv]; rfl
  · have hj : j < x.cells.length := (List.getElem?_eq_some_iff.1 hy).1
    have hf := getElem?_flat xs i x hw1 hx j (by omega)
    rw [hy] at hf
    obtain ⟨v, hv, hr⟩ := hc _ _ hf
    rw [hv]; exact hr
end
section
variable {P : Program} {w : World} {O : Nat → Prop} {ρ : Rho} {B L : List Ent}
theorem capFV_rd (hh : Heap w O ρ B L) {c : Cap} {v : Value} {x : FV} (h : capFV B L c = some x) (hr : CapRel w (Av O ρ B L) ρ B L v c) : Rd w (Av O ρ B L) v x := by
  cases c with
  | fz y => simp only [capFV, Option.some.injEq] at h; subst h; exact hr
  | own id sz =>
    simp only [capFV] at h
    split at h
    · rename_i sz' y he
      split at h
      · rename_i hs
        injection h with h; subst h; subst hs
        obtain ⟨h1, h2, h3, h4, h5⟩ := hh.frz _ _ _ he
        obtain ⟨_, rfl⟩ := hr
        have := rd_elem (i := 0) h1 h2 h3 h5 (x := y) rfl
        simpa using this
      · cases h
    · cases h
theorem capsFV_rd (hh : Heap w O ρ B L) : ∀ (cs : List Cap) (xs : List FV), capsFV B L cs = some xs → cs.length = xs.length ∧ ∀ (vs : Array Value) (off : Nat),
    (∀ j u c, At vs (off + j) = some u → cs[j]? = some c → CapRel w (Av O ρ B L) ρ B L u c) → ∀ j u x, At vs (off + j) = some u → xs[j]? = some x → Rd w (Av O ρ B L) u x
  | [], xs, h => by simp [capsFV] at h; subst h; simp
  | c :: cs, xs, h => by
    simp only [capsFV, Option.bind_eq_some_iff, Option.map_eq_some_iff] at h
    obtain ⟨x, hx, ys, hy, rfl⟩ := h
    obtain ⟨h1, h2⟩ := capsFV_rd hh cs ys hy
    refine ⟨by simp [h1], fun vs off hv j u z hu hz => ?_⟩
    match j with
    | 0 => simp at hz; subst hz; exact capFV_rd hh hx (hv 0 u c hu rfl)
    | j + 1 =>
      refine h2 vs (off + 1) (fun j u c hu hc => hv (j + 1) u c ?_ (by simpa using hc)) j u z ?_ (by simpa using hz)
      · rw [show off + (j + 1) = off + 1 + j from by omega]; exact hu
      · rw [show off + 1 + j = off + (j + 1) from by omega]; exact hu
theorem fn_split {A : Nat → Prop} {g : Fn} {fs cs : Array Value} {xs : List FV} {n : Nat} (h1 : fs.size = n) (h2 : (fs ++ cs).size = xs.length) (h : ∀ j u x, At (fs ++ cs) j = some u → xs[j]? = some x → Rd w A u x) : Rd w A (.func g fs cs) (.fn g (xs.take n) (xs.drop n)) := by
  rw [Array.size_append] at h2
  refine .fn _ _ _ _ _ (by simp; omega) (by simp; omega) (fun j u x hu hx => ?_) fun j u x hu hx => ?_
  · have hj := At_lt hu
    rw [List.getElem?_take, if_pos (by omega)] at hx
    refine h j u x ?_ hx
    simp only [At] at hu ⊢
    rw [Array.getElem?_append_left hj]; exact hu
  · rw [List.getElem?_drop] at hx
    refine h (n + j) u x ?_ hx
    simp only [At] at hu ⊢
    rw [Array.getElem?_append_right (by omega), show n + j - fs.size = j by omega]; exact hu
theorem toFV_rd (hh : Heap w O ρ B L) {s : SV} {v : Value} {x : FV} (h : toFV B L s = some x) (hr : SvRel w (Av O ρ B L) ρ B L v s) : Rd w (Av O ρ B L) v x := by
  cases s with
  | unk => simp [toFV] at h
  | fv y => simp only [toFV, Option.some.injEq] at h; subst h; exact hr
  | ref id sz off len ap =>
    simp only [toFV] at h
    split at h
    · rename_i sz' xs he
      split at h
      · rename_i hs
        injection h with h; subst h
        obtain ⟨rfl, hl⟩ := hs
        obtain ⟨h1, h2, h3, h4, h5⟩ := hh.frz _ _ _ he
        obtain ⟨_, cap, rfl, hcap, _⟩ := hr
        exact rd_cut h1 h2 h3 h5 hl hcap
      · cases h
    · cases h
  | ptr id sz i c =>
    simp only [toFV] at h
    split at h
    · rename_i sz' xs he
      split at h
      · rename_i hs
        obtain ⟨rfl, rfl⟩ := hs
        obtain ⟨y, hy, rfl⟩ := Option.map_eq_some_iff.1 h
        obtain ⟨h1, h2, h3, h4, h5⟩ := hh.frz _ _ _ he
        obtain ⟨_, rfl⟩ := hr
        exact rd_elem h1 h2 h3 h5 hy
      · cases h
    · cases h
  | clo f nf caps =>
    simp only [toFV, Option.map_eq_some_iff] at h
    obtain ⟨xs, hx, rfl⟩ := h
    obtain ⟨fs, cs, rfl, h1, h2, h4⟩ := hr
    obtain ⟨k1, k2⟩ := capsFV_rd hh _ _ hx
    refine fn_split h1 (h2.trans k1) fun j u x hu hx => ?_
    exact k2 (fs ++ cs) 0 (fun j u c hu hc => h4 j u c (by simpa only [Nat.zero_add] using hu) hc) j u x (by simpa only [Nat.zero_add] using hu) hx
end
end Go.Ab
namespace Go.Ab
section
variable {P : Program} {w : World} {O : Nat → Prop} {ρ : Rho} {B L : List Ent}
theorem entRd (hh : Heap w O ρ B L) {id : Id} {sz : Nat} {xs : List FV} (he : ent B L id = .own sz xs ∨ ent B L id = .frz sz xs) :
    0 < sz ∧ (∀ x ∈ xs, x.cells.length = sz ∧ ∀ y ∈ x.cells, y.one = true) ∧ ∀ j x, (flat xs)[j]? = some x → ∃ v, w.cell? ⟨(ρ id).1, j, none⟩ = some v ∧ Rd w (Av O ρ B L) v x := by
  rcases he with he | he
  · obtain ⟨h1, h2, h3, h4, cur, t, h5, h6, h7⟩ := hh.own _ _ _ he
    refine ⟨h1, h2, fun j x hx => ?_⟩
    obtain ⟨v, hv, hr⟩ := h7 j x hx
    exact ⟨v, by simp only [World.cell?, h5]; exact hv, hr⟩
  · obtain ⟨h1, h2, h3, h4, h5⟩ := hh.frz _ _ _ he
    exact ⟨h1, h2, h5⟩
theorem load_elem {A : Nat → Prop} {t : TypeId} {ag : Bool} {n b sz i c : Nat} {xs : List FV} {x y : FV} (h1 : agOf P t = some ag) (h2 : szOf P t = some n)
    (hw : ∀ x ∈ xs, x.cells.length = sz ∧ ∀ y ∈ x.cells, y.one = true) (hc : ∀ j x, (flat xs)[j]? = some x → ∃ v, w.cell? ⟨b, j, none⟩ = some v ∧ Rd w A v x)
    (hx : xs[i]? = some x) (hl : ldElem ag n c x = some y) : ∃ v, (loadVar t ⟨b, i * sz + c, none⟩).run P w = .ok v w ∧ Rd w A v y := by
  have hm : x ∈ xs := List.mem_of_getElem? hx
  have hw1 : ∀ x ∈ xs, x.cells.length = sz := fun x hx => (hw x hx).1
  have key : ∀ j z, x.cells[j]? = some z → ∃ v, w.cell? ⟨b, i * sz + j, none⟩ = some v ∧ Rd w A v z := by
    intro j z hz
    have hj : j < x.cells.length := (List.getElem?_eq_some_iff.1 hz).1
    have hf := getElem?_flat xs i x hw1 hx j (by rw [hw1 x hm] at hj; exact hj)
    rw [hz] at hf
    exact hc _ _ hf
  have := ldElem_rd (w := w) (A := A) (f := fun j => (w.cell? ⟨b, i * sz + j, none⟩).getD undef) (hw x hm).2 (fun j z hz => by
    obtain ⟨v, hv, hr⟩ := key j z hz; rw [hv]; exact hr) hl
  obtain ⟨hle, hrd⟩ := this
  refine ⟨_, run_loadVar h1 h2 (fun j => (w.cell? ⟨b, i * sz + c + j, none⟩).getD undef) (fun j hj => ?_), ?_⟩
  · have hj' : c + j < x.cells.length := by omega
    obtain ⟨v, hv, _⟩ := key (c + j) _ (List.getElem?_eq_getElem hj')
    rw [show i * sz + c + j = i * sz + (c + j) from by omega, hv]; rfl
  · simpa [Nat.add_assoc] using hrd
theorem load_ptr {A : Nat → Prop} {t : TypeId} {ag : Bool} {n : Nat} {x y : FV} {v : Value} (h1 : agOf P t = some ag) (h2 : szOf P t = some n)
    (hr : Rd w A v (.ptr x)) (hl : ldElem ag n 0 x = some y) : ∃ u, (Instr.loadAt t v).run P w = .ok u w ∧ Rd w A u y := by
  cases hr with
  | ptr x b o f hx h1' ho hf hr =>
    obtain ⟨hle, hrd⟩ := ldElem_rd (w := w) (A := A) (f := f) h1' hr hl
    refine ⟨_, ?_, hrd⟩
    simp only [Instr.loadAt, Instr.sureAddr, Sem.run_bind, Sem.run_pure, Result.andThen_ok]
    rw [run_loadVar h1 h2 f (fun j hj => hf j (by omega))]
    simp
theorem Rd.chg {w' : World} {A : Nat → Prop} {v : Value} {x : FV} (h : Rd w A v x) (hc : Chg (fun _ => False) w w') : Rd w' A v x :=
  Rd.mono hc (fun _ h => h.elim) (fun _ _ h => h) h
theorem SvRel.chg {w' : World} {v : Value} {s : SV} (h : SvRel w (Av O ρ B L) ρ B L v s) (hc : Chg (fun _ => False) w w') : SvRel w' (Av O ρ B L) ρ B L v s := by
  cases s with
  | unk => trivial
  | fv x => exact Rd.chg h hc
  | ref id sz off len ap => exact h
  | ptr id sz i c => exact h
  | clo f nf caps =>
    obtain ⟨fs, cs, e, h1, h2, h4⟩ := h
    refine ⟨fs, cs, e, h1, h2, fun j u x hu hx => ?_⟩
    have := h4 j u x hu hx
    cases x with
    | fz y => exact Rd.chg this hc
    | own id sz => exact this
def Gives (P : Program) (w : World) (O : Nat → Prop) (ρ : Rho) (B L : List Ent) (r : Result Value) (s : SV) : Prop :=
  ∃ v w', r = .ok v w' ∧ Chg (fun _ => False) w w' ∧ SvRel w' (Av O ρ B L) ρ B L v s
theorem Gives.same {r : Result Value} {s : SV} {v : Value} (h : r = .ok v w) (hs : SvRel w (Av O ρ B L) ρ B L v s) : Gives P w O ρ B L r s := ⟨v, w, h, Chg.refl _ _, hs⟩
theorem Gives.exec {val : Operand → Value} {o : Oper} {m : Sem Value} {s : SV} (h : Gives P w O ρ B L (m.run P w) s) (he : execOp val o = (do pure (.value (← m)))) :
    ∃ v w', (execOp val o).run P w = .ok (.value v) w' ∧ Chg (fun _ => False) w w' ∧ SvRel w' (Av O ρ B L) ρ B L v s := by
  obtain ⟨v, w', h1, h2, h3⟩ := h
  exact ⟨v, w', by rw [he]; simp [h1], h2, h3⟩
theorem evInt_run {op : BinOp} {k : IntKind} {a b : Int} {y : FV} {t : TypeId} (hs : op ≠ .shl ∧ op ≠ .shr) (h : evInt op k a b = some y) (x1 x2 : Operand) :
    ∃ v, (do eqGuard op t x1 x2 (.int k a) (.int k b); binOp op t (.int k a) (.int k b) : Sem Value).run P w = .ok v w ∧ ∀ A, Rd w A v y := by
  cases op <;> simp only [evInt] at h <;> first
    | (cases h; done)
    | (exact absurd rfl hs.1)
    | (exact absurd rfl hs.2)
    | (injection h with h; subst h; refine ⟨_, by simp only [Sem.run_bind, eqGuard_at_int, Sem.run_pure, Result.andThen_ok, binOp_add, binOp_sub, binOp_mul, binOp_and, binOp_or, binOp_xor, binOp_andNot, binOp_eql, binOp_neq, binOp_lss, binOp_leq, binOp_gtr, binOp_geq, Op.intArith, Op.intBits]; try rfl, fun A => by constructor⟩)
    | (split at h <;> first | (cases h; done) | (injection h with h; subst h; rename_i hb; refine ⟨_, by simp [eqGuard_at_int, binOp, Op.intDiv, hb]; try rfl, fun A => by constructor⟩))
theorem evShift_run {op : BinOp} {k k' : IntKind} {a b : Int} {y : FV} {t : TypeId} (hs : op = .shl ∨ op = .shr) (h : evShift op k a b = some y) (x1 x2 : Operand) :
    ∃ v, (do eqGuard op t x1 x2 (.int k a) (.int k' b); binOp op t (.int k a) (.int k' b) : Sem Value).run P w = .ok v w ∧ ∀ A, Rd w A v y := by
  unfold evShift at h
  split at h
  · cases h
  · rename_i hb
    rcases hs with rfl | rfl <;> simp only at h <;> injection h with h <;> subst h <;>
      exact ⟨_, by simp only [Sem.run_bind, eqGuard_at_int, Sem.run_pure, Result.andThen_ok, binOp_shl, binOp_shr, Op.shift, hb, if_false]; rfl, fun A => by constructor⟩
theorem equal_nil_sl {t e : TypeId} (ht : P.underlying t = some (.slice e)) (a : Option Addr) (n c : Nat) :
    (Op.equal t (.slice a n c) (.slice none 0 0)).run P w = .ok a.isNone w := by
  unfold Op.equal Op.maxDepth
  rw [show (10000 : Nat) = 9999 + 1 from rfl]
  generalize 9999 = d
  simp only [Op.equalIn, Sem.run_bind, run_underlying ht, Result.andThen_ok]
  cases a <;> rfl
theorem equal_nil_ptr {t e : TypeId} (ht : P.underlying t = some (.pointer e)) (a : Option Addr) :
    (Op.equal t (.pointer a) (.pointer none)).run P w = .ok a.isNone w := by
  unfold Op.equal Op.maxDepth
  rw [show (10000 : Nat) = 9999 + 1 from rfl]
  generalize 9999 = d
  simp only [Op.equalIn, Sem.run_bind, run_underlying ht, Result.andThen_ok]
  cases a <;> rfl
theorem equal_nil_fn {t : TypeId} {p q : Array TypeId} {z : Bool} (ht : P.underlying t = some (.func p q z)) (v : Value) (b : Bool) (hv : (v = .nilFunc ∧ b = true) ∨ (∃ f x y, v = .func f x y ∧ b = false)) :
    (Op.equal t v .nilFunc).run P w = .ok b w := by
  unfold Op.equal Op.maxDepth
  rw [show (10000 : Nat) = 9999 + 1 from rfl]
  generalize 9999 = d
  simp only [Op.equalIn, Sem.run_bind, run_underlying ht, Result.andThen_ok]
  rcases hv with ⟨rfl, rfl⟩ | ⟨f, x, y, rfl, rfl⟩ <;> rfl
theorem equal_bool {t : TypeId} (ht : P.underlying t = some .bool) (a b : Bool) : (Op.equal t (.bool a) (.bool b)).run P w = .ok (a == b) w := by
  unfold Op.equal Op.maxDepth
  rw [show (10000 : Nat) = 9999 + 1 from rfl]
  generalize 9999 = d
  simp only [Op.equalIn, Sem.run_bind, run_underlying ht, Result.andThen_ok]
  rfl
theorem tk_sl {t : TypeId} (h : tkOf P t = some .sl) : ∃ e, P.underlying t = some (.slice e) := by
  unfold tkOf at h; split at h <;> first | (exact ⟨_, by assumption⟩) | (cases h)
theorem tk_ptr {t : TypeId} (h : tkOf P t = some .ptr) : ∃ e, P.underlying t = some (.pointer e) := by
  unfold tkOf at h; split at h <;> first | (exact ⟨_, by assumption⟩) | (cases h)
theorem tk_fn {t : TypeId} (h : tkOf P t = some .fn) : ∃ p q z, P.underlying t = some (.func p q z) := by
  unfold tkOf at h; split at h <;> first | (exact ⟨_, _, _, by assumption⟩) | (cases h)
theorem tk_bool {t : TypeId} (h : tkOf P t = some .bool) : P.underlying t = some .bool := by
  unfold tkOf at h; split at h <;> first | assumption | (cases h)
theorem isNil_run {t : TypeId} {tk : TK} (ht : tkOf P t = some tk) {x y : SV} {v u : Value} (hx : SvRel w (Av O ρ B L) ρ B L v x) (hy : SvRel w (Av O ρ B L) ρ B L u y)
    (hn : isNilC tk y = true) {b : Bool} (h : isNil tk x = some b) : (Op.equal t v u).run P w = .ok b w ∧
      (∀ op x1 x2, eqGuard op t x1 x2 v u = pure ()) ∧ (binOp .eql t v u = (do pure (.bool (← Op.equal t v u)))) ∧ (binOp .neq t v u = (do pure (.bool (!(← Op.equal t v u))))) := by
  unfold isNilC at hn
  split at hn
  · -- a slice
    obtain ⟨e, he⟩ := tk_sl ht
    have hu : u = .slice none 0 0 := by
      cases hy with
      | slE t a c h => obtain ⟨rfl, _, rfl⟩ := h; rfl
      | sl t xs sz b o c f hz hx => exact absurd rfl hx
    subst hu
    unfold isNil at h
    split at h <;> first | (cases h; done) | skip
    all_goals (try (rename_i hk; cases hk))
    all_goals injection h with h; subst h
    · cases hx with
      | slE t a c h' => obtain ⟨rfl, _, rfl⟩ := h'; exact ⟨equal_nil_sl he _ _ _, fun op x1 x2 => eqGuard_at_slice _ _ _ _ _ _ _ _, rfl, rfl⟩
      | sl t xs sz b o c f hz hx => exact absurd rfl hx
    · cases hx with
      | sl t xs sz b o c f hz hx hk hw ho hf hr ht => exact ⟨equal_nil_sl he _ _ _, fun op x1 x2 => eqGuard_at_slice _ _ _ _ _ _ _ _, rfl, rfl⟩
    · obtain ⟨_, cap, rfl, _⟩ := hx
      exact ⟨equal_nil_sl he _ _ _, fun op x1 x2 => eqGuard_at_slice _ _ _ _ _ _ _ _, rfl, rfl⟩
  · obtain ⟨e, he⟩ := tk_ptr ht
    have hu : u = .pointer none := by cases hy; rfl
    subst hu
    unfold isNil at h
    split at h <;> first | (cases h; done) | skip
    all_goals (try (rename_i hk; cases hk))
    all_goals injection h with h; subst h
    · cases hx; exact ⟨equal_nil_ptr he _, fun op x1 x2 => eqGuard_at_pointer _ _ _ _ _ _, rfl, rfl⟩
    · cases hx; exact ⟨equal_nil_ptr he _, fun op x1 x2 => eqGuard_at_pointer _ _ _ _ _ _, rfl, rfl⟩
    · obtain ⟨_, rfl⟩ := hx
      exact ⟨equal_nil_ptr he _, fun op x1 x2 => eqGuard_at_pointer _ _ _ _ _ _, rfl, rfl⟩
  · obtain ⟨p, q, z, he⟩ := tk_fn ht
    have hu : u = .nilFunc := by cases hy; rfl
    subst hu
    unfold isNil at h
    split at h <;> first | (cases h; done) | skip
    all_goals (try (rename_i hk; cases hk))
    all_goals injection h with h; subst h
    · cases hx; exact ⟨equal_nil_fn he _ _ (.inl ⟨rfl, rfl⟩), fun op x1 x2 => eqGuard_at_nilFunc _ _ _ _ _, rfl, rfl⟩
    · cases hx; exact ⟨equal_nil_fn he _ _ (.inr ⟨_, _, _, rfl, rfl⟩), fun op x1 x2 => eqGuard_at_func _ _ _ _ _ _ _ _, rfl, rfl⟩
    · obtain ⟨fs, cs, rfl, _⟩ := hx
      exact ⟨equal_nil_fn he _ _ (.inr ⟨_, _, _, rfl, rfl⟩), fun op x1 x2 => eqGuard_at_func _ _ _ _ _ _ _ _, rfl, rfl⟩
  · cases hn
end
end Go.Ab
namespace Go.Ab
section
variable {P : Program} {w : World} {O : Nat → Prop} {ρ : Rho} {B L : List Ent}
theorem evBin_run {op : BinOp} {tk : TK} {t : TypeId} (ht : tkOf P t = some tk) {x y : SV} {v u : Value} {z : FV} (hx : SvRel w (Av O ρ B L) ρ B L v x) (hy : SvRel w (Av O ρ B L) ρ B L u y)
    (h : evBin op tk x y = some z) (x1 x2 : Operand) : ∃ r, (do eqGuard op t x1 x2 v u; binOp op t v u : Sem Value).run P w = .ok r w ∧ Rd w (Av O ρ B L) r z := by
  unfold evBin at h
  split at h
  · cases hx; cases hy
    split at h
    · obtain ⟨r, h1, h2⟩ := evShift_run (P := P) (w := w) (t := t) (.inl rfl) h x1 x2; exact ⟨r, h1, h2 _⟩
    · obtain ⟨r, h1, h2⟩ := evShift_run (P := P) (w := w) (t := t) (.inr rfl) h x1 x2; exact ⟨r, h1, h2 _⟩
    · rename_i n1 n2
      split at h
      · rename_i hk; subst hk
        obtain ⟨r, h1, h2⟩ := evInt_run (P := P) (w := w) (t := t) ⟨fun e => n1 e, fun e => n2 e⟩ h x1 x2
        exact ⟨r, h1, h2 _⟩
      · cases h
  · cases hx; cases hy
    split at h
    · injection h with h; subst h
      have he := tk_bool ht
      refine ⟨_, ?_, .bool _⟩
      simp only [Sem.run_bind, eqGuard_at_bool, Sem.run_pure, Result.andThen_ok, binOp, equal_bool he]
    · injection h with h; subst h
      have he := tk_bool ht
      refine ⟨_, ?_, .bool _⟩
      simp only [Sem.run_bind, eqGuard_at_bool, Sem.run_pure, Result.andThen_ok, binOp, equal_bool he]
      rfl
    · cases h
  · cases hx; cases hy
    split at h
    · injection h with h; subst h
      exact ⟨_, by simp only [Sem.run_bind, eqGuard_at_string, Sem.run_pure, Result.andThen_ok, binOp, Op.stringOp], .bool _⟩
    · injection h with h; subst h
      exact ⟨_, by simp only [Sem.run_bind, eqGuard_at_string, Sem.run_pure, Result.andThen_ok, binOp, Op.stringOp], .bool _⟩
    · injection h with h; subst h
      exact ⟨_, by simp only [Sem.run_bind, eqGuard_at_string, Sem.run_pure, Result.andThen_ok, binOp, Op.stringOp], .bool _⟩
    · injection h with h; subst h
      exact ⟨_, by simp only [Sem.run_bind, eqGuard_at_string, Sem.run_pure, Result.andThen_ok, binOp, Op.stringOp], .bool _⟩
    · injection h with h; subst h
      exact ⟨_, by simp only [Sem.run_bind, eqGuard_at_string, Sem.run_pure, Result.andThen_ok, binOp, Op.stringOp], .bool _⟩
    · injection h with h; subst h
      exact ⟨_, by simp only [Sem.run_bind, eqGuard_at_string, Sem.run_pure, Result.andThen_ok, binOp, Op.stringOp], .bool _⟩
    · split at h
      · injection h with h; subst h
        rename_i hs
        refine ⟨_, ?_, .str _⟩
        simp only [Sem.run_bind, eqGuard_at_string, Sem.run_pure, Result.andThen_ok, binOp, Op.stringOp, IntKind.max_i64, Sem.run_ite]
        rw [if_neg (by omega)]
      · cases h
    · cases h
  · split at h
    · rename_i hn
      split at h
      · obtain ⟨b, hb, rfl⟩ := Option.map_eq_some_iff.1 h
        obtain ⟨h1, h2, h3, h4⟩ := isNil_run ht hx hy hn hb
        exact ⟨.bool b, by rw [h2]; simp [h3, h1], .bool _⟩
      · obtain ⟨b, hb, rfl⟩ := Option.map_eq_some_iff.1 h
        obtain ⟨h1, h2, h3, h4⟩ := isNil_run ht hx hy hn hb
        exact ⟨.bool !b, by rw [h2]; simp [h4, h1], .bool _⟩
      · cases h
    · cases h
theorem evUn_run {op : UnOp} {x : SV} {v : Value} {z : FV} (hx : SvRel w (Av O ρ B L) ρ B L v x) (h : evUn op x = some z) :
    ∃ r, (Op.unary op v).run P w = .ok r w ∧ Rd w (Av O ρ B L) r z := by
  unfold evUn at h
  split at h
  · injection h with h; subst h; cases hx; exact ⟨_, rfl, .int _ _⟩
  · injection h with h; subst h; cases hx; exact ⟨_, rfl, .bool _⟩
  · cases h
theorem minOne_run {lt : Int → Int → Bool} {f : Value → Value → Sem Value} (hf : ∀ k a b, f (.int k a) (.int k b) = pure (.int k (if lt b a then b else a))) :
    ∀ (rs : List SV) (vs : List Value) (k : IntKind) (a : Int) (y : FV), vs.length = rs.length → (∀ (j : Nat) (v : Value) (s : SV), vs[j]? = some v → rs[j]? = some s → SvRel w (Av O ρ B L) ρ B L v s) →
      minOne lt (.int k a) rs = some y → ∃ r, (vs.foldlM f (.int k a)).run P w = .ok r w ∧ Rd w (Av O ρ B L) r y
  | [], vs, k, a, y, hl, hr, h => by
    have : vs = [] := List.eq_nil_of_length_eq_zero (by simpa using hl)
    subst this
    simp only [minOne, Option.some.injEq] at h
    subst h
    exact ⟨_, rfl, .int _ _⟩
  | s :: rs, [], k, a, y, hl, hr, h => by simp at hl
  | s :: rs, v :: vs, k, a, y, hl, hr, h => by
    unfold minOne at h
    split at h
    · rename_i heq; cases heq
    · rename_i k1 a1 k2 b r heq1 heq2
      injection heq1 with e1 e2; subst e1; subst e2
      injection heq2 with e3 e4; subst e3; subst e4
      split at h
      · rename_i hk; subst hk
        have h0 := hr 0 v _ rfl rfl
        cases h0
        obtain ⟨r', h1, h2⟩ := minOne_run hf rs vs k _ y (by simpa using hl) (fun j v s hv hs => hr (j + 1) v s (by simpa using hv) (by simpa using hs)) h
        exact ⟨r', by simp only [List.foldlM_cons, hf, Sem.run_bind, Sem.run_pure, Result.andThen_ok, h1], h2⟩
      · cases h
    · cases h
def OptRel (w : World) (O : Nat → Prop) (ρ : Rho) (B L : List Ent) : Option Value → Option SV → Prop
  | none, none => True
  | some v, some s => SvRel w (Av O ρ B L) ρ B L v s
  | _, _ => False
theorem bnd_run {n d m : Nat} {s : Option SV} {v : Option Value} {l : Nat} {code : BoundsCode} (hr : OptRel w O ρ B L v s) (h : bnd n d s = some l) (hm : n ≤ m) (hd : d ≤ n) :
    (match v with | some v => Instr.sliceBound v m code | none => pure d : Sem Nat).run P w = .ok l w ∧ l ≤ n := by
  unfold bnd at h
  split at h
  · cases v with
    | none => injection h with h; subst h; exact ⟨rfl, hd⟩
    | some v => cases hr
  · rename_i k i
    cases v with
    | none => cases hr
    | some v =>
      cases hr
      split at h
      · rename_i hi
        injection h with h; subst h
        refine ⟨?_, by omega⟩
        simp only [Instr.sliceBound, asIntOf, Sem.run_bind, Sem.run_pure, Result.andThen_ok]
        rw [if_pos ⟨hi.1, by omega⟩]
        rfl
      · cases h
  · cases h
theorem bnds_run {n cap : Nat} (hc : n ≤ cap) {lo hi mx : Option SV} {vl vh vm : Option Value} (hl : OptRel w O ρ B L vl lo) (hh : OptRel w O ρ B L vh hi) (hm : OptRel w O ρ B L vm mx)
    {l h : Nat} {m : Option Nat} (hb : bnds n lo hi mx = some (l, h, m)) :
    (Instr.sliceBounds true n cap vl vh vm).run P w = .ok (l, h, m.getD cap) w ∧ l ≤ h ∧ h ≤ n ∧ (∀ k, m = some k → h ≤ k ∧ k ≤ n) := by
  unfold bnds at hb
  cases mx with
  | none =>
    cases vm with
    | some _ => cases hm
    | none =>
      simp only [Option.bind_eq_some_iff, Option.map_eq_some_iff, Prod.mk.injEq] at hb
      obtain ⟨h', h1, l', h2, rfl, rfl, rfl⟩ := hb
      obtain ⟨hh1, hh2⟩ := bnd_run (P := P) (m := cap) (code := .sliceAcap) hh h1 hc (Nat.le_refl _)
      obtain ⟨hl1, hl2⟩ := bnd_run (P := P) (m := h') (code := .sliceB) hl h2 (Nat.le_refl _) (Nat.zero_le _)
      refine ⟨?_, hl2, hh2, fun k hk => by cases hk⟩
      cases vh <;> cases vl <;>
        (simp only [Sem.run_pure] at hh1 hl1
         simp only [Instr.sliceBounds, Sem.run_bind, Sem.run_pure, Result.andThen_ok, Option.isSome_none, Bool.false_eq_true, if_false, if_true, hl1, hh1]
         first | rfl | (injection hh1 with hh1; subst hh1; first | (simp only [hl1]; rfl) | (injection hl1 with hl1; subst hl1; rfl)) | (injection hl1 with hl1; subst hl1; rfl))
  | some sm =>
    cases vm with
    | none => cases hm
    | some v =>
      simp only at hb
      cases hi with
      | none => simp at hb
      | some s =>
        cases vh with
        | none => cases hh
        | some u =>
          simp only [Option.isNone_some, Bool.false_eq_true, if_false, Option.bind_eq_some_iff, Option.map_eq_some_iff, Prod.mk.injEq] at hb
          obtain ⟨m', h0, h', h1, l', h2, rfl, rfl, rfl⟩ := hb
          obtain ⟨hm1, hm2⟩ := bnd_run (P := P) (m := cap) (v := some v) (code := .slice3Acap) hm h0 hc (Nat.le_refl _)
          obtain ⟨hh1, hh2⟩ := bnd_run (P := P) (m := m') (v := some u) (code := .slice3B) hh h1 (Nat.le_refl _) (Nat.le_refl _)
          obtain ⟨hl1, hl2⟩ := bnd_run (P := P) (m := h') (code := .slice3C) hl h2 (Nat.le_refl _) (Nat.zero_le _)
          refine ⟨?_, hl2, by omega, fun k hk => by injection hk with hk; omega⟩
          simp only at hm1 hh1
          cases vl <;>
            (simp only [Sem.run_pure] at hl1
             simp only [Instr.sliceBounds, Sem.run_bind, Sem.run_pure, Result.andThen_ok, Option.isSome_some, if_true, hm1, hh1, hl1]
             first | rfl | (injection hl1 with hl1; subst hl1; rfl))
theorem slice_run_fv {t e : TypeId} {sz n cap l h : Nat} {m : Option Nat} {a : Option Addr} {vx : Value} {vl vh vm : Option Value} (ht : P.underlying t = some (.slice e)) (hs : szOf P e = some sz)
    (hx : vx = .slice a n cap) (hb : (Instr.sliceBounds true n cap vl vh vm).run P w = .ok (l, h, m.getD cap) w) :
    (Instr.sliceAt t vx vl vh vm).run P w = .ok (.slice (if m.getD cap = l then a else a.map (·.add (l * sz))) (h - l) (m.getD cap - l)) w := by
  subst hx
  simp only [Instr.sliceAt, Sem.run_bind, run_underlying ht, Result.andThen_ok, Instr.slice, hb, run_sizeOf hs, Sem.run_pure]
theorem rd_sl_parts {A : Nat → Prop} {v : Value} {t : Tag} {xs : List FV} (h : Rd w A v (.sl t xs)) : ∃ a cap, v = .slice a xs.length cap ∧ xs.length ≤ cap ∧
    (xs ≠ [] → ∃ sz b o, 0 < sz ∧ a = some ⟨b, o, none⟩ ∧ (∀ x ∈ xs, x.cells.length = sz ∧ ∀ y ∈ x.cells, y.one = true) ∧ ¬ A b ∧
      ∀ j x, (flat xs)[j]? = some x → ∃ u, w.cell? ⟨b, o + j, none⟩ = some u ∧ Rd w A u x) := by
  cases h with
  | slE t a c ht => exact ⟨a, c, rfl, Nat.zero_le _, fun h => absurd rfl h⟩
  | sl t xs sz b o c f hz hx hk hw ho hf hr ht =>
    refine ⟨_, c, rfl, hk, fun _ => ⟨sz, b, o, hz, rfl, hw, ho, fun j x hx => ⟨f j, hf j (List.getElem?_eq_some_iff.1 hx).1, hr j x hx⟩⟩⟩
theorem rd_cut' {A : Nat → Prop} {b o sz off len cap : Nat} {xs : List FV} {t : Tag} (hz : 0 < sz) (hw : ∀ x ∈ xs, x.cells.length = sz ∧ ∀ y ∈ x.cells, y.one = true) (hb : ¬ A b)
    (hc : ∀ j x, (flat xs)[j]? = some x → ∃ v, w.cell? ⟨b, o + j, none⟩ = some v ∧ Rd w A v x) (hl : off + len ≤ xs.length) (hcap : len ≤ cap)
    {ad : Option Addr} (had : 0 < len → ad = some ⟨b, o + off * sz, none⟩) (ht : TagOK t ad len cap) :
    Rd w A (.slice ad len cap) (.sl t (cutL xs off len)) := by
  rcases Nat.eq_zero_or_pos len with h0 | h0
  · subst h0
    have : cutL xs off 0 = [] := by simp [cutL]
    rw [this]
    exact .slE _ _ _ ht
  · have := had h0
    subst this
    have hlen := cutL_length hl
    have hw1 : ∀ x ∈ xs, x.cells.length = sz := fun x hx => (hw x hx).1
    have hfl : (flat (cutL xs off len)).length = len * sz := by rw [flat_length _ (fun x hx => hw1 x (mem_cutL hx)), hlen]
    have key : ∀ j, j < len * sz → ∃ v x, (flat (cutL xs off len))[j]? = some x ∧ w.cell? ⟨b, o + off * sz + j, none⟩ = some v ∧ Rd w A v x := by
      intro j hj
      have hx : (flat (cutL xs off len))[j]? = some ((flat (cutL xs off len))[j]'(by omega)) := List.getElem?_eq_getElem _
      have hx2 := hx
      rw [flat_cutL xs off len hw1 hl j hj] at hx2
      obtain ⟨v, hv, hr⟩ := hc _ _ hx2
      exact ⟨v, _, hx, by rw [Nat.add_assoc]; exact hv, hr⟩
    have := Rd.sl (w := w) (O := A) t (cutL xs off len) sz b (o + off * sz) cap (fun j => (w.cell? ⟨b, o + off * sz + j, none⟩).getD undef) hz
      (fun e => by rw [e] at hlen; simp at hlen; omega) (by rw [hlen]; exact hcap) (fun x hx => hw x (mem_cutL hx)) hb
      (fun j hj => by
        obtain ⟨v, x, _, h2, _⟩ := key j (by omega)
        rw [h2]; rfl)
      (fun j x hx => by
        have hj : j < len * sz := by have := (List.getElem?_eq_some_iff.1 hx).1; omega
        obtain ⟨v, x', h1, h2, h3⟩ := key j hj
        rw [hx] at h1; injection h1 with h1; subst h1
        rw [h2]; exact h3) (by rw [hlen]; exact ht)
    rw [hlen] at this
    exact this
theorem slice_fv {t e : TypeId} {sz l h : Nat} {tg : Tag} {xs : List FV} {m : Option Nat} {v : Value} {vl vh vm : Option Value} {lo hi mx : Option SV} (ht : P.underlying t = some (.slice e)) (hs : szOf P e = some sz)
    (hsz' : wid sz xs = true) (hx : Rd w (Av O ρ B L) v (.sl tg xs)) (hl : OptRel w O ρ B L vl lo) (hh : OptRel w O ρ B L vh hi) (hm : OptRel w O ρ B L vm mx)
    (hb : bnds xs.length lo hi mx = some (l, h, m)) :
    ∃ r, (Instr.sliceAt t v vl vh vm).run P w = .ok r w ∧ Rd w (Av O ρ B L) r (.sl (if m = some h then .full else .any) (cutL xs l (h - l))) := by
  have hsz : ∀ x ∈ xs, x.cells.length = sz := by simpa [wid] using hsz'
  clear hsz'
  obtain ⟨a, cap, rfl, hcap, hne⟩ := rd_sl_parts hx
  obtain ⟨hr, h1, h2, h3⟩ := bnds_run (P := P) hcap hl hh hm hb
  refine ⟨_, slice_run_fv ht hs rfl hr, ?_⟩
  have hmc : h ≤ m.getD cap := by
    cases m with
    | none => exact Nat.le_trans h2 hcap
    | some k => exact (h3 k rfl).1
  by_cases hx0 : xs = []
  · subst hx0
    have : l = 0 ∧ h = 0 := by simp at h2; omega
    obtain ⟨rfl, rfl⟩ := this
    have : cutL ([] : List FV) 0 (0 - 0) = [] := by simp [cutL]
    rw [this]
    refine .slE _ _ _ ?_
    split
    · rename_i hmm; subst hmm; rfl
    · trivial
  · obtain ⟨sz', b, o, hz, rfl, hw, hb', hc⟩ := hne hx0
    have hsz' : sz' = sz := by
      obtain ⟨x, hx⟩ := List.exists_mem_of_ne_nil _ hx0
      rw [← (hw x hx).1, hsz x hx]
    subst hsz'
    refine rd_cut' hz hw hb' hc (by omega) (by omega) (fun hpos => ?_) ?_
    · rw [if_neg (by omega)]
      simp [add_plain]
    · split
      · rename_i hmm; subst hmm; simp [TagOK]
      · trivial
theorem slice_ref {t e : TypeId} {id : Id} {sz off n l h : Nat} {ap : Bool} {m : Option Nat} {v : Value} {vl vh vm : Option Value} {lo hi mx : Option SV} (ht : P.underlying t = some (.slice e)) (hs : szOf P e = some sz)
    (hx : SvRel w (Av O ρ B L) ρ B L v (.ref id sz off n ap)) (hl : OptRel w O ρ B L vl lo) (hh : OptRel w O ρ B L vh hi) (hm : OptRel w O ρ B L vm mx)
    (hb : bnds n lo hi mx = some (l, h, m)) :
    ∃ r, (Instr.sliceAt t v vl vh vm).run P w = .ok r w ∧ SvRel w (Av O ρ B L) ρ B L r (if l = h ∧ l ≠ 0 then .fv (.sl .any []) else .ref id sz (off + l) (h - l) (ap && l == 0 && m.isNone)) := by
  obtain ⟨hv, cap, rfl, hcap, hap⟩ := hx
  obtain ⟨hr, h1, h2, h3⟩ := bnds_run (P := P) hcap hl hh hm hb
  refine ⟨_, slice_run_fv ht hs rfl hr, ?_⟩
  have hmc : h ≤ m.getD cap := by
    cases m with
    | none => exact Nat.le_trans h2 hcap
    | some k => exact (h3 k rfl).1
  by_cases hlh : l = h ∧ l ≠ 0
  · rw [if_pos hlh]
    obtain ⟨rfl, _⟩ := hlh
    rw [Nat.sub_self]
    exact Rd.slE _ _ _ trivial
  · rw [if_neg hlh]
    refine ⟨hv, m.getD cap - l, ?_, by omega, fun hap' => ?_⟩
    · congr 1
      by_cases hl0 : l = 0
      · subst hl0; simp [add_plain]
      · rw [if_neg (by omega)]
        simp [add_plain, Nat.add_mul]
    · simp only [Bool.and_eq_true, beq_iff_eq] at hap'
      obtain ⟨⟨ha, rfl⟩, hm0⟩ := hap'
      obtain ⟨h4, h5⟩ := hap ha
      cases m with
      | some _ => simp at hm0
      | none => exact ⟨by omega, by simpa using h5⟩
end
end Go.Ab
namespace Go.Ab
theorem zipFold (off : Nat) : ∀ (vs : List Value) (k : Nat) (cells : Array Value), off + k + vs.length ≤ cells.size →
    ((vs.zipIdx k).foldl (fun cs (p : Value × Nat) => cs.setIfInBounds (off + p.2) p.1) cells).size = cells.size ∧
    ∀ j, At ((vs.zipIdx k).foldl (fun cs (p : Value × Nat) => cs.setIfInBounds (off + p.2) p.1) cells) j = if off + k ≤ j ∧ j < off + k + vs.length then vs[j - (off + k)]? else At cells j
  | [], k, cells, h => by simp; intro j h1 h2; omega
  | v :: vs, k, cells, h => by
    simp only [List.zipIdx_cons, List.foldl_cons]
    have ih := zipFold off vs (k + 1) (cells.setIfInBounds (off + k) v) (by simp at h ⊢; omega)
    refine ⟨by rw [ih.1]; simp, fun j => ?_⟩
    rw [ih.2]
    simp only [List.length_cons] at h ⊢
    by_cases h1 : j = off + k
    · subst h1
      rw [if_neg (by omega), if_pos (by omega)]
      have hb : off + k < cells.size := by omega
      simp [At, hb]
    · by_cases h2 : off + (k + 1) ≤ j ∧ j < off + (k + 1) + vs.length
      · rw [if_pos h2, if_pos (by omega)]
        rw [show j - (off + k) = j - (off + (k + 1)) + 1 from by omega]
        simp
      · rw [if_neg h2, if_neg (by omega)]
        simp only [At]
        rw [Array.getElem?_setIfInBounds_ne (by omega)]
section
variable {P : Program} {w : World} {A : Nat → Prop}
def CellsRel (w : World) (A : Nat → Prop) (vs : Array Value) (xs : List FV) : Prop :=
  vs.size = xs.length ∧ (∀ x ∈ xs, x.one = true) ∧ ∀ j v x, At vs j = some v → xs[j]? = some x → Rd w A v x
theorem splice_rel {vs us : Array Value} {xs ys : List FV} {off : Nat} (h : CellsRel w A vs xs) (k : CellsRel w A us ys) (hl : off + ys.length ≤ xs.length) :
    CellsRel w A ((us.zipIdx).foldl (fun cs (p : Value × Nat) => cs.setIfInBounds (off + p.2) p.1) vs) (xs.take off ++ ys ++ xs.drop (off + ys.length)) := by
  have hz := zipFold off us.toList 0 vs (by have := k.1; have := h.1; simp; omega)
  have he : (us.zipIdx).foldl (fun cs (p : Value × Nat) => cs.setIfInBounds (off + p.2) p.1) vs = (us.toList.zipIdx 0).foldl (fun cs (p : Value × Nat) => cs.setIfInBounds (off + p.2) p.1) vs := by
    rw [← Array.foldl_toList, Array.toList_zipIdx]
  rw [he]
  have hlen : (xs.take off ++ ys ++ xs.drop (off + ys.length)).length = xs.length := by simp; omega
  refine ⟨by rw [hz.1, hlen, h.1], fun x hx => ?_, fun j v x hv hx => ?_⟩
  · simp only [List.mem_append] at hx
    rcases hx with (hx | hx) | hx
    · exact h.2.1 x (List.mem_of_mem_take hx)
    · exact k.2.1 x hx
    · exact h.2.1 x (List.mem_of_mem_drop hx)
  · rw [hz.2] at hv
    have hus : us.toList.length = ys.length := by rw [Array.length_toList]; exact k.1
    have hj : j < xs.length := by have := (List.getElem?_eq_some_iff.1 hx).1; omega
    simp only [Nat.add_zero, hus] at hv
    by_cases h1 : j < off
    · rw [if_neg (by omega)] at hv
      refine h.2.2 j v x hv ?_
      rw [List.append_assoc, List.getElem?_append_left (by simp; omega)] at hx
      simpa [h1] using hx
    · by_cases h2 : j < off + ys.length
      · rw [if_pos (by omega)] at hv
        refine k.2.2 (j - off) v x (by simpa [At] using hv) ?_
        rw [List.append_assoc, List.getElem?_append_right (by simp; omega)] at hx
        rw [List.getElem?_append_left (by simp; omega)] at hx
        simpa [Nat.min_eq_left (show off ≤ xs.length by omega)] using hx
      · rw [if_neg (by omega)] at hv
        refine h.2.2 j v x hv ?_
        rw [List.getElem?_append_right (by simp; omega)] at hx
        simp at hx
        rw [← hx]
        congr 1
        omega
theorem Rd.cellsRel {v : Value} {x : FV} (h : Rd w A v x) (ht : okPart x = true) : CellsRel w A v.cells x.cells := Rd.cells h (okPart_of ht)
theorem fill_run {place : Nat → Option (Nat × Nat)} : ∀ (ps : List (Nat × Value)) (qs : List (Nat × Nat × FV)) (cells : Array Value) (xs ys : List FV), CellsRel w A cells xs → ps.length = qs.length →
    (∀ (j : Nat) (p : Nat × Value) (q : Nat × Nat × FV), ps[j]? = some p → qs[j]? = some q → place p.1 = some (q.1, q.2.1) ∧ CellsRel w A p.2.cells q.2.2.cells) →
    fillF xs qs = some ys → ∃ cs, Instr.fill place cells ps = some cs ∧ CellsRel w A cs ys
  | [], qs, cells, xs, ys, h, hl, hp, hf => by
    have : qs = [] := List.eq_nil_of_length_eq_zero (by simpa using hl.symm)
    subst this
    simp only [fillF, Option.some.injEq] at hf
    subst hf
    exact ⟨cells, rfl, h⟩
  | p :: ps, [], cells, xs, ys, h, hl, hp, hf => by simp at hl
  | (i, v) :: ps, (off, size, x) :: qs, cells, xs, ys, h, hl, hp, hf => by
    obtain ⟨h1, h2⟩ := hp 0 (i, v) (off, size, x) rfl rfl
    simp only [fillF] at hf
    split at hf
    · rename_i hc
      obtain ⟨rfl, hle, _⟩ := hc
      have hs : v.cells.size = x.cells.length := h2.1
      simp only [Instr.fill, h1]
      have hz : cells.size = xs.length := h.1
      rw [if_neg (by simp [hs, hz]; omega)]
      exact fill_run ps qs _ _ ys (splice_rel h h2 hle) (by simpa using hl) (fun j p q hp' hq' => hp (j + 1) p q (by simpa using hp') (by simpa using hq')) hf
    · cases hf
theorem fillF_okPart : ∀ (qs : List (Nat × Nat × FV)) (xs ys : List FV), fillF xs qs = some ys → ∀ q ∈ qs, okPart q.2.2 = true
  | [], _, _, _, q, hq => by cases hq
  | (off, size, x) :: qs, xs, ys, h, q, hq => by
    simp only [fillF] at h
    split at h
    · rename_i hc
      rcases List.mem_cons.1 hq with rfl | hq
      · exact hc.2.2
      · exact fillF_okPart qs _ ys h q hq
    · cases h
theorem flat_append (a b : List FV) : flat (a ++ b) = flat a ++ flat b := by simp [flat]
theorem flat_set {sz : Nat} (xs : List FV) (i : Nat) (x : FV) (hw : ∀ x ∈ xs, x.cells.length = sz) (hi : i < xs.length) (hx : x.cells.length = sz) :
    flat (xs.set i x) = (flat xs).take (i * sz) ++ x.cells ++ (flat xs).drop (i * sz + sz) := by
  obtain ⟨a, y, b, rfl, rfl⟩ : ∃ a y b, xs = a ++ y :: b ∧ a.length = i := ⟨xs.take i, xs[i], xs.drop (i + 1), by simp, by simp; omega⟩
  have h1 : (flat a).length = a.length * sz := flat_length _ (fun y hy => hw y (by simp [hy]))
  have h2 : y.cells.length = sz := hw _ (by simp)
  have e1 : flat (a ++ y :: b) = flat a ++ (y.cells ++ flat b) := by simp [flat]
  have e2 : flat ((a ++ y :: b).set a.length x) = flat a ++ (x.cells ++ flat b) := by simp [flat]
  rw [e1, e2, List.append_assoc]
  have e3 : List.take (a.length * sz) (flat a ++ (y.cells ++ flat b)) = flat a := by rw [← h1]; exact List.take_left
  have e4 : List.drop (a.length * sz + sz) (flat a ++ (y.cells ++ flat b)) = flat b := by
    rw [← h1, ← h2, ← List.append_assoc, ← List.length_append]
    exact List.drop_left
  rw [e3, e4]
theorem fillS_F {sz : Nat} : ∀ (ps : List (Nat × FV)) (xs ys : List FV), (∀ x ∈ xs, x.cells.length = sz) → fillS sz xs ps = some ys →
    fillF (flat xs) (ps.map fun p => (p.1 * sz, sz, p.2)) = some (flat ys) ∧ (∀ x ∈ ys, x.cells.length = sz) ∧ ys.length = xs.length
  | [], xs, ys, hw, h => by simp only [fillS, Option.some.injEq] at h; subst h; exact ⟨rfl, hw, rfl⟩
  | (i, x) :: ps, xs, ys, hw, h => by
    simp only [fillS] at h
    split at h
    · rename_i hc
      obtain ⟨hi, hx, ho⟩ := hc
      have hw' : ∀ y ∈ xs.set i x, y.cells.length = sz := fun y hy => by
        rcases List.mem_or_eq_of_mem_set hy with hy | rfl
        · exact hw y hy
        · exact hx
      obtain ⟨h1, h2, h3⟩ := fillS_F ps _ ys hw' h
      refine ⟨?_, h2, by rw [h3]; simp⟩
      simp only [List.map_cons, fillF]
      have hl : i * sz + sz ≤ (flat xs).length := by
        rw [flat_length _ hw, ← Nat.succ_mul]
        exact Nat.mul_le_mul_right _ hi
      rw [if_pos ⟨hx, hl, ho⟩, ← flat_set xs i x hw hi hx]
      exact h1
    · cases h
end
section
variable {P : Program} {w : World} {O : Nat → Prop} {ρ : Rho} {B L : List Ent}
theorem parts2_rel (hh : Heap w O ρ B L) {nt : Nat} {val : Operand → Value} {g : Look} {fs : List Field} : ∀ (ps : List (Nat × Operand)) (qs : List (Nat × Nat × Opd)) (rs : List (Nat × Nat × FV)),
    (∀ x y, x ∈ ps.map (·.2) → trOpd nt x = some y → SvRel w (Av O ρ B L) ρ B L (val x) (g y)) → trParts2 P nt fs ps = some qs → parts2 B L g qs = some rs →
    ps.length = rs.length ∧ ∀ (j : Nat) (p : Nat × Operand) (r : Nat × Nat × FV), ps[j]? = some p → rs[j]? = some r → (∃ f, fs[p.1]? = some f ∧ f.offset = r.1 ∧ szOf P f.type = some r.2.1) ∧ Rd w (Av O ρ B L) (val p.2) r.2.2
  | [], qs, rs, hg, h1, h2 => by
    simp only [trParts2, Option.some.injEq] at h1; subst h1
    simp only [parts2, Option.some.injEq] at h2; subst h2
    simp
  | (i, x) :: ps, qs, rs, hg, h1, h2 => by
    simp only [trParts2, Option.bind_eq_some_iff, Option.map_eq_some_iff] at h1
    obtain ⟨f, hf, n, hn, y, hy, qs', hq, rfl⟩ := h1
    simp only [parts2, Option.bind_eq_some_iff, Option.map_eq_some_iff] at h2
    obtain ⟨v, hv, rs', hr, rfl⟩ := h2
    obtain ⟨k1, k2⟩ := parts2_rel hh ps qs' rs' (fun x y hx => hg x y (by simp [hx])) hq hr
    refine ⟨by simp [k1], fun j p r hp hr' => ?_⟩
    match j with
    | 0 =>
      simp at hp hr'; subst hp; subst hr'
      exact ⟨⟨f, hf, rfl, hn⟩, toFV_rd hh hv (hg x y (by simp) hy)⟩
    | j + 1 => exact k2 j p r (by simpa using hp) (by simpa using hr')
theorem parts1_rel (hh : Heap w O ρ B L) {nt : Nat} {val : Operand → Value} {g : Look} : ∀ (ps : List (Nat × Operand)) (qs : List (Nat × Opd)) (rs : List (Nat × FV)),
    (∀ x y, x ∈ ps.map (·.2) → trOpd nt x = some y → SvRel w (Av O ρ B L) ρ B L (val x) (g y)) → trParts1 nt ps = some qs → parts1 B L g qs = some rs →
    ps.length = rs.length ∧ ∀ (j : Nat) (p : Nat × Operand) (r : Nat × FV), ps[j]? = some p → rs[j]? = some r → p.1 = r.1 ∧ Rd w (Av O ρ B L) (val p.2) r.2
  | [], qs, rs, hg, h1, h2 => by
    simp only [trParts1, Option.some.injEq] at h1; subst h1
    simp only [parts1, Option.some.injEq] at h2; subst h2
    simp
  | (i, x) :: ps, qs, rs, hg, h1, h2 => by
    simp only [trParts1, Option.bind_eq_some_iff, Option.map_eq_some_iff] at h1
    obtain ⟨y, hy, qs', hq, rfl⟩ := h1
    simp only [parts1, Option.bind_eq_some_iff, Option.map_eq_some_iff] at h2
    obtain ⟨v, hv, rs', hr, rfl⟩ := h2
    obtain ⟨k1, k2⟩ := parts1_rel hh ps qs' rs' (fun x y hx => hg x y (by simp [hx])) hq hr
    refine ⟨by simp [k1], fun j p r hp hr' => ?_⟩
    match j with
    | 0 =>
      simp at hp hr'; subst hp; subst hr'
      exact ⟨rfl, toFV_rd hh hv (hg x y (by simp) hy)⟩
    | j + 1 => exact k2 j p r (by simpa using hp) (by simpa using hr')
theorem toFVs_rel (hh : Heap w O ρ B L) : ∀ (ss : List SV) (vs : List Value) (xs : List FV), toFVs B L ss = some xs → vs.length = ss.length →
    (∀ (j : Nat) (v : Value) (s : SV), vs[j]? = some v → ss[j]? = some s → SvRel w (Av O ρ B L) ρ B L v s) →
    xs.length = ss.length ∧ ∀ (j : Nat) (v : Value) (x : FV), vs[j]? = some v → xs[j]? = some x → Rd w (Av O ρ B L) v x
  | [], vs, xs, h, hl, hr => by simp only [toFVs, Option.some.injEq] at h; subst h; simp
  | s :: ss, [], xs, h, hl, hr => by simp at hl
  | s :: ss, v :: vs, xs, h, hl, hr => by
    simp only [toFVs, Option.bind_eq_some_iff, Option.map_eq_some_iff] at h
    obtain ⟨x, hx, ys, hy, rfl⟩ := h
    obtain ⟨k1, k2⟩ := toFVs_rel hh ss vs ys hy (by simpa using hl) (fun j v s hv hs => hr (j + 1) v s (by simpa using hv) (by simpa using hs))
    refine ⟨by simp [k1], fun j u z hu hz => ?_⟩
    match j with
    | 0 => simp at hu hz; subst hu; subst hz; exact toFV_rd hh hx (hr 0 _ _ rfl rfl)
    | j + 1 => exact k2 j u z (by simpa using hu) (by simpa using hz)
theorem mkCaps_rel (hh : Heap w O ρ B L) : ∀ (ss : List SV) (vs : List Value) (cs : List Cap), mkCaps B L ss = some cs → vs.length = ss.length →
    (∀ (j : Nat) (v : Value) (s : SV), vs[j]? = some v → ss[j]? = some s → SvRel w (Av O ρ B L) ρ B L v s) →
    cs.length = ss.length ∧ ∀ (j : Nat) (v : Value) (c : Cap), vs[j]? = some v → cs[j]? = some c → CapRel w (Av O ρ B L) ρ B L v c
  | [], vs, xs, h, hl, hr => by simp only [mkCaps, Option.some.injEq] at h; subst h; simp
  | s :: ss, [], xs, h, hl, hr => by simp at hl
  | s :: ss, v :: vs, xs, h, hl, hr => by
    simp only [mkCaps, Option.bind_eq_some_iff, Option.map_eq_some_iff] at h
    obtain ⟨c, hc, ys, hy, rfl⟩ := h
    obtain ⟨k1, k2⟩ := mkCaps_rel hh ss vs ys hy (by simpa using hl) (fun j v s hv hs => hr (j + 1) v s (by simpa using hv) (by simpa using hs))
    refine ⟨by simp [k1], fun j u z hu hz => ?_⟩
    match j with
    | 0 =>
      simp at hu hz; subst hu; subst hz
      have h0 := hr 0 _ _ rfl rfl
      unfold mkCap at hc
      split at hc
      · rename_i id sz
        split at hc
        · split at hc
          · injection hc with hc; subst hc
            obtain ⟨h1, h2⟩ := h0
            exact ⟨h1, by simpa using h2⟩
          · cases hc
        · rename_i sz' x he
          split at hc
          · rename_i hs
            injection hc with hc; subst hc; subst hs
            obtain ⟨k1, k2, k3, k4, k5⟩ := hh.frz _ _ _ he
            obtain ⟨_, rfl⟩ := h0
            have := rd_elem (i := 0) k1 k2 k3 k5 (x := x) rfl
            exact this
          · cases hc
        · cases hc
      · obtain ⟨x, hx, rfl⟩ := Option.map_eq_some_iff.1 hc
        exact toFV_rd hh hx h0
    | j + 1 => exact k2 j u z (by simpa using hu) (by simpa using hz)
end
end Go.Ab
namespace Go.Ab
section
variable {P : Program} {w : World} {O : Nat → Prop} {ρ : Rho} {B L : List Ent}
theorem fvOf_okPart {v : Value} {x : FV} (h : fvOf v = some x) : okPart x = true := by
  rcases (fvOf_rd h default (fun _ => False)).2 with h | ⟨cs, rfl⟩
  · cases x <;> first | rfl | (simp [FV.one] at h)
  · rfl
theorem zeroOf_run {t : TypeId} {z : FV} (h : zeroOf P t = some z) : ∃ v, (∀ w, (zeroValue t).run P w = .ok v w) ∧ (∀ w A, Rd w A v z) ∧ okPart z = true ∧ ∀ (w : World) A, CellsRel w A v.cells z.cells := by
  unfold zeroOf at h
  simp only [Option.bind_eq_some_iff] at h
  obtain ⟨i, hi, v, hv, hz⟩ := h
  refine ⟨v, fun w => by simp [zeroValue, typeInfo, hi, hv], fun w A => (fvOf_rd hz w A).1, fvOf_okPart hz, fun w A => Rd.cellsRel (fvOf_rd hz w A).1 (fvOf_okPart hz)⟩
theorem flat_replicate {z : FV} {n j : Nat} (hz : 0 < z.cells.length) (hj : j < n * z.cells.length) : (flat (List.replicate n z))[j]? = z.cells[j % z.cells.length]? := by
  have hi : j / z.cells.length < n := Nat.div_lt_of_lt_mul (by rw [Nat.mul_comm]; exact hj)
  have e : j = j / z.cells.length * z.cells.length + j % z.cells.length := by rw [Nat.mul_comm]; exact (Nat.div_add_mod j _).symm
  conv => lhs; rw [e]
  rw [getElem?_flat (sz := z.cells.length) _ _ z (fun x hx => by rw [List.eq_of_mem_replicate hx]) (by rw [List.getElem?_replicate, if_pos hi]) _ (Nat.mod_lt _ hz)]
theorem zeros_rel {A : Nat → Prop} {zv : Value} {z : FV} {n sz : Nat} (hr : CellsRel w A zv.cells z.cells) (hs : z.cells.length = sz) (hz : 0 < sz) :
    CellsRel w A ((Array.range (n * sz)).map fun i => zv.cells[i % zv.cells.size]!) (flat (List.replicate n z)) := by
  subst hs
  have hl : (flat (List.replicate n z)).length = n * z.cells.length := by
    rw [flat_length (sz := z.cells.length) _ (fun x hx => by rw [List.eq_of_mem_replicate hx])]; simp
  have hsz : zv.cells.size = z.cells.length := hr.1
  refine ⟨by rw [hl]; simp, fun x hx => ?_, fun j v x hv hx => ?_⟩
  · obtain ⟨y, hy, hx⟩ := List.mem_flatMap.1 hx
    rw [List.eq_of_mem_replicate hy] at hx
    exact hr.2.1 x hx
  · have hj : j < n * z.cells.length := by have := (List.getElem?_eq_some_iff.1 hx).1; omega
    rw [flat_replicate hz hj] at hx
    have hm : j % z.cells.length < zv.cells.size := by rw [hsz]; exact Nat.mod_lt _ hz
    simp only [At, Array.getElem?_map, Array.getElem?_range, hj, if_true, Option.map_some, Option.some.injEq] at hv
    subst hv
    refine hr.2.2 (j % z.cells.length) _ x ?_ hx
    rw [At, hsz]
    rw [← hsz] at hm ⊢
    simp [hm]
theorem run_places {fs : List Field} (h : fs.all (fun f => (szOf P f.type).isSome) = true) (w : World) :
    (List.mapM (fun f : Field => (do pure (f.offset, ← sizeOf f.type) : Sem (Nat × Nat))) fs).run P w = .ok (fs.map fun f => (f.offset, (szOf P f.type).getD 0)) w := by
  induction fs with
  | nil => simp
  | cons f fs ih =>
    simp only [List.all_cons, Bool.and_eq_true] at h
    obtain ⟨n, hn⟩ := Option.isSome_iff_exists.1 h.1
    simp only [List.mapM_cons, Sem.run_bind, run_sizeOf hn, Sem.run_pure, Result.andThen_ok, ih h.2, List.map_cons, hn, Option.getD_some]
theorem build_run (hh : Heap w O ρ B L) {nt : Nat} {val : Operand → Value} {g : Look} {t : TypeId} {fs : List Field} {z : FV} {ps : Array (Nat × Operand)} {qs : List (Nat × Nat × Opd)} {rs : List (Nat × Nat × FV)} {cs : List FV}
    (h1 : structOf P t = some fs) (h2 : zeroOf P t = some z) (h3 : fs.all (fun f => (szOf P f.type).isSome) = true) (h4 : trParts2 P nt fs ps.toList = some qs)
    (hg : ∀ x y, x ∈ ps.toList.map (·.2) → trOpd nt x = some y → SvRel w (Av O ρ B L) ρ B L (val x) (g y)) (h5 : parts2 B L g qs = some rs) (h6 : fillF z.cells rs = some cs) :
    ∃ v, (Instr.build t (ps.map fun (i, x) => (i, val x))).run P w = .ok v w ∧ Rd w (Av O ρ B L) v (.agg cs) := by
  obtain ⟨zv, hz1, hz2, hz3, hz4⟩ := zeroOf_run h2
  unfold structOf at h1
  split at h1
  · rename_i fa hu
    injection h1 with h1; subst h1
    obtain ⟨k1, k2⟩ := parts2_rel hh _ _ _ hg h4 h5
    have hok := fillF_okPart _ _ _ h6
    have hpl := run_places (P := P) h3 w
    obtain ⟨out, ho1, ho2⟩ := fill_run (w := w) (A := Av O ρ B L) (place := fun i => (fa.toList.map fun f => (f.offset, (szOf P f.type).getD 0))[i]?) (ps.toList.map fun p => (p.1, val p.2)) rs zv.cells z.cells cs (hz4 w _) (by simpa using k1)
      (fun j p r hp hr => by
        simp only [List.getElem?_map, Option.map_eq_some_iff] at hp
        obtain ⟨p0, hp0, rfl⟩ := hp
        obtain ⟨⟨f, hf, e1, e2⟩, e3⟩ := k2 j p0 r hp0 hr
        refine ⟨by simp [hf, e1, e2], Rd.cellsRel e3 (hok r (List.mem_of_getElem? hr))⟩) h6
    refine ⟨.agg out, ?_, .agg _ _ ho2.1 ho2.2.1 ho2.2.2⟩
    unfold Instr.build
    simp only [Sem.run_bind, hz1, Result.andThen_ok, run_underlying hu, Array.mapM_eq_mapM_toList, Sem.run_map, hpl]
    have e : (fun x : Nat => ((fa.toList.map fun f => (f.offset, (szOf P f.type).getD 0)).toArray[x]? : Option (Nat × Nat))) = fun i : Nat => ((fa.toList.map fun f => (f.offset, (szOf P f.type).getD 0))[i]? : Option (Nat × Nat)) := by
      funext i; rw [List.getElem?_toArray]
    have e2 : (ps.map fun (p : Nat × Operand) => (p.1, val p.2)).toList = ps.toList.map fun p => (p.1, val p.2) := by simp
    rw [e, e2, ho1]
    rfl
  · cases h1
theorem Heap.alloc_ext (hh : Heap w O ρ B L) (o : Obj) : Chg (fun _ => False) w (w.alloc o) := Chg.alloc _ _ _
theorem slice_of_cells {A : Nat → Prop} {cells : Array Value} {xs : List FV} {sz : Nat} {t : TypeId} {tg : Tag} (hc : CellsRel w A cells (flat xs)) (hz : 0 < sz) (hw : ∀ x ∈ xs, x.cells.length = sz) (hA : ∀ b, A b → b < w.heap.size)
    (ht : tg = .full ∨ tg = .any) :
    Rd (w.alloc (.cells cells t)) A (.slice (some ⟨w.heap.size, 0, none⟩) xs.length xs.length) (.sl tg xs) := by
  have hrd : ∀ {v x}, Rd w A v x → Rd (w.alloc (.cells cells t)) A v x := fun h => Rd.chg h (Chg.alloc _ _ _)
  have ht' : ∀ a, TagOK tg a xs.length xs.length := fun a => by rcases ht with rfl | rfl <;> simp [TagOK]
  by_cases hx : xs = []
  · subst hx; exact .slE _ _ _ (ht' _)
  · refine Rd.sl tg xs sz w.heap.size 0 xs.length (fun j => cells[j]?.getD undef) hz hx (Nat.le_refl _) (fun x hx => ⟨hw x hx, fun y hy => hc.2.1 y (List.mem_flatMap.2 ⟨x, hx, hy⟩)⟩)
      (fun h => absurd (hA _ h) (Nat.lt_irrefl _)) (fun j hj => ?_) (fun j x hx => ?_) (ht' _)
    · have hj' : j < cells.size := by rw [hc.1]; exact hj
      rw [Nat.zero_add, World.cell?_alloc_new]
      simp [hj']
    · have hj' : j < cells.size := by rw [hc.1]; exact (List.getElem?_eq_some_iff.1 hx).1
      refine hrd (hc.2.2 j _ x ?_ hx)
      simp [At, hj']
theorem Heap.avLt (hh : Heap w O ρ B L) (b : Nat) (h : Av O ρ B L b) : b < w.heap.size := by
  rcases h with h | ⟨i, hi, rfl⟩
  · exact hh.oLt b h
  · cases he : ent B L i with
    | own sz xs =>
      obtain ⟨_, _, _, _, cur, t, h5, _⟩ := hh.own i sz xs he
      exact (Array.getElem?_eq_some_iff.1 h5).1
    | dead => rw [he] at hi; simp [Ent.isOwn] at hi
    | frz sz xs => rw [he] at hi; simp [Ent.isOwn] at hi
theorem bsl_run (hh : Heap w O ρ B L) {nt : Nat} {val : Operand → Value} {g : Look} {t e : TypeId} {z : FV} {sz n : Nat} {ps : Array (Nat × Operand)} {qs : List (Nat × Opd)} {rs : List (Nat × FV)} {xs : List FV}
    (h1 : P.underlying t = some (.slice e)) (h0 : szOf P e = some sz) (h2 : zeroOf P e = some z) (h4 : trParts1 nt ps.toList = some qs)
    (hg : ∀ x y, x ∈ ps.toList.map (·.2) → trOpd nt x = some y → SvRel w (Av O ρ B L) ρ B L (val x) (g y)) (h5 : parts1 B L g qs = some rs) (hz : 0 < sz) (hzl : z.cells.length = sz) (hn : n * sz ≤ 16777216)
    (h6 : fillS sz (List.replicate n z) rs = some xs) :
    Gives P w O ρ B L ((Instr.buildSlice t n (ps.map fun (i, x) => (i, val x))).run P w) (.fv (.sl .full xs)) := by
  obtain ⟨zv, hz1, hz2, hz3, hz4⟩ := zeroOf_run h2
  obtain ⟨k1, k2⟩ := parts1_rel hh _ _ _ hg h4 h5
  obtain ⟨f1, f2, f3⟩ := fillS_F _ _ _ (fun x hx => by rw [List.eq_of_mem_replicate hx]; exact hzl) h6
  have hok := fillF_okPart _ _ _ f1
  have hzr : CellsRel w (Av O ρ B L) ((Array.range (n * sz)).map fun i => (if n * sz = 0 then #[] else zv.cells)[i % (if n * sz = 0 then #[] else zv.cells).size]!) (flat (List.replicate n z)) := by
    by_cases h0 : n * sz = 0
    · have hn0 : n = 0 := by rcases Nat.mul_eq_zero.1 h0 with h | h <;> omega
      subst hn0
      simp [CellsRel, flat]
    · simp only [h0, if_false]
      exact zeros_rel (hz4 w _) hzl hz
  obtain ⟨out, ho1, ho2⟩ := fill_run (w := w) (A := Av O ρ B L) (place := fun i => some (i * sz, sz)) (ps.toList.map fun p => (p.1, val p.2)) _ _ _ (flat xs) hzr (by simpa using k1)
    (fun j p r hp hr => by
      simp only [List.getElem?_map, Option.map_eq_some_iff] at hp hr
      obtain ⟨p0, hp0, rfl⟩ := hp
      obtain ⟨r0, hr0, rfl⟩ := hr
      obtain ⟨e1, e3⟩ := k2 j p0 r0 hp0 hr0
      refine ⟨by simp [e1], Rd.cellsRel e3 (hok (r0.1 * sz, sz, r0.2) (List.mem_map.2 ⟨r0, List.mem_of_getElem? hr0, rfl⟩))⟩) f1
  have hlen : xs.length = n := by rw [f3]; simp
  refine ⟨.slice (some ⟨w.heap.size, 0, none⟩) n n, w.alloc (.cells out e), ?_, Chg.alloc _ _ _, ?_⟩
  · unfold Instr.buildSlice
    simp only [Sem.run_bind, run_underlying h1, Result.andThen_ok, run_sizeOf h0]
    rw [if_neg (by omega)]
    by_cases h0 : n * sz = 0
    · simp only [h0, if_true, Sem.run_bind, Sem.run_pure, Result.andThen_ok] at ho1 ⊢
      have e2 : (ps.map fun (p : Nat × Operand) => (p.1, val p.2)).toList = ps.toList.map fun p => (p.1, val p.2) := by simp
      rw [e2, ho1]
      simp [newRow]
    · simp only [h0, if_false, Sem.run_bind, Sem.run_pure, hz1, Result.andThen_ok] at ho1 ⊢
      have e2 : (ps.map fun (p : Nat × Operand) => (p.1, val p.2)).toList = ps.toList.map fun p => (p.1, val p.2) := by simp
      rw [e2, ho1]
      simp [newRow]
  · have := slice_of_cells (t := e) (tg := .full) ho2 hz f2 hh.avLt (.inl rfl)
    rw [hlen] at this
    exact this
end
end Go.Ab
namespace Go.Ab
section
variable {P : Program} {w : World} {O : Nat → Prop} {ρ : Rho} {B L : List Ent}
def Ops (P : Program) (nt : Nat) (w : World) (O : Nat → Prop) (ρ : Rho) (B L : List Ent) (val : Operand → Value) (g : Look) (o : Op) : Prop :=
  ∀ x y, x ∈ o.operands → trOpd nt x = some y → SvRel w (Av O ρ B L) ρ B L (val x) (g y)
theorem trOpds_get {nt : Nat} : ∀ (xs : List Operand) (ys : List Opd), trOpds nt xs = some ys → xs.length = ys.length ∧ ∀ (j : Nat) (x : Operand) (y : Opd), xs[j]? = some x → ys[j]? = some y → trOpd nt x = some y
  | [], ys, h => by simp only [trOpds, Option.some.injEq] at h; subst h; simp
  | x :: xs, ys, h => by
    simp only [trOpds, Option.bind_eq_some_iff, Option.map_eq_some_iff] at h
    obtain ⟨y, hy, ys', hs, rfl⟩ := h
    obtain ⟨k1, k2⟩ := trOpds_get xs ys' hs
    refine ⟨by simp [k1], fun j a b ha hb => ?_⟩
    match j with
    | 0 => simp at ha hb; subst ha; subst hb; exact hy
    | j + 1 => exact k2 j a b (by simpa using ha) (by simpa using hb)
theorem opds_rel {nt : Nat} {val : Operand → Value} {g : Look} {xs : List Operand} {ys : List Opd} (h : trOpds nt xs = some ys)
    (hg : ∀ x y, x ∈ xs → trOpd nt x = some y → SvRel w (Av O ρ B L) ρ B L (val x) (g y)) :
    (xs.map val).length = (ys.map g).length ∧ ∀ (j : Nat) (v : Value) (s : SV), (xs.map val)[j]? = some v → (ys.map g)[j]? = some s → SvRel w (Av O ρ B L) ρ B L v s := by
  obtain ⟨k1, k2⟩ := trOpds_get xs ys h
  refine ⟨by simp [k1], fun j v s hv hs => ?_⟩
  simp only [List.getElem?_map, Option.map_eq_some_iff] at hv hs
  obtain ⟨x, hx, rfl⟩ := hv
  obtain ⟨y, hy, rfl⟩ := hs
  exact hg x y (List.mem_of_getElem? hx) (k2 j x y hx hy)
theorem trOpt_rel {nt : Nat} {val : Operand → Value} {g : Look} {x : Option Operand} {y : Option Opd} (h : trOpt nt x = some y)
    (hg : ∀ a b, x = some a → trOpd nt a = some b → SvRel w (Av O ρ B L) ρ B L (val a) (g b)) : OptRel w O ρ B L (x.map val) (y.map g) := by
  cases x with
  | none => simp only [trOpt, Option.some.injEq] at h; subst h; trivial
  | some a =>
    simp only [trOpt, Option.map_eq_some_iff] at h
    obtain ⟨b, hb, rfl⟩ := h
    exact hg a b rfl hb
theorem sliceOf_und {t e : TypeId} (h : sliceOf P t = some e) : P.underlying t = some (.slice e) := by
  unfold sliceOf at h; split at h <;> first | (injection h with h; subst h; assumption) | (cases h)
theorem structOf_und {t : TypeId} {fs : List Field} (h : structOf P t = some fs) : ∃ fa, P.underlying t = some (.struct fa) ∧ fs = fa.toList := by
  unfold structOf at h; split at h <;> first | (injection h with h; exact ⟨_, by assumption, h.symm⟩) | (cases h)
theorem fld_run {t : TypeId} {fs : List Field} {i : Nat} {f : Field} {ag : Bool} {n : Nat} {v : Value} {cs : List FV} {y : FV} (h1 : structOf P t = some fs) (h2 : fs[i]? = some f) (h3 : agOf P f.type = some ag) (h4 : szOf P f.type = some n)
    (hr : Rd w (Av O ρ B L) v (.agg cs)) (h : (if ag then (if f.offset + n ≤ cs.length then some (FV.agg (cutL cs f.offset n)) else none) else cs[f.offset]?) = some y) :
    ∃ u, (Instr.field t v i).run P w = .ok u w ∧ Rd w (Av O ρ B L) u y := by
  obtain ⟨fa, hu, rfl⟩ := structOf_und h1
  cases hr with
  | agg vs cs hl ho hr =>
    have hf : fa[i]? = some f := by simpa using h2
    unfold Instr.field
    simp only [Sem.run_bind, run_underlying hu, Result.andThen_ok, hf, asAgg, Sem.run_pure, part, run_isAgg h3]
    cases ag with
    | true =>
      simp only [if_true] at h
      split at h
      · rename_i hle
        injection h with h; subst h
        refine ⟨.agg (vs.extract f.offset (f.offset + n)), by simp [run_sizeOf h4], .agg _ _ ?_ (fun x hx => ho x (mem_cutL hx)) fun j v x hv hx => ?_⟩
        · simp [cutL]; omega
        · have hj : j < n := by have := (List.getElem?_eq_some_iff.1 hx).1; simp [cutL] at this; omega
          refine hr (f.offset + j) v x ?_ ?_
          · have hs := At_lt hv
            simp only [At, Array.getElem?_extract] at hv
            split at hv
            · exact hv
            · cases hv
          · simpa [cutL, hj] using hx
      · cases h
    | false =>
      simp only [Bool.false_eq_true, if_false] at h
      have hj : f.offset < vs.size := by rw [hl]; exact (List.getElem?_eq_some_iff.1 h).1
      refine ⟨vs[f.offset], by simp [hj], hr f.offset _ _ (by simp [At, hj]) h⟩
theorem fieldPlace_run {f : Field} {n b o : Nat} (h : szOf P f.type = some n) (hn : 0 < n) : (fieldPlace ⟨b, o, none⟩ f).run P w = .ok ⟨b, o + f.offset, none⟩ w := by
  unfold fieldPlace
  simp only [Sem.run_bind, run_sizeOf h, Result.andThen_ok]
  rw [if_neg (by omega)]
  simp [add_plain]
theorem ldElem_ptr {A : Nat → Prop} {ag : Bool} {n off b o : Nat} {x y : FV} {f : Nat → Value} (hn : 0 < n) (h1 : ∀ z ∈ x.cells, z.one = true) (hb : ¬ A b)
    (hf : ∀ j, j < x.cells.length → w.cell? ⟨b, o + j, none⟩ = some (f j)) (hr : ∀ j z, x.cells[j]? = some z → Rd w A (f j) z) (h : ldElem ag n off x = some y) (hag : ag = false → n = 1) :
    Rd w A (.pointer (some ⟨b, o + off, none⟩)) (.ptr y) := by
  obtain ⟨hle, hrd⟩ := ldElem_rd (w := w) (A := A) (f := f) h1 hr h
  have hy : y.cells.length = (if ag then n else 1) ∧ (∀ z ∈ y.cells, z.one = true) ∧ ∀ j z, y.cells[j]? = some z → Rd w A (f (off + j)) z := by
    cases ag with
    | true =>
      simp only [if_true] at hrd
      cases hrd with
      | agg vs cs hl ho hr' =>
        simp only [FV.cells]
        refine ⟨by simpa using hl.symm, ho, fun j z hz => ?_⟩
        have hj : j < n := by have := (List.getElem?_eq_some_iff.1 hz).1; simp at hl; omega
        have := hr' j (f (off + j)) z (by simp [At, hj]) hz
        exact this
    | false =>
      simp only [Bool.false_eq_true, if_false] at hrd
      have hone : y.one = true := by
        unfold ldElem at h
        split at h
        · rename_i hc
          injection h with h; subst h
          simp only [FV.fits, Bool.and_eq_true] at hc
          exact hc.2.1
        · simp only [Bool.false_eq_true, if_false] at h
          split at h
          · exact h1 y (List.mem_of_getElem? h)
          · cases h
      have hc : y.cells = [y] := by cases y <;> first | rfl | (simp [FV.one] at hone)
      rw [hc]
      refine ⟨rfl, by simpa using hone, fun j z hz => ?_⟩
      match j with
      | 0 => simp at hz; subst hz; exact hrd
      | j + 1 => simp at hz
  refine Rd.ptr y b (o + off) (fun j => f (off + j)) ?_ hy.2.1 hb (fun j hj => ?_) hy.2.2
  · rw [hy.1]; split <;> omega
  · rw [Nat.add_assoc]; exact hf _ (by rw [hy.1] at hj; omega)
theorem idx_run {t e : TypeId} {sz len cap b o : Nat} {k : IntKind} {n : Int} (h1 : P.underlying t = some (.slice e)) (h2 : szOf P e = some sz) (h0 : 0 ≤ n) (hl : n < len) :
    (Instr.indexAt t (.slice (some ⟨b, o, none⟩) len cap) (.int k n)).run P w = .ok (.pointer (some ⟨b, o + n.toNat * sz, none⟩)) w := by
  unfold Instr.indexAt
  simp only [asIntOf, Sem.run_bind, Sem.run_pure, Result.andThen_ok, run_underlying h1]
  rw [if_pos ⟨h0, hl⟩]
  simp [run_sizeOf h2, add_plain]
theorem Rd.inv_bool {A : Nat → Prop} {v : Value} {b : Bool} (h : Rd w A v (.bool b)) : v = .bool b := by cases h; rfl
theorem Rd.inv_int {A : Nat → Prop} {v : Value} {k : IntKind} {n : Int} (h : Rd w A v (.int k n)) : v = .int k n := by cases h; rfl
theorem Rd.inv_str {A : Nat → Prop} {v : Value} {s : ByteArray} (h : Rd w A v (.str s)) : v = .string s := by cases h; rfl
theorem Rd.inv_ptr {A : Nat → Prop} {v : Value} {x : FV} (h : Rd w A v (.ptr x)) : ∃ (b o : Nat) (f : Nat → Value), v = .pointer (some ⟨b, o, none⟩) ∧ 0 < x.cells.length ∧ (∀ y ∈ x.cells, y.one = true) ∧ ¬ A b ∧
    (∀ j, j < x.cells.length → w.cell? ⟨b, o + j, none⟩ = some (f j)) ∧ ∀ j y, x.cells[j]? = some y → Rd w A (f j) y := by
  cases h with
  | ptr x b o f hx h1 ho hf hr => exact ⟨b, o, f, rfl, hx, h1, ho, hf, hr⟩
theorem Rd.inv_fn {A : Nat → Prop} {v : Value} {f : Fn} {first caps : List FV} (h : Rd w A v (.fn f first caps)) : ∃ fs cs, v = .func f fs cs ∧ fs.size = first.length ∧ cs.size = caps.length ∧
    (∀ j u x, At fs j = some u → first[j]? = some x → Rd w A u x) ∧ ∀ j u x, At cs j = some u → caps[j]? = some x → Rd w A u x := by
  cases h with
  | fn g fs cs first caps hf hc h1 h2 => exact ⟨fs, cs, rfl, hf, hc, h1, h2⟩
theorem Rd.inv_tup {A : Nat → Prop} {v : Value} {xs : List FV} (h : Rd w A v (.tup xs)) : ∃ vs, v = .tuple vs ∧ vs.size = xs.length ∧ ∀ j u x, At vs j = some u → xs[j]? = some x → Rd w A u x := by
  cases h with
  | tup vs cs hl h => exact ⟨vs, rfl, hl, h⟩
theorem Gives.fv {r : Result Value} {x : FV} {v : Value} (h : r = .ok v w) (hs : Rd w (Av O ρ B L) v x) : Gives P w O ρ B L r (.fv x) := ⟨v, w, h, Chg.refl _ _, hs⟩
set_option maxHeartbeats 1000000 in
theorem evQ_run {nt : Nat} {val : Operand → Value} {g : Look} {call : Disp} (o : Oper) {io : IOp} {s : SV} (hh : Heap w O ρ B L) (hg : Ops P nt w O ρ B L val g o.op)
    (htr : trOp P nt o.op = some io) (hnc : ∀ f as, io ≠ .call f as) (h : evQ call io g B L = some s) :
    ∃ v w', (execOp val o).run P w = .ok (.value v) w' ∧ Chg (fun _ => False) w w' ∧ SvRel w' (Av O ρ B L) ρ B L v s := by
  obtain ⟨dst, op, type, pos, after, guard⟩ := o
  have mv : ∀ (x : Operand), x ∈ op.operands → (trOpd nt x).map IOp.mv = some io → (∀ w, (execOp val ⟨dst, op, type, pos, after, guard⟩).run P w = .ok (.value (val x)) w) →
      ∃ v w', (execOp val ⟨dst, op, type, pos, after, guard⟩).run P w = .ok (.value v) w' ∧ Chg (fun _ => False) w w' ∧ SvRel w' (Av O ρ B L) ρ B L v s := by
    intro x hx ht hrun
    obtain ⟨y, hy, rfl⟩ := Option.map_eq_some_iff.1 ht
    have hr := hg x y hx hy
    simp only [evQ] at h
    split at h
    · cases h
    · injection h with h; subst h
      exact ⟨_, w, hrun w, Chg.refl _ _, hr⟩
  cases op <;> simp only [trOp] at htr
  case move x => exact mv x (by simp [Op.operands]) htr (fun w => rfl)
  case assign x => exact mv x (by simp [Op.operands]) htr (fun w => rfl)
  case pick c a b =>
    simp only [Option.bind_eq_some_iff, Option.map_eq_some_iff] at htr
    obtain ⟨c', hc, a', ha, b', hb, rfl⟩ := htr
    have h1 := hg c c' (by simp [Op.operands]) hc
    have h2 := hg a a' (by simp [Op.operands]) ha
    have h3 := hg b b' (by simp [Op.operands]) hb
    simp only [evQ] at h
    split at h
    · rename_i t ht
      rw [ht] at h1
      have hv : val c = .bool t := Rd.inv_bool h1
      split at h
      · cases h
      · injection h with h; subst h
        refine ⟨_, w, by simp only [execOp, hv, asBool, Sem.run_bind, Sem.run_pure, Result.andThen_ok]; rfl, Chg.refl _ _, ?_⟩
        cases t
        · exact h3
        · exact h2
    · cases h
  case box e x => simp only [Option.bind_eq_some_iff, Option.map_eq_some_iff] at htr; obtain ⟨_, _, _, _, rfl⟩ := htr; simp [evQ] at h
  case alloc e => simp only [Option.bind_eq_some_iff, Option.map_eq_some_iff] at htr; obtain ⟨_, _, _, _, rfl⟩ := htr; simp [evQ] at h
  case store t a x => simp only [Option.bind_eq_some_iff, Option.map_eq_some_iff] at htr; obtain ⟨_, _, _, _, _, _, rfl⟩ := htr; simp [evQ] at h
  case makeSlice t l c => simp only [Option.bind_eq_some_iff, Option.map_eq_some_iff] at htr; obtain ⟨_, _, _, _, _, _, _, _, _, _, _, _, rfl⟩ := htr; simp [evQ] at h
  case build t ps =>
    simp only [Option.bind_eq_some_iff] at htr
    obtain ⟨fs, h1, z, h2, htr⟩ := htr
    split at htr
    · rename_i h3
      obtain ⟨qs, h4, rfl⟩ := Option.map_eq_some_iff.1 htr
      simp only [evQ, Option.bind_eq_some_iff, Option.map_eq_some_iff] at h
      obtain ⟨rs, h5, cs, h6, rfl⟩ := h
      obtain ⟨v, hv1, hv2⟩ := build_run hh h1 h2 h3 h4 (fun x y hx => hg x y (by simpa [Op.operands] using hx)) h5 h6
      exact (Gives.fv (P := P) hv1 hv2).exec rfl
    · cases htr
  case buildSlice t n ps =>
    simp only [Option.bind_eq_some_iff, Option.map_eq_some_iff] at htr
    obtain ⟨e, h1, sz, h0, z, h2, qs, h4, rfl⟩ := htr
    simp only [evQ] at h
    split at h
    · rename_i hc
      obtain ⟨hz, hzl, _, hn⟩ := hc
      simp only [Option.bind_eq_some_iff, Option.map_eq_some_iff] at h
      obtain ⟨rs, h5, xs, h6, rfl⟩ := h
      exact (bsl_run hh (sliceOf_und h1) h0 h2 h4 (fun x y hx => hg x y (by simpa [Op.operands] using hx)) h5 hz hzl hn h6).exec rfl
    · cases h
  case load t a =>
    simp only [Option.bind_eq_some_iff, Option.map_eq_some_iff] at htr
    obtain ⟨ag, h1, n, h2, y, hy, rfl⟩ := htr
    have hr := hg a y (by simp [Op.operands]) hy
    simp only [evQ] at h
    split at h
    · rename_i x hx
      rw [hx] at hr
      obtain ⟨z, hz, rfl⟩ := Option.map_eq_some_iff.1 h
      obtain ⟨u, hu1, hu2⟩ := load_ptr h1 h2 hr hz
      exact (Gives.fv (P := P) hu1 hu2).exec rfl
    · rename_i id sz i c hx
      rw [hx] at hr
      obtain ⟨_, hv⟩ := hr
      have key : ∀ sz2 xs, (ent B L id = .own sz2 xs ∨ ent B L id = .frz sz2 xs) → (if sz = sz2 then (xs[i]?).bind fun y => (ldElem ag n c y).map SV.fv else none) = some s →
          ∃ v w', (execOp val ⟨dst, .load t a, type, pos, after, guard⟩).run P w = .ok (.value v) w' ∧ Chg (fun _ => False) w w' ∧ SvRel w' (Av O ρ B L) ρ B L v s := by
        intro sz2 xs he h
        split at h
        · rename_i hs
          subst hs
          simp only [Option.bind_eq_some_iff, Option.map_eq_some_iff] at h
          obtain ⟨x, hx, z, hz, rfl⟩ := h
          obtain ⟨k1, k2, k3⟩ := entRd hh he
          obtain ⟨u, hu1, hu2⟩ := load_elem h1 h2 k2 k3 hx hz
          refine (Gives.fv (P := P) ?_ hu2).exec rfl
          simp only [Instr.loadAt, hv, Instr.sureAddr, Sem.run_bind, Sem.run_pure, Result.andThen_ok]
          exact hu1
        · cases h
      split at h
      · rename_i sz2 xs he; exact key _ _ (.inl he) h
      · rename_i sz2 xs he; exact key _ _ (.inr he) h
      · cases h
    · cases h
  case nilCheck x =>
    obtain ⟨y, hy, rfl⟩ := Option.map_eq_some_iff.1 htr
    have hr := hg x y (by simp [Op.operands]) hy
    simp only [evQ] at h
    split at h
    · rename_i z hz
      rw [hz] at hr
      injection h with h; subst h
      obtain ⟨b, o, f, hv, _⟩ := Rd.inv_ptr hr
      exact ⟨_, w, by simp only [execOp, hv]; rfl, Chg.refl _ _, by rw [hv] at hr; exact hr⟩
    · rename_i id sz i c hz
      rw [hz] at hr
      injection h with h; subst h
      obtain ⟨h1, h2⟩ := hr
      exact ⟨_, w, by simp only [execOp, h2]; rfl, Chg.refl _ _, ⟨h1, rfl⟩⟩
    · rename_i f a b hz
      rw [hz] at hr
      split at h
      · cases h
      · rename_i hnm
        injection h with h; subst h
        obtain ⟨fs, cs, hv, _⟩ := Rd.inv_fn hr
        refine ⟨_, w, ?_, Chg.refl _ _, by rw [hv] at hr; exact hr⟩
        simp only [execOp, hv]
        cases f <;> first | rfl | (exact absurd rfl (hnm _))
    · rename_i f a b hz
      rw [hz] at hr
      split at h
      · cases h
      · rename_i hnm
        injection h with h; subst h
        obtain ⟨fs, cs, e, hrest⟩ := hr
        refine ⟨_, w, ?_, Chg.refl _ _, ⟨fs, cs, rfl, hrest⟩⟩
        simp only [execOp, e]
        cases f <;> first | rfl | (exact absurd rfl (hnm _))
    · cases h
  case binOp op t x y yt =>
    simp only [Option.bind_eq_some_iff, Option.map_eq_some_iff] at htr
    obtain ⟨tk, ht, x', hx, y', hy, rfl⟩ := htr
    simp only [evQ, Option.map_eq_some_iff] at h
    obtain ⟨z, hz, rfl⟩ := h
    obtain ⟨r, h1, h2⟩ := evBin_run (P := P) ht (hg x x' (by simp [Op.operands]) hx) (hg y y' (by simp [Op.operands]) hy) hz x y
    exact (Gives.fv (P := P) h1 h2).exec rfl
  case unOp op t x =>
    obtain ⟨x', hx, rfl⟩ := Option.map_eq_some_iff.1 htr
    simp only [evQ, Option.map_eq_some_iff] at h
    obtain ⟨z, hz, rfl⟩ := h
    obtain ⟨r, h1, h2⟩ := evUn_run (P := P) (hg x x' (by simp [Op.operands]) hx) hz
    exact (Gives.fv (P := P) h1 h2).exec rfl
  case convert a b x =>
    split at htr
    · rename_i d k hs hd
      obtain ⟨x', hx, rfl⟩ := Option.map_eq_some_iff.1 htr
      have hr := hg x x' (by simp [Op.operands]) hx
      simp only [evQ] at h
      split at h
      · rename_i k' n hn
        injection h with h; subst h
        rw [hn] at hr
        have hv := Rd.inv_int hr
        refine (Gives.fv (P := P) (v := .int k (k.wrap n)) ?_ (.int _ _)).exec rfl
        rw [hv]
        simp only [convert, Sem.run_bind, run_underlying hs, run_underlying hd, Result.andThen_ok, Conv.intToInt, Sem.run_pure]
      · cases h
    · cases htr
  case makeFunc fn first caps =>
    simp only [Option.bind_eq_some_iff, Option.map_eq_some_iff] at htr
    obtain ⟨fs, h1, cs, h2, rfl⟩ := htr
    simp only [evQ, Option.bind_eq_some_iff, Option.map_eq_some_iff] at h
    obtain ⟨ys, hy, rfl⟩ := h
    obtain ⟨a1, a2⟩ := opds_rel (w := w) (O := O) (ρ := ρ) (B := B) (L := L) (val := val) (g := g) h1 (fun x y hx => hg x y (by simp [Op.operands]; exact .inl (by simpa using hx)))
    obtain ⟨b1, b2⟩ := opds_rel (w := w) (O := O) (ρ := ρ) (B := B) (L := L) (val := val) (g := g) h2 (fun x y hx => hg x y (by simp [Op.operands]; exact .inr (by simpa using hx)))
    have ab : ∀ (j : Nat) (v : Value) (s : SV), (first.toList.map val ++ caps.toList.map val)[j]? = some v → (fs.map g ++ cs.map g)[j]? = some s → SvRel w (Av O ρ B L) ρ B L v s := by
      intro j v s hv hs
      by_cases hj : j < (first.toList.map val).length
      · rw [List.getElem?_append_left hj] at hv
        rw [List.getElem?_append_left (by omega)] at hs
        exact a2 j v s hv hs
      · rw [List.getElem?_append_right (by omega)] at hv
        rw [List.getElem?_append_right (by omega), ← a1] at hs
        exact b2 _ v s hv hs
    rw [List.map_append] at hy
    obtain ⟨d1, d2⟩ := mkCaps_rel hh _ _ _ hy (by simp only [List.length_append]; omega) ab
    refine ⟨.func fn (first.map val) (caps.map val), w, rfl, Chg.refl _ _, ?_⟩
    have e0 : (first.map val).size = fs.length := by simpa using a1
    have e1 : (first.map val ++ caps.map val).size = ys.length := by
      rw [d1]
      simp only [Array.size_append, Array.size_map, List.length_append, List.length_map] at a1 b1 ⊢
      simp only [Array.length_toList] at a1 b1
      omega
    have hcap : ∀ j u x, At (first.map val ++ caps.map val) j = some u → ys[j]? = some x → CapRel w (Av O ρ B L) ρ B L u x := fun j u x hu hx => d2 j u x (by
      simp only [At] at hu
      rw [← Array.getElem?_toList] at hu
      simpa using hu) hx
    split
    · rename_i zs hz
      have : ∀ (ys : List Cap) (zs : List FV), capsFv? ys = some zs → ys.length = zs.length ∧ ∀ (j : Nat) (x : FV), zs[j]? = some x → ys[j]? = some (.fz x) := by
        intro ys
        induction ys with
        | nil => intro zs h; simp only [capsFv?, Option.some.injEq] at h; subst h; simp
        | cons y ys ih =>
          intro zs h
          simp only [capsFv?, Option.bind_eq_some_iff, Option.map_eq_some_iff] at h
          obtain ⟨x, hx, zs', hz, rfl⟩ := h
          obtain ⟨i1, i2⟩ := ih _ hz
          refine ⟨by simp [i1], fun j z hj => ?_⟩
          match j with
          | 0 => simp at hj; subst hj; cases y <;> simp [Cap.fv?] at hx; subst hx; rfl
          | j + 1 => exact i2 j z (by simpa using hj)
      obtain ⟨i1, i2⟩ := this _ _ hz
      exact fn_split e0 (e1.trans i1) fun j u x hu hx => hcap j u _ hu (i2 j x hx)
    · exact ⟨_, _, rfl, e0, e1, hcap⟩
  case slice t x lo hi mx =>
    simp only [Option.bind_eq_some_iff, Option.map_eq_some_iff] at htr
    obtain ⟨e, h1, sz, h2, x', hx, lo', hlo, hi', hhi, mx', hmx, rfl⟩ := htr
    have hr := hg x x' (by simp [Op.operands]) hx
    have r1 := trOpt_rel (w := w) (O := O) (ρ := ρ) (B := B) (L := L) (val := val) (g := g) hlo (fun a b ha => hg a b (by subst ha; simp [Op.operands]))
    have r2 := trOpt_rel (w := w) (O := O) (ρ := ρ) (B := B) (L := L) (val := val) (g := g) hhi (fun a b ha => hg a b (by subst ha; simp [Op.operands]))
    have r3 := trOpt_rel (w := w) (O := O) (ρ := ρ) (B := B) (L := L) (val := val) (g := g) hmx (fun a b ha => hg a b (by subst ha; simp [Op.operands]))
    simp only [evQ] at h
    split at h
    · rename_i tg xs hxs
      rw [hxs] at hr
      split at h
      · rename_i hw
        obtain ⟨⟨l, hgh, m⟩, hb, rfl⟩ := Option.map_eq_some_iff.1 h
        obtain ⟨r, k1, k2⟩ := slice_fv (P := P) (sliceOf_und h1) h2 hw hr r1 r2 r3 hb
        exact (Gives.fv (P := P) k1 k2).exec rfl
      · cases h
    · rename_i id sz' off n ap hxs
      rw [hxs] at hr
      split at h
      · rename_i hs; subst hs
        obtain ⟨⟨l, hgh, m⟩, hb, rfl⟩ := Option.map_eq_some_iff.1 h
        obtain ⟨r, k1, k2⟩ := slice_ref (P := P) (sliceOf_und h1) h2 hr r1 r2 r3 hb
        exact (Gives.same (P := P) k1 k2).exec rfl
      · cases h
    · cases h
  case fieldAddr t x i =>
    simp only [Option.bind_eq_some_iff] at htr
    obtain ⟨fs, h1, f, h2, ag, h3, n, h4, x', hx, htr⟩ := htr
    split at htr
    · rename_i hn
      injection htr with htr; subst htr
      have hr := hg x x' (by simp [Op.operands]) hx
      obtain ⟨fa, hu, rfl⟩ := structOf_und h1
      have hf : fa[i]? = some f := by simpa using h2
      simp only [evQ] at h
      split at h
      · rename_i cs hc
        rw [hc] at hr
        obtain ⟨y, hy, rfl⟩ := Option.map_eq_some_iff.1 h
        obtain ⟨b, o, fc, hv, k1, k2, k3, k4, k5⟩ := Rd.inv_ptr hr
        have hag : ag = false → n = 1 := by
          intro ha; subst ha
          unfold ldElem at hy
          split at hy
          · rename_i hc; simp [FV.fits] at hc; exact hc.2.2
          · simp only [Bool.false_eq_true, if_false] at hy
            split at hy
            · assumption
            · cases hy
        have hp := ldElem_ptr (w := w) (A := Av O ρ B L) (o := o) hn k2 k3 k4 k5 hy hag
        refine (Gives.fv (P := P) (v := .pointer (some ⟨b, o + f.offset, none⟩)) ?_ hp).exec rfl
        rw [hv]
        simp only [Instr.fieldAt, Sem.run_bind, run_underlying hu, Result.andThen_ok, hf, Instr.sureAddr, Sem.run_pure, fieldPlace_run h4 hn]
      · rename_i id sz' i' c hc
        rw [hc] at hr
        simp only [hn, if_true, Option.some.injEq] at h
        subst h
        obtain ⟨k1, hv⟩ := hr
        refine (Gives.same (P := P) (s := .ptr id sz' i' (c + f.offset)) (v := .pointer (some ⟨(ρ id).1, i' * sz' + c + f.offset, none⟩)) ?_ ⟨k1, by rw [Nat.add_assoc]⟩).exec rfl
        rw [hv]
        simp only [Instr.fieldAt, Sem.run_bind, run_underlying hu, Result.andThen_ok, hf, Instr.sureAddr, Sem.run_pure, fieldPlace_run h4 hn]
      · cases h
    · cases htr
  case field t x i =>
    simp only [Option.bind_eq_some_iff, Option.map_eq_some_iff] at htr
    obtain ⟨fs, h1, f, h2, ag, h3, n, h4, x', hx, rfl⟩ := htr
    have hr := hg x x' (by simp [Op.operands]) hx
    simp only [evQ] at h
    split at h
    · rename_i cs hc
      rw [hc] at hr
      obtain ⟨y, hy, rfl⟩ := Option.map_eq_some_iff.1 h
      obtain ⟨u, k1, k2⟩ := fld_run (P := P) h1 h2 h3 h4 hr hy
      exact (Gives.fv (P := P) k1 k2).exec rfl
    · cases h
  case indexAddr t x i =>
    simp only [Option.bind_eq_some_iff, Option.map_eq_some_iff] at htr
    obtain ⟨e, h1, sz, h2, x', hx, i', hi, rfl⟩ := htr
    have hr := hg x x' (by simp [Op.operands]) hx
    have hri := hg i i' (by simp [Op.operands]) hi
    simp only [evQ] at h
    split at h
    · rename_i tg xs k n hxs hn
      rw [hxs] at hr; rw [hn] at hri
      have hvi := Rd.inv_int hri
      split at h
      · rename_i h0
        split at h
        · rename_i y hy
          split at h
          · rename_i hyl
            injection h with h; subst h
            obtain ⟨a, cap, hv, hcap, hne⟩ := rd_sl_parts hr
            have hlt : n.toNat < xs.length := (List.getElem?_eq_some_iff.1 hy).1
            obtain ⟨sz', b, o, k1, rfl, k2, k3, k4⟩ := hne (fun e => by rw [e] at hlt; simp at hlt)
            have : sz' = sz := by rw [← (k2 y (List.mem_of_getElem? hy)).1]; exact hyl
            subst this
            have hp : Rd w (Av O ρ B L) (.pointer (some ⟨b, o + n.toNat * sz', none⟩)) (.ptr y) := by
              have hm := List.mem_of_getElem? hy
              have hw1 : ∀ x ∈ xs, x.cells.length = sz' := fun x hx => (k2 x hx).1
              refine Rd.ptr y b _ (fun j => (w.cell? ⟨b, o + n.toNat * sz' + j, none⟩).getD undef) (by omega) (k2 y hm).2 k3 (fun j hj => ?_) fun j z hz => ?_
              · have hf := getElem?_flat xs n.toNat y hw1 hy j (by omega)
                rw [List.getElem?_eq_getElem hj] at hf
                obtain ⟨u, hu, _⟩ := k4 _ _ hf
                rw [Nat.add_assoc, hu]; rfl
              · have hj : j < y.cells.length := (List.getElem?_eq_some_iff.1 hz).1
                have hf := getElem?_flat xs n.toNat y hw1 hy j (by omega)
                rw [hz] at hf
                obtain ⟨u, hu, hr⟩ := k4 _ _ hf
                rw [Nat.add_assoc, hu]; exact hr
            refine (Gives.fv (P := P) ?_ hp).exec rfl
            rw [hv, hvi]
            exact idx_run (sliceOf_und h1) h2 h0 (by omega)
          · cases h
        · cases h
      · cases h
    · rename_i id sz' off len ap k n hxs hn
      rw [hxs] at hr; rw [hn] at hri
      have hvi := Rd.inv_int hri
      split at h
      · rename_i hc
        obtain ⟨rfl, h0, hl⟩ := hc
        injection h with h; subst h
        obtain ⟨k1, cap, hv, k2, k3⟩ := hr
        refine (Gives.same (P := P) (s := .ptr id sz (off + n.toNat) 0) (v := .pointer (some ⟨(ρ id).1, off * sz + n.toNat * sz, none⟩)) ?_ ⟨k1, by simp [Nat.add_mul]⟩).exec rfl
        rw [hv, hvi]
        exact idx_run (sliceOf_und h1) h2 h0 hl
      · cases h
    · cases h
  case index t x i =>
    split at htr
    · rename_i hu
      simp only [Option.bind_eq_some_iff, Option.map_eq_some_iff] at htr
      obtain ⟨x', hx, i', hi, rfl⟩ := htr
      have hr := hg x x' (by simp [Op.operands]) hx
      have hri := hg i i' (by simp [Op.operands]) hi
      simp only [evQ] at h
      split at h
      · rename_i st k n hxs hn
        rw [hxs] at hr; rw [hn] at hri
        have hvi := Rd.inv_int hri
        have hv := Rd.inv_str hr
        split at h
        · rename_i h0
          obtain ⟨b, hb, rfl⟩ := Option.map_eq_some_iff.1 h
          refine (Gives.fv (P := P) (v := .int .u8 b.toNat) ?_ (.int _ _)).exec rfl
          rw [hv, hvi]
          simp only [Instr.index, asIntOf, Sem.run_bind, Sem.run_pure, Result.andThen_ok, run_underlying hu, h0, if_true, hb]
        · cases h
      · cases h
    · cases htr
  case extract x i =>
    obtain ⟨x', hx, rfl⟩ := Option.map_eq_some_iff.1 htr
    have hr := hg x x' (by simp [Op.operands]) hx
    simp only [evQ] at h
    split at h
    · rename_i xs hxs
      rw [hxs] at hr
      obtain ⟨y, hy, rfl⟩ := Option.map_eq_some_iff.1 h
      obtain ⟨vs, hv, k1, k2⟩ := Rd.inv_tup hr
      have hi : i < vs.size := by rw [k1]; exact (List.getElem?_eq_some_iff.1 hy).1
      refine (Gives.fv (P := P) (v := vs[i]) ?_ (k2 i _ y (by simp [At, hi]) hy)).exec rfl
      rw [hv]
      simp [Instr.extract, hi]
    · cases h
  case call c =>
    unfold trCall at htr
    obtain ⟨callee, args, argTypes⟩ := c
    simp only at htr
    split at htr
    · -- len
      split at htr
      · rename_i x t ha hat
        split at htr
        · rename_i e hu
          obtain ⟨x', hx, rfl⟩ := Option.map_eq_some_iff.1 htr
          have hargs : args = #[x] := by rw [← Array.toArray_toList (xs := args), ha]
          have htys : argTypes = #[t] := by rw [← Array.toArray_toList (xs := argTypes), hat]
          subst hargs; subst htys
          have hr := hg x x' (by simp [Op.operands, Call.operands]) hx
          simp only [evQ, Option.map_eq_some_iff] at h
          obtain ⟨n, hn, rfl⟩ := h
          have hv : ∃ a c, val x = .slice a n c := by
            unfold lenSl at hn
            split at hn
            · injection hn with hn; subst hn
              rename_i hxs; rw [hxs] at hr
              obtain ⟨a, cap, hv, _⟩ := rd_sl_parts hr
              exact ⟨a, cap, hv⟩
            · rename_i heq _; cases heq
            · injection hn with hn; subst hn
              rename_i hxs; rw [hxs] at hr
              obtain ⟨_, cap, hv, _⟩ := hr
              exact ⟨_, cap, hv⟩
            · cases hn
          obtain ⟨a, c, hv⟩ := hv
          refine ⟨.int .i64 n, w, ?_, Chg.refl _ _, Rd.int _ _⟩
          simp only [execOp, resolve, invoke, builtin, Sem.run_bind, Sem.run_pure, Result.andThen_ok, List.map_toArray, List.map_cons, List.map_nil, hv]
          simp [Builtin.len_, run_underlying hu, goInt]
        · rename_i hu
          obtain ⟨x', hx, rfl⟩ := Option.map_eq_some_iff.1 htr
          have hargs : args = #[x] := by rw [← Array.toArray_toList (xs := args), ha]
          have htys : argTypes = #[t] := by rw [← Array.toArray_toList (xs := argTypes), hat]
          subst hargs; subst htys
          have hr := hg x x' (by simp [Op.operands, Call.operands]) hx
          simp only [evQ, Option.map_eq_some_iff] at h
          obtain ⟨n, hn, rfl⟩ := h
          have hv : ∃ st : ByteArray, val x = .string st ∧ st.size = n := by
            unfold lenSl at hn
            split at hn
            · rename_i heq _; cases heq
            · injection hn with hn; subst hn
              rename_i hxs; rw [hxs] at hr
              exact ⟨_, Rd.inv_str hr, rfl⟩
            · rename_i heq _; cases heq
            · cases hn
          obtain ⟨st, hv, rfl⟩ := hv
          refine ⟨.int .i64 st.size, w, ?_, Chg.refl _ _, Rd.int _ _⟩
          simp only [execOp, resolve, invoke, builtin, Sem.run_bind, Sem.run_pure, Result.andThen_ok, List.map_toArray, List.map_cons, List.map_nil, hv]
          simp [Builtin.len_, run_underlying hu, goInt]
        · cases htr
      · cases htr
    · -- append
      split at htr
      · simp only [Option.bind_eq_some_iff] at htr
        obtain ⟨e, _, e', _, sz, _, by', _, z, _, htr⟩ := htr
        split at htr
        · simp only [Option.bind_eq_some_iff, Option.map_eq_some_iff] at htr
          obtain ⟨_, _, _, _, rfl⟩ := htr
          simp [evQ] at h
        · cases htr
      · cases htr
    · -- max
      obtain ⟨as, ha, rfl⟩ := Option.map_eq_some_iff.1 htr
      obtain ⟨a1, a2⟩ := opds_rel (w := w) (O := O) (ρ := ρ) (B := B) (L := L) (val := val) (g := g) ha (fun x y hx => hg x y (by simp [Op.operands, Call.operands]; simpa using hx))
      simp only [evQ] at h
      split at h
      · rename_i k n r hr
        obtain ⟨y, hy, rfl⟩ := Option.map_eq_some_iff.1 h
        cases hvs : args.toList.map val with
        | nil => rw [hvs, hr] at a1; simp at a1
        | cons v vs =>
          rw [hvs, hr] at a1 a2
          have h0 := Rd.inv_int (a2 0 _ _ rfl rfl)
          subst h0
          obtain ⟨u, hu1, hu2⟩ := minOne_run (P := P) (w := w) (O := O) (ρ := ρ) (B := B) (L := L) (f := Builtin.max2) (lt := fun b a => b > a) (fun k a b => by simp [Builtin.max2]) r vs k n y (by simpa using a1) (fun j v s hv hs => a2 (j + 1) v s (by simpa using hv) (by simpa using hs)) hy
          refine ⟨u, w, ?_, Chg.refl _ _, hu2⟩
          have e : (args.map val).toList = .int k n :: vs := by rw [← hvs]; simp
          simp only [execOp, resolve, invoke, builtin, Sem.run_bind, Sem.run_pure, Result.andThen_ok, Builtin.max_, e, hu1]
      · cases h
    · -- min
      obtain ⟨as, ha, rfl⟩ := Option.map_eq_some_iff.1 htr
      obtain ⟨a1, a2⟩ := opds_rel (w := w) (O := O) (ρ := ρ) (B := B) (L := L) (val := val) (g := g) ha (fun x y hx => hg x y (by simp [Op.operands, Call.operands]; simpa using hx))
      simp only [evQ] at h
      split at h
      · rename_i k n r hr
        obtain ⟨y, hy, rfl⟩ := Option.map_eq_some_iff.1 h
        cases hvs : args.toList.map val with
        | nil => rw [hvs, hr] at a1; simp at a1
        | cons v vs =>
          rw [hvs, hr] at a1 a2
          have h0 := Rd.inv_int (a2 0 _ _ rfl rfl)
          subst h0
          obtain ⟨u, hu1, hu2⟩ := minOne_run (P := P) (w := w) (O := O) (ρ := ρ) (B := B) (L := L) (f := Builtin.min2) (lt := fun b a => b < a) (fun k a b => by simp [Builtin.min2]) r vs k n y (by simpa using a1) (fun j v s hv hs => a2 (j + 1) v s (by simpa using hv) (by simpa using hs)) hy
          refine ⟨u, w, ?_, Chg.refl _ _, hu2⟩
          have e : (args.map val).toList = .int k n :: vs := by rw [← hvs]; simp
          simp only [execOp, resolve, invoke, builtin, Sem.run_bind, Sem.run_pure, Result.andThen_ok, Builtin.min_, e, hu1]
      · cases h
    · -- a call
      simp only [Option.bind_eq_some_iff, Option.map_eq_some_iff] at htr
      obtain ⟨f, _, as, _, rfl⟩ := htr
      exact absurd rfl (hnc _ _)
    · cases htr
  all_goals cases htr
end
end Go.Ab
namespace Go.Ab
section
variable {P : Program} {w w' : World} {O : Nat → Prop} {ρ : Rho} {B L B1 L1 : List Ent}
def Weak (B L B1 L1 : List Ent) : Prop := ∀ i, ent B1 L1 i = ent B L i ∨ ent B1 L1 i = (ent B L i).fz ∨ ent B1 L1 i = .dead
theorem Weak.refl (B L : List Ent) : Weak B L B L := fun _ => .inl rfl
theorem Weak.own (h : Weak B L B1 L1) {i : Id} (ho : (ent B1 L1 i).isOwn = true) : ent B1 L1 i = ent B L i ∧ (ent B L i).isOwn = true := by
  rcases h i with e | e | e
  · exact ⟨e, e ▸ ho⟩
  · rw [e] at ho; cases he : ent B L i <;> rw [he] at ho <;> simp [Ent.fz, Ent.isOwn] at ho
  · rw [e] at ho; simp [Ent.isOwn] at ho
theorem Weak.av (h : Weak B L B1 L1) {b : Nat} (hb : Av O ρ B1 L1 b) : Av O ρ B L b := by
  rcases hb with hb | ⟨i, hi, e⟩
  · exact .inl hb
  · exact .inr ⟨i, (h.own hi).2, e⟩
theorem Rd.weak (h : Weak B L B1 L1) {v : Value} {x : FV} (hr : Rd w (Av O ρ B L) v x) : Rd w (Av O ρ B1 L1) v x :=
  Rd.mono (Chg.refl (fun _ => False) w) (fun _ h => h.elim) (fun _ _ h' => h.av h') hr
theorem Heap.weaken (hh : Heap w O ρ B L) (h : Weak B L B1 L1) : Heap w O ρ B1 L1 := by
  refine ⟨fun i j hi hj e => hh.inj i j (h.own hi).2 (h.own hj).2 e, fun i hi => hh.notO i (h.own hi).2, hh.oLt, ?_, ?_⟩
  · intro i sz xs he
    have ho : (ent B1 L1 i).isOwn = true := by rw [he]; rfl
    obtain ⟨h1, h2, h3, h4, cur, t, h5, h6, h7⟩ := hh.own i sz xs ((h.own ho).1 ▸ he)
    refine ⟨h1, h2, h3, h4, cur, t, h5, h6, fun j x hx => ?_⟩
    obtain ⟨v, hv, hr⟩ := h7 j x hx
    exact ⟨v, hv, hr.weak h⟩
  · intro i sz xs he
    rcases h i with e | e | e
    · obtain ⟨h1, h2, h3, h4, h5⟩ := hh.frz i sz xs (e ▸ he)
      refine ⟨h1, h2, fun hA => h3 (h.av hA), h4, fun j x hx => ?_⟩
      obtain ⟨v, hv, hr⟩ := h5 j x hx
      exact ⟨v, hv, hr.weak h⟩
    · rw [e] at he
      cases h0 : ent B L i with
      | dead => rw [h0] at he; cases he
      | frz sz' xs' =>
        rw [h0] at he
        simp only [Ent.fz] at he
        injection he with e1 e2; subst e1; subst e2
        obtain ⟨h1, h2, h3, h4, h5⟩ := hh.frz i _ _ h0
        refine ⟨h1, h2, fun hA => h3 (h.av hA), h4, fun j x hx => ?_⟩
        obtain ⟨v, hv, hr⟩ := h5 j x hx
        exact ⟨v, hv, hr.weak h⟩
      | own sz' xs' =>
        rw [h0] at he
        simp only [Ent.fz] at he
        injection he with e1 e2; subst e1; subst e2
        obtain ⟨h1, h2, h3, h4, cur, t, h5, h6, h7⟩ := hh.own i _ _ h0
        refine ⟨h1, h2, fun hA => ?_, (Array.getElem?_eq_some_iff.1 h5).1, fun j x hx => ?_⟩
        · rcases hA with hA | ⟨k, hk, e'⟩
          · exact hh.notO i (by rw [h0]; rfl) hA
          · obtain ⟨k1, k2⟩ := h.own hk
            have := hh.inj k i k2 (by rw [h0]; rfl) e'
            subst this
            rw [e, h0] at hk
            simp [Ent.fz, Ent.isOwn] at hk
        · obtain ⟨v, hv, hr⟩ := h7 j x hx
          exact ⟨v, by simp only [World.cell?, h5]; exact hv, hr.weak h⟩
    · rw [e] at he; cases he
theorem SvRel.weak (h : Weak B L B1 L1) (hb : B1.length = B.length) (hl : L.length ≤ L1.length) {v : Value} {s : SV} (hr : SvRel w (Av O ρ B L) ρ B L v s) : SvRel w (Av O ρ B1 L1) ρ B1 L1 v s := by
  cases s with
  | unk => trivial
  | fv x => exact Rd.weak h hr
  | ref id sz off len ap => exact ⟨hr.1.ext hb hl, hr.2⟩
  | ptr id sz i c => exact ⟨hr.1.ext hb hl, hr.2⟩
  | clo f nf caps =>
    obtain ⟨fs, cs, e, h1, h2, h4⟩ := hr
    refine ⟨fs, cs, e, h1, h2, fun j u x hu hx => ?_⟩
    have := h4 j u x hu hx
    cases x with
    | fz y => exact Rd.weak h this
    | own id sz => exact ⟨this.1.ext hb hl, this.2⟩
theorem Ext.weaken (hh : Heap w O ρ B L) (h : Weak B L B1 L1) (hb : B1.length = B.length) (hl : L1.length = L.length) : Ext w O ρ B L w ρ B1 L1 :=
  ⟨Chg.refl _ _, hh.weaken h, fun _ _ => rfl, fun _ _ h' => h.av h', hb, by omega⟩
theorem getD_modify (l : List Ent) (i j : Nat) (f : Ent → Ent) : (l.modify i f).getD j .dead = if i = j ∧ j < l.length then f (l.getD j .dead) else l.getD j .dead := by
  simp only [List.getD_eq_getElem?_getD, List.getElem?_modify]
  by_cases hj : j < l.length
  · simp only [List.getElem?_eq_getElem hj]
    by_cases h : i = j <;> simp [h, hj]
  · simp [List.getElem?_eq_none (Nat.le_of_not_lt hj), hj]
theorem frz1_weak (id : Id) (B L : List Ent) : Weak B L (frz1 id B L).1 (frz1 id B L).2 ∧ (frz1 id B L).1.length = B.length ∧ (frz1 id B L).2.length = L.length := by
  refine ⟨fun i => ?_, ?_, ?_⟩
  · cases id with
    | b k => cases i with
      | b j =>
        simp only [frz1, ent, getD_modify]
        split
        · exact .inr (.inl rfl)
        · exact .inl rfl
      | l j => exact .inl rfl
    | l k => cases i with
      | b j => exact .inl rfl
      | l j =>
        simp only [frz1, ent, getD_modify]
        split
        · exact .inr (.inl rfl)
        · exact .inl rfl
  · cases id <;> simp [frz1]
  · cases id <;> simp [frz1]
theorem Weak.trans {B2 L2 : List Ent} (h : Weak B L B1 L1) (k : Weak B1 L1 B2 L2) : Weak B L B2 L2 := by
  intro i
  have ff : ∀ e : Ent, e.fz.fz = e.fz := by intro e; cases e <;> rfl
  rcases k i with e | e | e
  · rw [e]; exact h i
  · rcases h i with e' | e' | e'
    · rw [e, e']; exact .inr (.inl rfl)
    · rw [e, e', ff]; exact .inr (.inl rfl)
    · rw [e, e']; exact .inr (.inr rfl)
  · exact .inr (.inr e)
theorem frzs_weak : ∀ (ids : List Id) (B L : List Ent), Weak B L (frzs ids B L).1 (frzs ids B L).2 ∧ (frzs ids B L).1.length = B.length ∧ (frzs ids B L).2.length = L.length
  | [], B, L => ⟨Weak.refl _ _, rfl, rfl⟩
  | i :: r, B, L => by
    obtain ⟨h1, h2, h3⟩ := frz1_weak i B L
    obtain ⟨k1, k2, k3⟩ := frzs_weak r (frz1 i B L).1 (frz1 i B L).2
    exact ⟨h1.trans k1, k2.trans h2, k3.trans h3⟩
def upd (ρ : Rho) (i : Id) (p : Nat × Nat) : Rho := fun j => if j = i then p else ρ j
theorem ent_push (B1 L1 : List Ent) (e : Ent) (i : Id) : ent B1 (L1 ++ [e]) i = if i = .l L1.length then e else ent B1 L1 i := by
  cases i with
  | b j => simp [ent]
  | l j =>
    simp only [ent, List.getD_eq_getElem?_getD, Id.l.injEq]
    rcases Nat.lt_trichotomy j L1.length with h | h | h
    · rw [List.getElem?_append_left h, if_neg (by omega)]
    · subst h; simp
    · rw [if_neg (by omega), List.getElem?_eq_none (by simp; omega), List.getElem?_eq_none (by omega)]
theorem Ext.insert (hh : Heap w O ρ B L) (hwk : Weak B L B1 L1) (hB : B1.length = B.length) (hL : L1.length = L.length) {b0 cap : Nat}
    (hb0 : w.heap.size ≤ b0 ∨ ∃ i, (ent B L i).isOwn = true ∧ (ρ i).1 = b0 ∧ ent B1 L1 i = .dead) (hc : Chg (fun b => b = b0) w w')
    {sz : Nat} {xs : List FV} {cur : Array Value} {t : TypeId} (hz : 0 < sz) (hw : ∀ x ∈ xs, x.cells.length = sz ∧ ∀ y ∈ x.cells, y.one = true) (hcap : xs.length ≤ cap) (hm : cap ≤ maxLen)
    (hcell : w'.heap[b0]? = some (.cells cur t (0, 0))) (hsz : cur.size = cap * sz) (hr : ∀ j x, (flat xs)[j]? = some x → ∃ v, At cur j = some v ∧ Rd w (Av O ρ B L) v x) :
    Ext w O ρ B L w' (upd ρ (.l L.length) (b0, cap)) B1 (L1 ++ [.own sz xs]) := by
  have hnO : ¬ O b0 := by
    rcases hb0 with h | ⟨i, hi, rfl, _⟩
    · intro h'; have := hh.oLt b0 h'; omega
    · exact hh.notO i hi
  have hne : ∀ i, (ent B1 L1 i).isOwn = true → (ρ i).1 ≠ b0 := by
    intro i hi e
    obtain ⟨h1, h2⟩ := hwk.own hi
    rcases hb0 with h | ⟨k, hk, e', hd⟩
    · have : Av O ρ B L (ρ i).1 := .inr ⟨i, h2, rfl⟩
      have := hh.avLt _ this
      omega
    · have := hh.inj i k h2 hk (e.trans e'.symm)
      subst this
      rw [hd] at hi
      simp [Ent.isOwn] at hi
  have hdead : ent B1 L1 (.l L1.length) = .dead := by simp [ent]
  have hav : ∀ b, Av O (upd ρ (.l L.length) (b0, cap)) B1 (L1 ++ [.own sz xs]) b → b = b0 ∨ Av O ρ B1 L1 b := by
    intro b hb
    rcases hb with hb | ⟨i, hi, e⟩
    · exact .inr (.inl hb)
    · rw [ent_push] at hi
      by_cases h : i = .l L1.length
      · subst h
        rw [hL] at e
        simp [upd] at e
        exact .inl e.symm
      · rw [if_neg h] at hi
        simp only [upd] at e
        rw [if_neg (by rw [← hL]; exact h)] at e
        exact .inr (.inr ⟨i, hi, e⟩)
  have hS : Chg (fun b => b = b0 ∧ b0 < w.heap.size) w w' := hc.mono fun k hk e => ⟨e, e ▸ hk⟩
  have havb0 : b0 < w.heap.size → Av O ρ B L b0 := by
    intro h
    rcases hb0 with h' | ⟨i, hi, e, _⟩
    · omega
    · exact .inr ⟨i, hi, e⟩
  have hrd : ∀ {v x}, Rd w (Av O ρ B L) v x → Rd w' (Av O (upd ρ (.l L.length) (b0, cap)) B1 (L1 ++ [.own sz xs])) v x := fun h =>
    Rd.mono hS (fun b ⟨e, hb⟩ => e ▸ havb0 hb) (fun b hb h' => by
      rcases hav b h' with rfl | h'
      · exact havb0 hb
      · exact hwk.av h') h
  have hup : ∀ i, i ≠ .l L.length → upd ρ (.l L.length) (b0, cap) i = ρ i := fun i h => by simp [upd, h]
  refine ⟨hc.mono fun k hk e => ?_, ⟨?_, ?_, fun b hb => Nat.lt_of_lt_of_le (hh.oLt b hb) hc.size, ?_, ?_⟩, fun id hv => hup id fun e => ?_, fun b hb h' => ?_, hB, by simp; omega⟩
  · rcases hb0 with h' | ⟨i, hi, e', _⟩
    · omega
    · exact ⟨i, hi, e'.trans e.symm⟩
  · intro i j hi hj e
    rw [ent_push] at hi hj
    by_cases h1 : i = .l L1.length
    · by_cases h2 : j = .l L1.length
      · rw [h1, h2]
      · rw [if_neg h2] at hj
        rw [h1, hL] at e
        rw [hup j (by rw [← hL]; exact h2)] at e
        simp [upd] at e
        exact absurd e.symm (hne j hj)
    · rw [if_neg h1] at hi
      rw [hup i (by rw [← hL]; exact h1)] at e
      by_cases h2 : j = .l L1.length
      · rw [h2, hL] at e
        simp [upd] at e
        exact absurd e (hne i hi)
      · rw [if_neg h2] at hj
        rw [hup j (by rw [← hL]; exact h2)] at e
        exact hh.inj i j (hwk.own hi).2 (hwk.own hj).2 e
  · intro i hi
    rw [ent_push] at hi
    by_cases h1 : i = .l L1.length
    · rw [h1, hL]; simp [upd]; exact hnO
    · rw [if_neg h1] at hi
      rw [hup i (by rw [← hL]; exact h1)]
      exact hh.notO i (hwk.own hi).2
  · intro i sz' xs' he
    rw [ent_push] at he
    by_cases h1 : i = .l L1.length
    · rw [if_pos h1] at he
      injection he with e1 e2; subst e1; subst e2
      rw [h1, hL]
      simp only [upd, if_true]
      refine ⟨hz, hw, hcap, hm, cur, t, hcell, hsz, fun j x hx => ?_⟩
      obtain ⟨v, hv, hr'⟩ := hr j x hx
      exact ⟨v, hv, hrd hr'⟩
    · rw [if_neg h1] at he
      rw [hup i (by rw [← hL]; exact h1)]
      have ho : (ent B1 L1 i).isOwn = true := by rw [he]; rfl
      obtain ⟨k1, k2, k3, k4, cur', t', k5, k6, k7⟩ := hh.own i sz' xs' ((hwk.own ho).1 ▸ he)
      refine ⟨k1, k2, k3, k4, cur', t', ?_, k6, fun j x hx => ?_⟩
      · rw [hc.block _ (Array.getElem?_eq_some_iff.1 k5).1 (hne i ho)]; exact k5
      · obtain ⟨v, hv, hr'⟩ := k7 j x hx
        exact ⟨v, hv, hrd hr'⟩
  · intro i sz' xs' he
    rw [ent_push] at he
    by_cases h1 : i = .l L1.length
    · rw [if_pos h1] at he; cases he
    · rw [if_neg h1] at he
      rw [hup i (by rw [← hL]; exact h1)]
      obtain ⟨k1, k2, k3, k4, k5⟩ := (hh.weaken hwk).frz i sz' xs' he
      have hnb : (ρ i).1 ≠ b0 := by
        intro e
        rcases hb0 with h' | ⟨k, hk, e', hd⟩
        · omega
        · -- the block of an own row is no frozen one
          rcases hwk i with e2 | e2 | e2
          · obtain ⟨_, _, q3, _⟩ := hh.frz i sz' xs' (e2 ▸ he)
            exact q3 (.inr ⟨k, hk, by rw [e', e]⟩)
          · cases h0 : ent B L i with
            | dead => rw [e2, h0] at he; cases he
            | frz s y =>
              obtain ⟨_, _, q3, _⟩ := hh.frz i _ _ h0
              exact q3 (.inr ⟨k, hk, by rw [e', e]⟩)
            | own s y =>
              have := hh.inj i k (by rw [h0]; rfl) hk (by rw [e', e])
              subst this
              rw [hd] at he; cases he
          · rw [e2] at he; cases he
      refine ⟨k1, k2, fun hA => ?_, Nat.lt_of_lt_of_le k4 hc.size, fun j x hx => ?_⟩
      · rcases hav _ hA with e | hA
        · exact hnb e
        · exact k3 hA
      · -- read in the old world
        have key : ∃ v, w.cell? ⟨(ρ i).1, j, none⟩ = some v ∧ Rd w (Av O ρ B L) v x := by
          rcases hwk i with e2 | e2 | e2
          · obtain ⟨_, _, _, _, q5⟩ := hh.frz i sz' xs' (e2 ▸ he)
            exact q5 j x hx
          · cases h0 : ent B L i with
            | dead => rw [e2, h0] at he; cases he
            | frz s y =>
              rw [e2, h0] at he
              simp only [Ent.fz] at he
              injection he with e1 e3; subst e1; subst e3
              exact (entRd hh (.inr h0)).2.2 j x hx
            | own s y =>
              rw [e2, h0] at he
              simp only [Ent.fz] at he
              injection he with e1 e3; subst e1; subst e3
              exact (entRd hh (.inl h0)).2.2 j x hx
          · rw [e2] at he; cases he
        obtain ⟨v, hv, hr'⟩ := key
        exact ⟨v, hc.cell hnb hv, hrd hr'⟩
  · subst e
    simp [Id.valid] at hv
  · rcases hav b h' with rfl | h'
    · exact havb0 hb
    · exact hwk.av h'
end
end Go.Ab
namespace Go.Ab
theorem splice_list {α : Type} (A C Y D : List α) (c : Nat) (h : c + Y.length ≤ C.length) :
    A ++ (C.take c ++ Y ++ C.drop (c + Y.length)) ++ D = (A ++ C ++ D).take (A.length + c) ++ Y ++ (A ++ C ++ D).drop (A.length + c + Y.length) := by
  have e1 : (A ++ C ++ D).take (A.length + c) = A ++ C.take c := by
    rw [List.append_assoc, List.take_append, List.take_of_length_le (by omega), show A.length + c - A.length = c from by omega, List.take_append_of_le_length (by omega)]
  have e2 : (A ++ C ++ D).drop (A.length + c + Y.length) = C.drop (c + Y.length) ++ D := by
    rw [List.append_assoc, List.drop_append, List.drop_eq_nil_of_le (by omega), show A.length + c + Y.length - A.length = c + Y.length from by omega, List.drop_append_of_le_length (by omega)]
    simp
  rw [e1, e2]
  simp [List.append_assoc]
theorem agg_cells (cs : List FV) : (FV.agg cs).cells = cs := rfl
theorem stElem_cells {c : Nat} {e y e' : FV} (h : stElem c e y = some e') (hy : okPart y = true) (he : okPart e = true) (h1 : ∀ z ∈ e.cells, z.one = true) (h2 : ∀ z ∈ y.cells, z.one = true) :
    c + y.cells.length ≤ e.cells.length ∧ e'.cells = e.cells.take c ++ y.cells ++ e.cells.drop (c + y.cells.length) ∧ e'.cells.length = e.cells.length ∧ (∀ z ∈ e'.cells, z.one = true) ∧ okPart e' = true := by
  unfold stElem at h
  split at h
  · rename_i cs
    split at h
    · rename_i hl
      injection h with h; subst h
      simp only [agg_cells] at h1 ⊢
      refine ⟨hl, trivial, by simp; omega, fun z hz => ?_, rfl⟩
      simp only [List.mem_append] at hz
      rcases hz with (hz | hz) | hz
      · exact h1 z (List.mem_of_mem_take hz)
      · exact h2 z hz
      · exact h1 z (List.mem_of_mem_drop hz)
    · cases h
  · rename_i hna
    split at h
    · rename_i hc
      obtain ⟨rfl, ho⟩ := hc
      injection h with h; subst h
      have hyc : y.cells = [y] := by cases y <;> first | rfl | (simp [FV.one] at ho)
      have hec : e.cells = [e] := by cases e <;> first | rfl | (exact absurd rfl (hna _))
      rw [hyc, hec]
      refine ⟨by simp, by simp, by simp, by simpa using ho, hy⟩
    · cases h
section
variable {P : Program} {w w' : World} {O : Nat → Prop} {ρ : Rho} {B L : List Ent}
theorem ent_setE (id : Id) (e : Ent) (B L : List Ent) (hv : id.valid B L) (i : Id) : ent (setE id e B L).1 (setE id e B L).2 i = if i = id then e else ent B L i := by
  cases id with
  | b k => cases i with
    | b j =>
      simp only [setE, ent, List.getD_eq_getElem?_getD, List.getElem?_set, Id.b.injEq]
      simp only [Id.valid] at hv
      by_cases h : k = j
      · subst h; simp [hv]
      · rw [if_neg h, if_neg (fun e => h e.symm)]
    | l j => simp [setE, ent]
  | l k => cases i with
    | b j => simp [setE, ent]
    | l j =>
      simp only [setE, ent, List.getD_eq_getElem?_getD, List.getElem?_set, Id.l.injEq]
      simp only [Id.valid] at hv
      by_cases h : k = j
      · subst h; simp [hv]
      · rw [if_neg h, if_neg (fun e => h e.symm)]
theorem setE_length (id : Id) (e : Ent) (B L : List Ent) : (setE id e B L).1.length = B.length ∧ (setE id e B L).2.length = L.length := by
  cases id <;> simp [setE]
theorem own_valid {id : Id} (h : (ent B L id).isOwn = true) : id.valid B L := by
  cases id with
  | b i =>
    simp only [Id.valid]
    rcases Nat.lt_or_ge i B.length with h' | h'
    · exact h'
    · simp [ent, List.getD_eq_getElem?_getD, List.getElem?_eq_none h', Ent.isOwn] at h
  | l i =>
    simp only [Id.valid]
    rcases Nat.lt_or_ge i L.length with h' | h'
    · exact h'
    · simp [ent, List.getD_eq_getElem?_getD, List.getElem?_eq_none h', Ent.isOwn] at h
theorem cells_ok {e : FV} (h1 : ∀ z ∈ e.cells, z.one = true) : okPart e = true := by
  cases e <;> first | rfl | (have := h1 _ (List.mem_singleton.2 rfl); simp [FV.one] at this)
theorem Ext.store (hh : Heap w O ρ B L) {id : Id} {sz i c n : Nat} {xs : List FV} {e y e' : FV} {v : Value} {t : TypeId} (he : ent B L id = .own sz xs) (hi : xs[i]? = some e) (hs : stElem c e y = some e')
    (hy : Rd w (Av O ρ B L) v y) (hok : okPart y = true) (hn : szOf P t = some n) (hyn : y.cells.length = n) :
    ∃ w', (storeVar t ⟨(ρ id).1, i * sz + c, none⟩ v).run P w = .ok () w' ∧ Ext w O ρ B L w' ρ (setE id (.own sz (xs.set i e')) B L).1 (setE id (.own sz (xs.set i e')) B L).2 := by
  obtain ⟨h1, h2, h3, h4, cur, t', h5, h6, h7⟩ := hh.own _ _ _ he
  have hiOwn : (ent B L id).isOwn = true := by rw [he]; rfl
  have hv := own_valid hiOwn
  have hilt : i < xs.length := (List.getElem?_eq_some_iff.1 hi).1
  have hem := h2 e (List.mem_of_getElem? hi)
  have hyc := Rd.cellsRel hy hok
  obtain ⟨s1, s2, s3, s4, s5⟩ := stElem_cells hs hok (cells_ok hem.2) hem.2 hyc.2.1
  have hw1 : ∀ x ∈ xs, x.cells.length = sz := fun x hx => (h2 x hx).1
  have hfl : (flat xs).length = xs.length * sz := flat_length _ hw1
  have hle : i * sz + sz ≤ xs.length * sz := by rw [← Nat.succ_mul]; exact Nat.mul_le_mul_right _ hilt
  have hle2 : xs.length * sz ≤ cur.size := by rw [h6]; exact Nat.mul_le_mul_right _ h3
  have hflat : flat (xs.set i e') = (flat xs).take (i * sz + c) ++ y.cells ++ (flat xs).drop (i * sz + c + y.cells.length) := by
    have e0 : flat xs = (flat xs).take (i * sz) ++ e.cells ++ (flat xs).drop (i * sz + sz) := by
      have := flat_set xs i e hw1 hilt hem.1
      have e2 : xs.set i e = xs := by
        apply List.ext_getElem?
        intro j
        rw [List.getElem?_set]
        by_cases h : i = j
        · subst h; rw [if_pos rfl, if_pos hilt, hi]
        · rw [if_neg h]
      rw [e2] at this
      exact this
    have hA : ((flat xs).take (i * sz)).length = i * sz := by simp; omega
    rw [flat_set xs i e' hw1 hilt (by rw [s3]; exact hem.1), s2, splice_list _ _ _ _ c s1, hA, ← e0]
  have hvs : v.cells.toList.length = y.cells.length := by rw [Array.length_toList]; exact hyc.1
  have hone : ∀ u ∈ v.cells.toList, u.oneCell' = true := by
    intro u hu
    obtain ⟨j, hj⟩ := List.mem_iff_getElem?.1 hu
    have hjl : j < y.cells.length := by have := (List.getElem?_eq_some_iff.1 hj).1; omega
    have hr := hyc.2.2 j u _ (by simpa [At] using hj) (List.getElem?_eq_getElem hjl)
    exact Rd.one hr (hyc.2.1 _ (List.getElem_mem hjl))
  have hst := run_storeCells_at P (ρ id).1 (i * sz + c) t' v.cells.toList 0 cur w h5 (by rw [hvs]; have := hem.1; omega) hone
  simp only [Nat.add_zero, hvs] at hst
  refine ⟨w.setRow (ρ id).1 (List.take (i * sz + c) cur.toList ++ v.cells.toList ++ List.drop (i * sz + c + y.cells.length) cur.toList).toArray, ?_, ?_⟩
  · unfold storeVar
    simp only [Sem.run_bind, run_sizeOf hn, Result.andThen_ok]
    rw [if_neg (by rw [hyc.1, hyn]; simp), hst]
  · generalize hcur' : (List.take (i * sz + c) cur.toList ++ v.cells.toList ++ List.drop (i * sz + c + y.cells.length) cur.toList).toArray = cur'
    have hcs : cur'.size = cur.size := by rw [← hcur']; simp; have := hem.1; have := hyc.1; omega
    have hcg : Chg (fun b => b = (ρ id).1) w (w.setRow (ρ id).1 cur') := Chg.setRow w _ _
    obtain ⟨hl1, hl2⟩ := setE_length id (.own sz (xs.set i e')) B L
    have hent := ent_setE id (.own sz (xs.set i e')) B L hv
    have hown : ∀ k, (ent (setE id (.own sz (xs.set i e')) B L).1 (setE id (.own sz (xs.set i e')) B L).2 k).isOwn = (ent B L k).isOwn := by
      intro k; rw [hent]; split
      · rename_i h; subst h; rw [hiOwn]; rfl
      · rfl
    have hav : ∀ b, Av O ρ (setE id (.own sz (xs.set i e')) B L).1 (setE id (.own sz (xs.set i e')) B L).2 b ↔ Av O ρ B L b := by
      intro b; simp only [Av, hown]
    have hrd : ∀ {v x}, Rd w (Av O ρ B L) v x → Rd (w.setRow (ρ id).1 cur') (Av O ρ (setE id (.own sz (xs.set i e')) B L).1 (setE id (.own sz (xs.set i e')) B L).2) v x := fun h =>
      Rd.mono hcg (fun b e => .inr ⟨id, hiOwn, e.symm⟩) (fun b _ h' => (hav b).1 h') h
    refine ⟨hcg.mono fun k _ e => ⟨id, hiOwn, e.symm⟩, ⟨?_, ?_, fun b hb => by have := hh.oLt b hb; simpa using this, ?_, ?_⟩, fun _ _ => rfl, fun b _ h' => (hav b).1 h', hl1, by omega⟩
    · intro a b ha hb e; exact hh.inj a b (by rw [← hown]; exact ha) (by rw [← hown]; exact hb) e
    · intro a ha; exact hh.notO a (by rw [← hown]; exact ha)
    · intro k sz' xs' hk
      rw [hent] at hk
      by_cases hki : k = id
      · subst hki
        rw [if_pos rfl] at hk
        injection hk with e1 e2; subst e1; subst e2
        refine ⟨h1, fun x hx => ?_, by simpa using h3, h4, cur', t', setRow_heap w _ cur _ t' _ h5, by rw [hcs]; exact h6, fun j x hx => ?_⟩
        · rcases List.mem_or_eq_of_mem_set hx with hx | rfl
          · exact h2 x hx
          · exact ⟨by rw [s3]; exact hem.1, s4⟩
        · rw [hflat] at hx
          have hcurl : cur.toList.length = cur.size := Array.length_toList
          have hAt : At cur' j = (List.take (i * sz + c) cur.toList ++ v.cells.toList ++ List.drop (i * sz + c + y.cells.length) cur.toList)[j]? := by rw [← hcur']; simp [At]
          rw [hAt]
          have hL1 : (List.take (i * sz + c) (flat xs)).length = i * sz + c := by simp; have := hem.1; omega
          have hL2 : (List.take (i * sz + c) cur.toList).length = i * sz + c := by simp; have := hem.1; omega
          by_cases hj1 : j < i * sz + c
          · rw [List.append_assoc, List.getElem?_append_left (by omega)] at hx ⊢
            rw [List.getElem?_take_of_lt hj1] at hx ⊢
            obtain ⟨u, hu, hr⟩ := h7 j x hx
            exact ⟨u, by simpa [At] using hu, hrd hr⟩
          · by_cases hj2 : j < i * sz + c + y.cells.length
            · rw [List.append_assoc, List.getElem?_append_right (by omega)] at hx ⊢
              rw [List.getElem?_append_left (by omega)] at hx ⊢
              rw [hL1] at hx; rw [hL2]
              have hjl : j - (i * sz + c) < v.cells.toList.length := by omega
              refine ⟨_, List.getElem?_eq_getElem hjl, hrd (hyc.2.2 (j - (i * sz + c)) _ x ?_ hx)⟩
              have hjl' : j - (i * sz + c) < v.cells.size := by rw [Array.length_toList] at hjl; exact hjl
              simp [At, hjl']
            · rw [List.getElem?_append_right (by simp only [List.length_append, hL1, hL2, hvs]; omega)] at hx ⊢
              rw [List.getElem?_drop] at hx ⊢
              simp only [List.length_append, hL1, hL2, hvs] at hx ⊢
              rw [show i * sz + c + y.cells.length + (j - (i * sz + c + y.cells.length)) = j from by omega] at hx ⊢
              obtain ⟨u, hu, hr⟩ := h7 j x hx
              exact ⟨u, by simpa [At] using hu, hrd hr⟩
      · rw [if_neg hki] at hk
        obtain ⟨k1, k2, k3, k4, cur2, t2, k5, k6, k7⟩ := hh.own _ _ _ hk
        refine ⟨k1, k2, k3, k4, cur2, t2, ?_, k6, fun j x hx => ?_⟩
        · rw [setRow_other]
          · exact k5
          · intro e; exact hki (hh.inj k id (by rw [hk]; rfl) hiOwn e)
        · obtain ⟨u, hu, hr⟩ := k7 j x hx; exact ⟨u, hu, hrd hr⟩
    · intro k sz' xs' hk
      rw [hent] at hk
      by_cases hki : k = id
      · rw [if_pos hki] at hk; cases hk
      · rw [if_neg hki] at hk
        obtain ⟨k1, k2, k3, k4, k5⟩ := hh.frz _ _ _ hk
        refine ⟨k1, k2, fun h' => k3 ((hav _).1 h'), by simpa using k4, fun j x hx => ?_⟩
        obtain ⟨u, hu, hr⟩ := k5 j x hx
        exact ⟨u, hcg.cell (fun e => k3 (.inr ⟨id, hiOwn, e.symm⟩)) hu, hrd hr⟩
end
end Go.Ab
namespace Go.Ab
section
variable {P : Program} {w w' : World} {O : Nat → Prop} {ρ : Rho} {B L : List Ent}
structure Src (P : Program) (w : World) (A : Nat → Prop) (sz : Nat) (v : Value) (ys : List FV) : Prop where
  wid : ∀ y ∈ ys, y.cells.length = sz
  one : ∀ y ∈ ys, ∀ z ∈ y.cells, z.one = true
  len : ∀ W, (Builtin.lenOf v).run P W = .ok ys.length W
  ex : ∃ news : List Value, news.length = ys.length * sz ∧ (Builtin.firstCells sz ys.length v).run P w = .ok news.toArray w ∧ (Builtin.firstCells sz ys.length v).run P w.drew = .ok news.toArray w.drew ∧
    (∀ (j : Nat) (x : FV), (flat ys)[j]? = some x → ∃ u : Value, news[j]? = some u ∧ Rd w A u x) ∧ ∀ u ∈ news, u.oneCell' = true
theorem src_of {A : Nat → Prop} {sz cap : Nat} {a : Option Addr} {ys : List FV} (hw : ∀ y ∈ ys, y.cells.length = sz ∧ ∀ z ∈ y.cells, z.one = true)
    (h : ys ≠ [] → ∃ b o, a = some ⟨b, o, none⟩ ∧ ∀ j x, (flat ys)[j]? = some x → ∃ u, w.cell? ⟨b, o + j, none⟩ = some u ∧ Rd w A u x) : Src P w A sz (.slice a ys.length cap) ys := by
  refine ⟨fun y hy => (hw y hy).1, fun y hy => (hw y hy).2, fun W => rfl, ?_⟩
  by_cases hy : ys = []
  · subst hy
    refine ⟨[], by simp, ?_, ?_, by simp [flat], by simp⟩ <;> cases a <;> simp [Builtin.firstCells, loadCells, loadCellsFrom]
  · obtain ⟨b, o, rfl, hc⟩ := h hy
    have hfl : (flat ys).length = ys.length * sz := flat_length _ fun y hy => (hw y hy).1
    have key : ∀ j, j < ys.length * sz → ∃ x u, (flat ys)[j]? = some x ∧ w.cell? ⟨b, o + j, none⟩ = some u ∧ Rd w A u x := by
      intro j hj
      have hx : (flat ys)[j]? = some ((flat ys)[j]'(by omega)) := List.getElem?_eq_getElem _
      obtain ⟨u, hu, hr⟩ := hc _ _ hx
      exact ⟨_, u, hx, hu, hr⟩
    have hnews : ∀ (W : World), (∀ p, W.cell? p = w.cell? p) → ∀ j v, ((List.range (ys.length * sz)).map fun j => (w.cell? ⟨b, o + j, none⟩).getD undef)[j]? = some v → W.cell? ((⟨b, o, none⟩ : Addr).add j) = some v := by
      intro W hW j v hv
      have hj : j < ys.length * sz := by have := (List.getElem?_eq_some_iff.1 hv).1; simpa using this
      obtain ⟨x, u, _, hu, _⟩ := key j hj
      simp [hj] at hv
      rw [add_plain, hW, ← hv, hu]; rfl
    refine ⟨(List.range (ys.length * sz)).map fun j => (w.cell? ⟨b, o + j, none⟩).getD undef, by simp, ?_, ?_, fun j x hx => ?_, fun u hu => ?_⟩
    · exact run_firstCells_some (P := P) w sz ys.length ⟨b, o, none⟩ _ _ _ (by simp) (hnews w fun _ => rfl)
    · exact run_firstCells_some (P := P) w.drew sz ys.length ⟨b, o, none⟩ _ _ _ (by simp) (hnews w.drew fun _ => rfl)
    · have hj : j < ys.length * sz := by have := (List.getElem?_eq_some_iff.1 hx).1; omega
      obtain ⟨x', u, h1, h2, h3⟩ := key j hj
      rw [hx] at h1; injection h1 with h1; subst h1
      exact ⟨u, by simp [hj, h2], h3⟩
    · obtain ⟨j, hj, rfl⟩ := List.mem_map.1 hu
      have hj' : j < ys.length * sz := by simpa using hj
      obtain ⟨x, u, h1, h2, h3⟩ := key j hj'
      rw [h2]
      have : x.one = true := by
        obtain ⟨y, hy1, hy2⟩ := List.mem_flatMap.1 (List.mem_of_getElem? h1)
        exact (hw y hy1).2 x hy2
      exact Rd.one h3 this
theorem rdSl_src (hh : Heap w O ρ B L) {sz : Nat} {s : SV} {v : Value} {ys : List FV} (hs : rdSl B L sz s = some ys) (hr : SvRel w (Av O ρ B L) ρ B L v s) : Src P w (Av O ρ B L) sz v ys := by
  unfold rdSl at hs
  split at hs
  · rename_i t xs
    split at hs
    · rename_i hw
      injection hs with hs; subst hs
      obtain ⟨a, cap, rfl, hcap, hne⟩ := rd_sl_parts hr
      have hw' : ∀ x ∈ xs, x.cells.length = sz := by simpa [Ab.wid] using hw
      by_cases hx : xs = []
      · subst hx; exact src_of (by simp) (fun h => absurd rfl h)
      · obtain ⟨sz', b, o, k1, rfl, k2, k3, k4⟩ := hne hx
        exact src_of (fun y hy => ⟨hw' y hy, (k2 y hy).2⟩) fun _ => ⟨b, o, rfl, k4⟩
    · cases hs
  · rename_i id sz' off len ap
    have key : ∀ sz2 xs, (ent B L id = .own sz2 xs ∨ ent B L id = .frz sz2 xs) → sz = sz' ∧ sz' = sz2 ∧ off + len ≤ xs.length → ys = cutL xs off len → Src P w (Av O ρ B L) sz v ys := by
      rintro sz2 xs he ⟨rfl, rfl, hl⟩ rfl
      obtain ⟨k1, k2, k3⟩ := entRd hh he
      obtain ⟨_, cap, rfl, hcap, _⟩ := hr
      have hlen := cutL_length hl
      have := src_of (P := P) (w := w) (A := Av O ρ B L) (sz := sz) (cap := cap) (a := some ⟨(ρ id).1, off * sz, none⟩) (ys := cutL xs off len) (fun y hy => k2 y (mem_cutL hy)) (fun _ => ⟨_, _, rfl, fun j x hx => ?_⟩)
      · rw [hlen] at this; exact this
      · have hw1 : ∀ x ∈ xs, x.cells.length = sz := fun x hx => (k2 x hx).1
        have hj : j < len * sz := by
          have := (List.getElem?_eq_some_iff.1 hx).1
          rwa [flat_length _ (fun x hx => hw1 x (mem_cutL hx)), hlen] at this
        rw [flat_cutL xs off len hw1 hl j hj] at hx
        exact k3 _ x hx
    split at hs
    · rename_i sz2 xs he
      split at hs
      · rename_i hc; injection hs with hs; exact key _ _ (.inr he) hc hs.symm
      · cases hs
    · rename_i sz2 xs he
      split at hs
      · rename_i hc; injection hs with hs; exact key _ _ (.inl he) hc hs.symm
      · cases hs
    · cases hs
  · cases hs
theorem append_room {A : Nat → Prop} {t t' ty e e' : TypeId} {sz g sLen sCap : Nat} {cur : Array Value} {te : TypeId} {vy : Value} {ys : List FV} {news : List Value} (ht : P.underlying t = some (.slice e)) (ht' : P.underlying t' = some (.slice e')) (hs : szOf P e = some sz)
    (hg : w.heap[g]? = some (.cells cur te (0, 0))) (hlen : ∀ W, (Builtin.lenOf vy).run P W = .ok ys.length W) (hf : (Builtin.firstCells sz ys.length vy).run P w = .ok news.toArray w) (h1 : ∀ u ∈ news, u.oneCell' = true)
    (hroom : sLen + ys.length ≤ sCap) (hfit : sLen * sz + news.length ≤ cur.size) :
    (Builtin.append_ #[t, t'] ty #[.slice (some ⟨g, 0, none⟩) sLen sCap, vy]).run P w =
      .ok (.slice (some ⟨g, 0, none⟩) (sLen + ys.length) sCap) (w.setRow g (cur.toList.take (sLen * sz) ++ news ++ cur.toList.drop (sLen * sz + news.length)).toArray) := by
  obtain ⟨i, hi, rfl⟩ := Option.map_eq_some_iff.1 hs
  have hst := run_storeCells_at P g (sLen * i.size) te news 0 cur w hg (by simpa using hfit) h1
  simp only [Nat.add_zero] at hst
  simp [Builtin.append_, run_underlying ht, run_underlying ht', sizeOf, typeInfo, hi, hlen, hroom, hf, Addr.add_lit, hst]
theorem append_zero {t t' ty e e' : TypeId} {sz sLen sCap : Nat} {a : Addr} {vy : Value} {ys : List FV} (ht : P.underlying t = some (.slice e)) (ht' : P.underlying t' = some (.slice e')) (hs : szOf P e = some sz)
    (hlen : ∀ W, (Builtin.lenOf vy).run P W = .ok ys.length W) (hy : ys.length = 0) (hf : (Builtin.firstCells sz ys.length vy).run P w = .ok #[] w) (hroom : sLen ≤ sCap) :
    (Builtin.append_ #[t, t'] ty #[.slice (some a) sLen sCap, vy]).run P w = .ok (.slice (some a) sLen sCap) w := by
  obtain ⟨i, hi, rfl⟩ := Option.map_eq_some_iff.1 hs
  rw [hy] at hf
  simp [Builtin.append_, run_underlying ht, run_underlying ht', sizeOf, typeInfo, hi, hlen, hy, hroom, hf, storeCells]
theorem append_grow {A : Nat → Prop} {t t' ty e e' : TypeId} {i : TypeInfo} {z : Value} {b : Addr} {sLen sCap : Nat} {vy : Value} {ys : List FV} {news olds : List Value} (ht : P.underlying t = some (.slice e)) (ht' : P.underlying t' = some (.slice e')) (hi : P.info? e = some i) (hz : i.zero = some z)
    (hlo : olds.length = sLen * i.size) (holds : ∀ j v, olds[j]? = some v → w.cell? (b.add j) = some v)
    (hlen : ∀ W, (Builtin.lenOf vy).run P W = .ok ys.length W) (hf : (Builtin.firstCells i.size ys.length vy).run P w.drew = .ok news.toArray w.drew)
    (hg : sCap < sLen + ys.length) (h63 : ((sLen + ys.length : Nat) : Int) ≤ 9223372036854775807) (hfit : Builtin.nextslicecap (sLen + ys.length) sCap * i.bytes ≤ 281474976710656) :
    (Builtin.append_ #[t, t'] ty #[.slice (some b) sLen sCap, vy]).run P w =
      .ok (.slice (some ⟨w.heap.size, 0, none⟩) (sLen + ys.length) (grownCap w (sLen + ys.length) sCap e))
        (w.drew.alloc (.cells (olds.toArray ++ news.toArray ++ Builtin.zeroCells z.cells (grownCap w (sLen + ys.length) sCap e - (sLen + ys.length))) e)) := by
  have hn : ¬ (sLen + ys.length ≤ sCap) := by omega
  have h63' : ¬ (9223372036854775807 < ((sLen : Int) + (ys.length : Int))) := by omega
  have h48' : ¬ (281474976710656 < Builtin.nextslicecap (sLen + ys.length) sCap * i.bytes) := by omega
  have hfo := run_firstCells_some (P := P) w.drew i.size sLen b sLen sCap olds hlo (by simpa using holds)
  simp [Builtin.append_, run_underlying ht, run_underlying ht', sizeOf, typeInfo, zeroValue, hi, hz, hlen, hn, h63', h48', Question.forced, hf, hfo, newRow, grownCap]
  rw [← Array.append_assoc]
  simp
theorem append_nil {t t' ty e e' : TypeId} {i : TypeInfo} {z : Value} {vy : Value} {ys : List FV} {news : List Value} (ht : P.underlying t = some (.slice e)) (ht' : P.underlying t' = some (.slice e')) (hi : P.info? e = some i) (hz : i.zero = some z)
    (hlen : ∀ W, (Builtin.lenOf vy).run P W = .ok ys.length W) (hf : (Builtin.firstCells i.size ys.length vy).run P w.drew = .ok news.toArray w.drew)
    (h0 : 0 < ys.length) (h63 : ((ys.length : Nat) : Int) ≤ 9223372036854775807) (h48 : ys.length * i.bytes ≤ 281474976710656) :
    (Builtin.append_ #[t, t'] ty #[.slice none 0 0, vy]).run P w =
      .ok (.slice (some ⟨w.heap.size, 0, none⟩) ys.length (grownCap w ys.length 0 e)) (w.drew.alloc (.cells (news.toArray ++ Builtin.zeroCells z.cells (grownCap w ys.length 0 e - ys.length)) e)) := by
  have hn : ¬ (ys.length = 0) := by omega
  have h63' : ¬ (9223372036854775807 < (ys.length : Int)) := by omega
  have h48' : ¬ (281474976710656 < Builtin.nextslicecap ys.length 0 * i.bytes) := by rw [nextslicecap_zero h0]; omega
  have hys : ys ≠ [] := fun h => by subst h; simp at h0
  simp [Builtin.append_, run_underlying ht, run_underlying ht', sizeOf, typeInfo, zeroValue, hi, hz, hlen, hn, hys, h63', h48', Question.forced, run_firstCells_none, hf, newRow, grownCap]
end
end Go.Ab
namespace Go.Ab
section
variable {P : Program} {w w' : World} {O : Nat → Prop} {ρ : Rho} {B L : List Ent}
def Acts (P : Program) (w : World) (O : Nat → Prop) (ρ : Rho) (B L : List Ent) (r : Result Next) (s : SV) (B' L' : List Ent) : Prop :=
  ∃ v w' ρ', (r = .ok (.value v) w' ∨ (r = .ok .skip w' ∧ v = undef)) ∧ Ext w O ρ B L w' ρ' B' L' ∧ SvRel w' (Av O ρ' B' L') ρ' B' L' v s
theorem valid_push (B L : List Ent) (e : Ent) : (Id.l L.length).valid B (L ++ [e]) := by simp [Id.valid]
theorem setE_dead_weak {id : Id} (B L : List Ent) (h : (ent B L id).isOwn = true) : Weak B L (setE id .dead B L).1 (setE id .dead B L).2 := by
  intro i
  rw [ent_setE id .dead B L (own_valid h)]
  split
  · exact .inr (.inr rfl)
  · exact .inl rfl
theorem new_one {sz : Nat} {z : FV} {zv : Value} (hh : Heap w O ρ B L) (t : TypeId) (hz : 0 < sz) (hzl : z.cells.length = sz) (hr : CellsRel w (Av O ρ B L) zv.cells z.cells) :
    Ext w O ρ B L (w.alloc (.cells zv.cells t)) (upd ρ (.l L.length) (w.heap.size, 1)) B (L ++ [.own sz [z]]) :=
  Ext.insert hh (Weak.refl _ _) rfl rfl (.inl (Nat.le_refl _)) (Chg.alloc _ _ _) hz (fun x hx => by rw [List.mem_singleton.1 hx]; exact ⟨hzl, hr.2.1⟩) (by simp) (by simp [maxLen])
    (heap_alloc_new w _) (by rw [hr.1, hzl]; simp) (fun j x hx => by
      have hx' : z.cells[j]? = some x := by simpa [flat] using hx
      have hj : j < zv.cells.size := by rw [hr.1]; exact (List.getElem?_eq_some_iff.1 hx').1
      exact ⟨zv.cells[j], by simp [At, hj], hr.2.2 j _ x (by simp [At, hj]) hx'⟩)
theorem ptr_new (A : Nat → Prop) (W : World) (e : Ent) (sz n : Nat) : SvRel W A (upd ρ (.l L.length) (n, 1)) B (L ++ [e]) (.pointer (some ⟨n, 0, none⟩)) (.ptr (.l L.length) sz 0 0) :=
  ⟨valid_push _ _ _, by simp [upd]⟩
theorem mksl_run {t e : TypeId} {sz by' : Nat} {z : FV} {k : IntKind} {n : Int} (hh : Heap w O ρ B L) (h1 : P.underlying t = some (.slice e)) (h2 : szOf P e = some sz) (h3 : byOf P e = some by') (h4 : zeroOf P e = some z)
    (h0 : 0 ≤ n) (hb : n * by' ≤ 140737488355328) (hb0 : 0 < by') (hz : 0 < sz) (hzl : z.cells.length = sz) :
    ∃ w' ρ', (Instr.makeSlice t (.int k n) (.int k n)).run P w = .ok (.slice (some ⟨w.heap.size, 0, none⟩) n.toNat n.toNat) w' ∧ Ext w O ρ B L w' ρ' B (L ++ [.own sz (List.replicate n.toNat z)]) ∧ ρ' (.l L.length) = (w.heap.size, n.toNat) := by
  obtain ⟨zv, hz1, hz2, hz3, hz4⟩ := zeroOf_run h4
  obtain ⟨m, rfl⟩ := Int.eq_ofNat_of_zero_le h0
  have hbn : m * by' ≤ 140737488355328 := by
    have h' : ((m * by' : Nat) : Int) ≤ ((140737488355328 : Nat) : Int) := by rw [Int.natCast_mul]; exact hb
    exact Int.ofNat_le.1 h'
  have hm : m ≤ 140737488355328 := Nat.le_trans (Nat.le_mul_of_pos_right _ hb0) hbn
  have hwr : IntKind.i64.wrap (m : Int) = m := IntWalk.i64_in _ ⟨by omega, by omega⟩
  obtain ⟨i, hi, hby⟩ := Option.map_eq_some_iff.1 h3
  have hzr := zeros_rel (n := m) (hz4 w (Av O ρ B L)) hzl hz
  refine ⟨w.alloc (.cells ((Array.range (m * sz)).map fun i => (if m * sz = 0 then #[] else zv.cells)[i % (if m * sz = 0 then #[] else zv.cells).size]!) e), upd ρ (.l L.length) (w.heap.size, m), ?_, ?_, by simp [upd]⟩
  · unfold Instr.makeSlice
    simp only [Sem.run_bind, run_underlying h1, Result.andThen_ok, asInt, asIntOf, Sem.run_pure, typeInfo, run_program, hi, hwr]
    have e1 : (decide ((m : Int) < 0) || decide ((i.bytes : Int) * (m : Int) > 2 ^ 48)) = false := by
      have : ¬ ((i.bytes : Int) * (m : Int) > 2 ^ 48) := by
        rw [hby, Int.mul_comm]
        have h' : ((m * by' : Nat) : Int) ≤ ((140737488355328 : Nat) : Int) := Int.ofNat_le.2 hbn
        rw [Int.natCast_mul] at h'
        omega
      rw [decide_eq_false (by omega), decide_eq_false this]
      rfl
    simp only [e1, Bool.false_or]
    have e2 : (decide ((m : Int) < 0) || decide ((m : Int) > (m : Int))) = false := by simp
    rw [if_neg (by simp)]
    simp only [Sem.run_bind, run_askRoom, Result.andThen_ok, run_sizeOf h2, Int.toNat_natCast]
    by_cases hms : m * sz = 0
    · simp [hms, newRow]
    · simp [hms, hz1, newRow]
  · have hcells : CellsRel w (Av O ρ B L) ((Array.range (m * sz)).map fun i => (if m * sz = 0 then #[] else zv.cells)[i % (if m * sz = 0 then #[] else zv.cells).size]!) (flat (List.replicate m z)) := by
      by_cases hms : m * sz = 0
      · have hm0 : m = 0 := by rcases Nat.mul_eq_zero.1 hms with h | h <;> omega
        subst hm0
        simp [CellsRel, flat]
      · simp only [hms, if_false]; exact hzr
    have hfl : (flat (List.replicate m z)).length = m * sz := by
      rw [flat_length (sz := sz) _ (fun x hx => by rw [List.eq_of_mem_replicate hx]; exact hzl)]; simp
    refine Ext.insert hh (Weak.refl _ _) rfl rfl (.inl (Nat.le_refl _)) (Chg.alloc _ _ _) hz (fun x hx => ?_) (by simp) (by simp only [maxLen]; omega) (heap_alloc_new w _) (by rw [hcells.1, hfl]) (fun j x hx => ?_)
    · rw [List.eq_of_mem_replicate hx]
      exact ⟨hzl, (hz4 w (Av O ρ B L)).2.1⟩
    · have hj := (List.getElem?_eq_some_iff.1 hx).1
      have hj' : j < ((Array.range (m * sz)).map fun i => (if m * sz = 0 then #[] else zv.cells)[i % (if m * sz = 0 then #[] else zv.cells).size]!).size := by rw [hcells.1]; exact hj
      exact ⟨_, Array.getElem?_eq_getElem hj', hcells.2.2 j _ x (Array.getElem?_eq_getElem hj') hx⟩
theorem flat_app (xs ys : List FV) : flat (xs ++ ys) = flat xs ++ flat ys := by simp [flat]
theorem grown_ext {e : TypeId} {sz need old : Nat} {zs : List FV} {vals : List Value} {zc : Array Value} {B1 L1 : List Ent} (hh : Heap w O ρ B L) (hwk : Weak B L B1 L1) (hB : B1.length = B.length) (hL : L1.length = L.length)
    (hz : 0 < sz) (hw : ∀ x ∈ zs, x.cells.length = sz ∧ ∀ y ∈ x.cells, y.one = true) (hlen : zs.length = need) (hzc : zc.size = sz) (hv : vals.length = need * sz)
    (hr : ∀ (j : Nat) (x : FV), (flat zs)[j]? = some x → ∃ u : Value, vals[j]? = some u ∧ Rd w (Av O ρ B L) u x) (h63 : need ≤ maxLen) :
    Ext w O ρ B L (w.drew.alloc (.cells (vals.toArray ++ Builtin.zeroCells zc (grownCap w need old e - need)) e)) (upd ρ (.l L.length) (w.heap.size, grownCap w need old e)) B1 (L1 ++ [.own sz zs]) := by
  have hge := grownCap_ge w need old e
  have hle := grownCap_le_maxLen w need old e h63
  refine Ext.insert hh hwk hB hL (.inl (Nat.le_refl _)) ((Chg.drew _ _).trans (Chg.alloc _ _ _)) hz hw (by omega) hle (heap_alloc_new w.drew _) ?_ (fun j x hx => ?_)
  · simp only [Array.size_append, List.size_toArray, hv, size_zeroCells, hzc, ← Nat.add_mul]
    congr 1
    omega
  · obtain ⟨u, hu, hrd⟩ := hr j x hx
    refine ⟨u, ?_, hrd⟩
    have hj := (List.getElem?_eq_some_iff.1 hu).1
    simp only [At]
    rw [Array.getElem?_append_left (by simpa using hj)]
    simpa using hu
theorem app_nil_run {t t' ty e e' : TypeId} {sz by' : Nat} {z : FV} {vx vy : Value} {ys : List FV} (hh : Heap w O ρ B L) (h1 : P.underlying t = some (.slice e)) (h1' : P.underlying t' = some (.slice e')) (h2 : szOf P e = some sz) (h3 : byOf P e = some by') (h4 : zeroOf P e = some z) (hzl : z.cells.length = sz)
    (hx : vx = .slice none 0 0) (hs : Src P w (Av O ρ B L) sz vy ys) (hy : ys ≠ []) (hb : ys.length * by' ≤ 140737488355328) (hb0 : 0 < by') (hz : 0 < sz) :
    ∃ v w' ρ', (Builtin.append_ #[t, t'] ty #[vx, vy]).run P w = .ok v w' ∧ Ext w O ρ B L w' ρ' B (L ++ [.own sz ys]) ∧ SvRel w' (Av O ρ' B (L ++ [.own sz ys])) ρ' B (L ++ [.own sz ys]) v (.ref (.l L.length) sz 0 ys.length true) := by
  subst hx
  obtain ⟨zv, hz1, hz2, hz3, hz4⟩ := zeroOf_run h4
  obtain ⟨i, hi, hby⟩ := Option.map_eq_some_iff.1 h3
  have hsz : i.size = sz := by simpa [szOf, hi] using h2
  have hzi : i.zero = some zv := by
    have := hz1 w
    simp only [zeroValue, typeInfo, Sem.run_bind, run_program, Result.andThen_ok, hi, Sem.run_pure] at this
    cases hq : i.zero with
    | none => rw [hq] at this; simp at this
    | some q => rw [hq] at this; simp at this; rw [this]
  obtain ⟨news, n1, n2, n3, n4, n5⟩ := hs.ex
  have hpos : 0 < ys.length := List.length_pos_iff.2 hy
  have hle : ys.length ≤ 140737488355328 := Nat.le_trans (Nat.le_mul_of_pos_right _ hb0) hb
  have hrun := append_nil (P := P) (w := w) (ty := ty) h1 h1' hi hzi hs.len (by rw [hsz]; exact n3) hpos (by omega) (by rw [hby]; omega)
  have hext := grown_ext (e := e) (old := 0) (B1 := B) (L1 := L) (need := ys.length) (zc := zv.cells) hh (Weak.refl _ _) rfl rfl hz (fun x hx => ⟨hs.wid x hx, hs.one x hx⟩) rfl (by rw [(hz4 w (fun _ => False)).1, hzl]) n1 n4 (by simp only [maxLen]; omega)
  refine ⟨_, _, _, hrun, hext, valid_push _ _ _, grownCap w ys.length 0 e, by simp [upd], grownCap_ge _ _ _ _, fun _ => ⟨rfl, by simp [upd]⟩⟩
theorem app_full_run {t t' ty e e' : TypeId} {sz by' : Nat} {z : FV} {vx vy : Value} {xs ys : List FV} (hh : Heap w O ρ B L) (h1 : P.underlying t = some (.slice e)) (h1' : P.underlying t' = some (.slice e')) (h2 : szOf P e = some sz) (h3 : byOf P e = some by') (h4 : zeroOf P e = some z) (hzl : z.cells.length = sz)
    (hx : Rd w (Av O ρ B L) vx (.sl .full xs)) (hxs : xs ≠ []) (hw0 : ∀ x ∈ xs, x.cells.length = sz) (hs : Src P w (Av O ρ B L) sz vy ys) (hy : ys ≠ []) (hb : (xs.length + ys.length) * by' ≤ 140737488355328) (hb0 : 0 < by') (hz : 0 < sz) :
    ∃ v w' ρ', (Builtin.append_ #[t, t'] ty #[vx, vy]).run P w = .ok v w' ∧ Ext w O ρ B L w' ρ' B (L ++ [.own sz (xs ++ ys)]) ∧ SvRel w' (Av O ρ' B (L ++ [.own sz (xs ++ ys)])) ρ' B (L ++ [.own sz (xs ++ ys)]) v (.ref (.l L.length) sz 0 (xs.length + ys.length) true) := by
  obtain ⟨zv, hz1, hz2, hz3, hz4⟩ := zeroOf_run h4
  obtain ⟨i, hi, hby⟩ := Option.map_eq_some_iff.1 h3
  have hsz : i.size = sz := by simpa [szOf, hi] using h2
  have hzi : i.zero = some zv := by
    have := hz1 w
    simp only [zeroValue, typeInfo, Sem.run_bind, run_program, Result.andThen_ok, hi, Sem.run_pure] at this
    cases hq : i.zero with
    | none => rw [hq] at this; simp at this
    | some q => rw [hq] at this; simp at this; rw [this]
  obtain ⟨news, n1, n2, n3, n4, n5⟩ := hs.ex
  have hpos : 0 < ys.length := List.length_pos_iff.2 hy
  have hle : xs.length + ys.length ≤ 140737488355328 := Nat.le_trans (Nat.le_mul_of_pos_right _ hb0) hb
  cases hx with
  | slE t a c ht => exact absurd rfl hxs
  | sl tg xs sz' b o c f hz' hx hk hw ho hf hr ht =>
    have hc : c = xs.length := ht
    subst hc
    have hfl : (flat xs).length = xs.length * sz := flat_length _ hw0
    have hrun := append_grow (P := P) (w := w) (A := Av O ρ B L) (ty := ty) (b := ⟨b, o, none⟩) (sLen := xs.length) (sCap := xs.length) (olds := (List.range (xs.length * sz)).map f) h1 h1' hi hzi (by simp [hsz]) (fun j v hv => by
      have hj : j < xs.length * sz := by have := (List.getElem?_eq_some_iff.1 hv).1; simpa using this
      simp [hj] at hv
      rw [add_plain, ← hv]
      exact hf j (by omega)) hs.len (by rw [hsz]; exact n3) (by omega) (by omega) (growslice_fits (by omega) (by rw [hby]; exact hb))
    have hext := grown_ext (e := e) (old := xs.length) (B1 := B) (L1 := L) (need := xs.length + ys.length) (zs := xs ++ ys) (vals := (List.range (xs.length * sz)).map f ++ news) (zc := zv.cells) hh (Weak.refl _ _) rfl rfl hz
      (fun x hx => by
        rcases List.mem_append.1 hx with hx | hx
        · exact ⟨hw0 x hx, (hw x hx).2⟩
        · exact ⟨hs.wid x hx, hs.one x hx⟩) (by simp) (by rw [(hz4 w (fun _ => False)).1, hzl]) (by simp [n1, Nat.add_mul]) (fun j x hx => by
        rw [flat_app] at hx
        by_cases hj : j < (flat xs).length
        · rw [List.getElem?_append_left hj] at hx
          rw [List.getElem?_append_left (by simp; omega)]
          have hj' : j < xs.length * sz := by omega
          exact ⟨f j, by simp [hj'], hr j x hx⟩
        · rw [List.getElem?_append_right (by omega)] at hx
          rw [List.getElem?_append_right (by simp; omega)]
          simp only [List.length_map, List.length_range]
          rw [hfl] at hx
          exact n4 _ x hx) (by simp only [maxLen]; omega)
    refine ⟨_, _, _, hrun, by simpa using hext, valid_push _ _ _, grownCap w (xs.length + ys.length) xs.length e, by simp [upd], grownCap_ge _ _ _ _, fun _ => ⟨rfl, by simp [upd]⟩⟩
theorem app_own_run {t t' ty e e' : TypeId} {sz by' : Nat} {z : FV} {vx vy : Value} {id : Id} {xs ys : List FV} (hh : Heap w O ρ B L) (h1 : P.underlying t = some (.slice e)) (h1' : P.underlying t' = some (.slice e')) (h2 : szOf P e = some sz) (h3 : byOf P e = some by') (h4 : zeroOf P e = some z) (hzl : z.cells.length = sz)
    (he : ent B L id = .own sz xs) (hx : SvRel w (Av O ρ B L) ρ B L vx (.ref id sz 0 xs.length true)) (hs : Src P w (Av O ρ B L) sz vy ys) (hb : (xs.length + ys.length) * by' ≤ 140737488355328) (hb0 : 0 < by') :
    ∃ v w' ρ', (Builtin.append_ #[t, t'] ty #[vx, vy]).run P w = .ok v w' ∧ Ext w O ρ B L w' ρ' (setE id .dead B L).1 ((setE id .dead B L).2 ++ [.own sz (xs ++ ys)]) ∧
      SvRel w' (Av O ρ' (setE id .dead B L).1 ((setE id .dead B L).2 ++ [.own sz (xs ++ ys)])) ρ' (setE id .dead B L).1 ((setE id .dead B L).2 ++ [.own sz (xs ++ ys)]) v (.ref (.l L.length) sz 0 (xs.length + ys.length) true) := by
  obtain ⟨zv, hz1, hz2, hz3, hz4⟩ := zeroOf_run h4
  obtain ⟨i, hi, hby⟩ := Option.map_eq_some_iff.1 h3
  have hsz : i.size = sz := by simpa [szOf, hi] using h2
  have hzi : i.zero = some zv := by
    have := hz1 w
    simp only [zeroValue, typeInfo, Sem.run_bind, run_program, Result.andThen_ok, hi, Sem.run_pure] at this
    cases hq : i.zero with
    | none => rw [hq] at this; simp at this
    | some q => rw [hq] at this; simp at this; rw [this]
  obtain ⟨news, n1, n2, n3, n4, n5⟩ := hs.ex
  have hle : xs.length + ys.length ≤ 140737488355328 := Nat.le_trans (Nat.le_mul_of_pos_right _ hb0) hb
  obtain ⟨o1, o2, o3, o4, cur, te, o5, o6, o7⟩ := hh.own _ _ _ he
  have hiOwn : (ent B L id).isOwn = true := by rw [he]; rfl
  obtain ⟨hv, cap, rfl, hcap, hap⟩ := hx
  obtain ⟨_, rfl⟩ := hap rfl
  have hw1 : ∀ x ∈ xs, x.cells.length = sz := fun x hx => (o2 x hx).1
  have hfl : (flat xs).length = xs.length * sz := flat_length _ hw1
  have hwk := setE_dead_weak B L hiOwn
  obtain ⟨hl1, hl2⟩ := setE_length id .dead B L
  have hlv : (Id.l L.length).valid (setE id .dead B L).1 ((setE id .dead B L).2 ++ [.own sz (xs ++ ys)]) := by simp [Id.valid, hl2]
  have hw : ∀ x ∈ xs ++ ys, x.cells.length = sz ∧ ∀ y ∈ x.cells, y.one = true := fun x hx => by
    rcases List.mem_append.1 hx with hx | hx
    · exact o2 x hx
    · exact ⟨hs.wid x hx, hs.one x hx⟩
  have hcur : xs.length * sz ≤ cur.size := by rw [o6]; exact Nat.mul_le_mul_right _ o3
  simp only [Nat.zero_mul]
  by_cases hroom : xs.length + ys.length ≤ (ρ id).2
  · have hfit : xs.length * sz + news.length ≤ cur.size := by rw [n1, o6, ← Nat.add_mul]; exact Nat.mul_le_mul_right _ hroom
    have hrun := append_room (P := P) (w := w) (A := Av O ρ B L) (ty := ty) (sLen := xs.length) (sCap := (ρ id).2) h1 h1' h2 o5 hs.len n2 n5 hroom hfit
    have hext : Ext w O ρ B L (w.setRow (ρ id).1 (cur.toList.take (xs.length * sz) ++ news ++ cur.toList.drop (xs.length * sz + news.length)).toArray) (upd ρ (.l L.length) ((ρ id).1, (ρ id).2)) (setE id .dead B L).1 ((setE id .dead B L).2 ++ [.own sz (xs ++ ys)]) := by
      refine Ext.insert hh hwk hl1 hl2 (.inr ⟨id, hiOwn, rfl, by rw [ent_setE _ _ _ _ hv]; simp⟩) (Chg.setRow _ _ _) o1 hw (by simpa using hroom) o4 (setRow_heap w _ cur _ te _ o5) ?_ (fun j x hx => ?_)
      · have : cur.toList.length = cur.size := Array.length_toList
        simp only [List.size_toArray, List.length_append, List.length_take, List.length_drop, this]
        omega
      · rw [flat_app] at hx
        have hcl : (cur.toList.take (xs.length * sz)).length = xs.length * sz := by simp; omega
        simp only [At, List.getElem?_toArray]
        by_cases hj : j < (flat xs).length
        · rw [List.getElem?_append_left hj] at hx
          obtain ⟨u, hu, hr⟩ := o7 j x hx
          refine ⟨u, ?_, hr⟩
          rw [List.append_assoc, List.getElem?_append_left (by omega), List.getElem?_take_of_lt (by omega)]
          simpa [At] using hu
        · rw [List.getElem?_append_right (by omega), hfl] at hx
          obtain ⟨u, hu, hr⟩ := n4 _ x hx
          refine ⟨u, ?_, hr⟩
          rw [List.append_assoc, List.getElem?_append_right (by omega), hcl, List.getElem?_append_left (List.getElem?_eq_some_iff.1 hu).1]
          exact hu
    refine ⟨_, _, _, hrun, hext, hlv, (ρ id).2, by simp [upd], hroom, fun _ => ⟨rfl, by simp [upd]⟩⟩
  · have hrun := append_grow (P := P) (w := w) (A := Av O ρ B L) (ty := ty) (b := ⟨(ρ id).1, 0, none⟩) (sLen := xs.length) (sCap := (ρ id).2) (olds := cur.toList.take (xs.length * sz)) h1 h1' hi hzi (by simp [hsz]; omega) (fun j v hv => by
      have hj : j < xs.length * sz := by have := (List.getElem?_eq_some_iff.1 hv).1; simp at this; omega
      rw [List.getElem?_take_of_lt hj] at hv
      rw [add_plain]
      simp only [World.cell?, o5, Nat.zero_add]
      simpa using hv) hs.len (by rw [hsz]; exact n3) (by omega) (by omega) (growslice_fits (by omega) (by rw [hby]; exact hb))
    have hext := grown_ext (e := e) (old := (ρ id).2) (need := xs.length + ys.length) (zs := xs ++ ys) (vals := cur.toList.take (xs.length * sz) ++ news) (zc := zv.cells) hh hwk hl1 hl2 o1 hw (by simp) (by rw [(hz4 w (fun _ => False)).1, hzl]) (by
        have : (cur.toList.take (xs.length * sz)).length = xs.length * sz := by simp; omega
        rw [List.length_append, this, n1, Nat.add_mul]) (fun j x hx => by
        rw [flat_app] at hx
        have hcl : (cur.toList.take (xs.length * sz)).length = xs.length * sz := by simp; omega
        by_cases hj : j < (flat xs).length
        · rw [List.getElem?_append_left hj] at hx
          obtain ⟨u, hu, hr⟩ := o7 j x hx
          rw [List.getElem?_append_left (by omega), List.getElem?_take_of_lt (by omega)]
          exact ⟨u, by simpa [At] using hu, hr⟩
        · rw [List.getElem?_append_right (by omega)] at hx
          rw [List.getElem?_append_right (by omega), hcl]
          rw [hfl] at hx
          exact n4 _ x hx) (by simp only [maxLen]; omega)
    refine ⟨_, _, _, hrun, by simpa using hext, hlv, grownCap w (xs.length + ys.length) (ρ id).2 e, by simp [upd], grownCap_ge _ _ _ _, fun _ => ⟨rfl, by simp [upd]⟩⟩
end
end Go.Ab
namespace Go.Ab
section
variable {P : Program} {w w' : World} {O : Nat → Prop} {ρ : Rho} {B L : List Ent}
theorem evA_run {nt : Nat} {val : Operand → Value} {g : Look} {call : Disp} (o : Oper) {io : IOp} {s : SV} {B' L' : List Ent} (hh : Heap w O ρ B L) (hg : Ops P nt w O ρ B L val g o.op)
    (htr : trOp P nt o.op = some io) (hnc : ∀ f as, io ≠ .call f as) (h : evA call io g B L = some (s, B', L')) : Acts P w O ρ B L ((execOp val o).run P w) s B' L' := by
  have quiet : ((evQ call io g B L).map fun s => (s, B, L)) = some (s, B', L') → Acts P w O ρ B L ((execOp val o).run P w) s B' L' := by
    intro h
    obtain ⟨s', hs, he⟩ := Option.map_eq_some_iff.1 h
    simp only [Prod.mk.injEq] at he
    obtain ⟨rfl, rfl, rfl⟩ := he
    obtain ⟨v, w', h1, h2, h3⟩ := evQ_run o hh hg htr hnc hs
    exact ⟨v, w', ρ, .inl h1, hh.grow h2, h3⟩
  obtain ⟨dst, op, type, pos, after, guard⟩ := o
  cases op <;> simp only [trOp] at htr
  case alloc e =>
    simp only [Option.bind_eq_some_iff, Option.map_eq_some_iff] at htr
    obtain ⟨sz, h2, z, h3, rfl⟩ := htr
    simp only [evA] at h
    split at h
    · rename_i hc
      simp only [Option.some.injEq, Prod.mk.injEq] at h
      obtain ⟨rfl, rfl, rfl⟩ := h
      obtain ⟨zv, hz1, hz2, hz3, hz4⟩ := zeroOf_run h3
      refine ⟨.pointer (some ⟨w.heap.size, 0, none⟩), _, _, .inl ?_, new_one hh e hc.1 hc.2 (hz4 w _), ptr_new _ _ _ _ _⟩
      simp [execOp, Instr.alloc, hz1, newVar, newRow]
    · cases h
  case box e x =>
    simp only [Option.bind_eq_some_iff, Option.map_eq_some_iff] at htr
    obtain ⟨sz, h2, x', h3, rfl⟩ := htr
    have hr := hg x x' (by simp [Op.operands]) h3
    simp only [evA, Option.bind_eq_some_iff] at h
    obtain ⟨y, hy, h⟩ := h
    split at h
    · rename_i hc
      simp only [Option.some.injEq, Prod.mk.injEq] at h
      obtain ⟨rfl, rfl, rfl⟩ := h
      have hcr := Rd.cellsRel (toFV_rd hh hy hr) hc.2.2
      refine ⟨.pointer (some ⟨w.heap.size, 0, none⟩), _, _, .inl ?_, new_one hh e hc.1 hc.2.1 hcr, ptr_new _ _ _ _ _⟩
      simp [execOp, Instr.box, newVar, newRow]
    · cases h
  case store t a x =>
    simp only [Option.bind_eq_some_iff, Option.map_eq_some_iff] at htr
    obtain ⟨n, h2, a', ha, x', hx, rfl⟩ := htr
    have hra := hg a a' (by simp [Op.operands]) ha
    have hrx := hg x x' (by simp [Op.operands]) hx
    simp only [evA] at h
    split at h
    · rename_i id sz i c hga
      rw [hga] at hra
      obtain ⟨hv, hva⟩ := hra
      split at h
      · rename_i sz2 xs he
        split at h
        · rename_i hs; subst hs
          simp only [Option.bind_eq_some_iff] at h
          obtain ⟨y, hy, h⟩ := h
          split at h
          · rename_i hc
            simp only [Option.bind_eq_some_iff, Option.map_eq_some_iff, Prod.mk.injEq] at h
            obtain ⟨e, hi, e', hs, rfl, rfl, rfl⟩ := h
            obtain ⟨w', hw1, hw2⟩ := Ext.store (P := P) (t := t) hh he hi hs (toFV_rd hh hy hrx) hc.2 h2 hc.1
            refine ⟨undef, w', ρ, .inr ⟨?_, rfl⟩, hw2, trivial⟩
            simp only [execOp, Instr.storeAt, hva, Instr.sureAddr, Sem.run_bind, Sem.run_pure, Result.andThen_ok, hw1]
          · cases h
        · cases h
      · cases h
    · cases h
  case makeSlice t l c =>
    simp only [Option.bind_eq_some_iff, Option.map_eq_some_iff] at htr
    obtain ⟨e, h1, sz, h2, by', h3, z, h4, l', hl, c', hc', rfl⟩ := htr
    have hrl := hg l l' (by simp [Op.operands]) hl
    have hrc := hg c c' (by simp [Op.operands]) hc'
    simp only [evA] at h
    split at h
    · rename_i k n k' m hgl hgc
      rw [hgl] at hrl; rw [hgc] at hrc
      have e1 := Rd.inv_int hrl
      have e2 := Rd.inv_int hrc
      split at h
      · rename_i hc
        obtain ⟨rfl, rfl, h0, hb, hb0, hz, hzl⟩ := hc
        simp only [Option.some.injEq, Prod.mk.injEq] at h
        obtain ⟨rfl, rfl, rfl⟩ := h
        obtain ⟨w', ρ', k1, k2, k3⟩ := mksl_run (P := P) (k := k) hh (sliceOf_und h1) h2 h3 h4 h0 hb hb0 hz hzl
        refine ⟨.slice (some ⟨w.heap.size, 0, none⟩) n.toNat n.toNat, w', ρ', .inl ?_, k2, valid_push _ _ _, n.toNat, ?_, Nat.le_refl _, fun _ => ⟨rfl, by rw [k3]⟩⟩
        · simp only [execOp, e1, e2, Sem.run_bind, Sem.run_pure, k1, Result.andThen_ok]
        · rw [k3]; simp
      · cases h
    · cases h
  case call c =>
    unfold trCall at htr
    obtain ⟨callee, args, argTypes⟩ := c
    simp only at htr
    split at htr
    · -- len
      split at htr
      · split at htr <;> first | (cases htr; done) | (obtain ⟨x', hx, rfl⟩ := Option.map_eq_some_iff.1 htr; exact quiet h)
      · cases htr
    · -- append
      split at htr
      · rename_i x y t t' ha hat
        have hargs : args = #[x, y] := by rw [← Array.toArray_toList (xs := args), ha]
        have htys : argTypes = #[t, t'] := by rw [← Array.toArray_toList (xs := argTypes), hat]
        subst hargs; subst htys
        simp only [Option.bind_eq_some_iff] at htr
        obtain ⟨e, h1, e', h1', sz, h2, by', h3, z, h4, htr⟩ := htr
        split at htr
        · rename_i hzl
          simp only [Option.bind_eq_some_iff, Option.map_eq_some_iff] at htr
          obtain ⟨x', hx, y', hy, rfl⟩ := htr
          have hrx := hg x x' (by simp [Op.operands, Call.operands]) hx
          have hry := hg y y' (by simp [Op.operands, Call.operands]) hy
          simp only [evA, Option.bind_eq_some_iff] at h
          obtain ⟨ys, hys, h⟩ := h
          have hsrc := rdSl_src (P := P) hh hys hry
          have fin : ∀ s B' L', (∃ v w' ρ', (Builtin.append_ #[t, t'] type #[val x, val y]).run P w = .ok v w' ∧ Ext w O ρ B L w' ρ' B' L' ∧ SvRel w' (Av O ρ' B' L') ρ' B' L' v s) →
              Acts P w O ρ B L ((execOp val ⟨dst, .call ⟨.builtin .append, #[x, y], #[t, t']⟩, type, pos, after, guard⟩).run P w) s B' L' := by
            rintro s B' L' ⟨v, w', ρ', k1, k2, k3⟩
            refine ⟨v, w', ρ', .inl ?_, k2, k3⟩
            simp only [execOp, resolve, invoke, builtin, Sem.run_bind, Sem.run_pure, Result.andThen_ok, List.map_toArray, List.map_cons, List.map_nil, k1]
          split at h
          · rename_i hgx
            rw [hgx] at hrx
            have hvx : val x = .slice none 0 0 := by
              have : ∀ v, Rd w (Av O ρ B L) v (.sl .nil []) → v = .slice none 0 0 := by
                intro v hv
                cases hv with
                | slE t a c h => obtain ⟨rfl, _, rfl⟩ := h; rfl
                | sl t xs sz b o c f hz hx => exact absurd rfl hx
              exact this _ hrx
            split at h
            · rename_i hy0
              subst hy0
              simp only [Option.some.injEq, Prod.mk.injEq] at h
              obtain ⟨rfl, rfl, rfl⟩ := h
              refine fin _ _ _ ⟨.slice none 0 0, w, ρ, ?_, Ext.refl hh, Rd.slE _ _ _ ⟨rfl, rfl, rfl⟩⟩
              obtain ⟨news, n1, n2, _⟩ := hsrc.ex
              have hn : news = [] := List.eq_nil_of_length_eq_zero (by rw [n1]; simp)
              subst hn
              obtain ⟨i, hi, hsz⟩ := Option.map_eq_some_iff.1 h2
              subst hsz
              have n2' : (Builtin.firstCells i.size 0 (val y)).run P w = .ok #[] w := n2
              have hl' : ∀ W, (Builtin.lenOf (val y)).run P W = .ok 0 W := hsrc.len
              rw [hvx]
              simp [Builtin.append_, run_underlying (sliceOf_und h1), run_underlying (sliceOf_und h1'), sizeOf, typeInfo, hi, hl', n2']
            · rename_i hy0
              split at h
              · rename_i hc
                simp only [Option.some.injEq, Prod.mk.injEq] at h
                obtain ⟨rfl, rfl, rfl⟩ := h
                exact fin _ _ _ (app_nil_run hh (sliceOf_und h1) (sliceOf_und h1') h2 h3 h4 hzl hvx hsrc hy0 hc.1 hc.2.1 hc.2.2)
              · cases h
          · rename_i x0 xs hgx
            rw [hgx] at hrx
            split at h
            · rename_i h0
              simp only [Option.some.injEq, Prod.mk.injEq] at h
              obtain ⟨rfl, rfl, rfl⟩ := h
              obtain ⟨news, n1, n2, n3, n4, n5⟩ := hsrc.ex
              have hn : news = [] := List.eq_nil_of_length_eq_zero (by rw [n1, h0]; simp)
              subst hn
              obtain ⟨a0, cap, hv, hcap, hne⟩ := rd_sl_parts hrx
              obtain ⟨sz', b, o, ha0, ha, _⟩ := hne (by simp)
              have := append_zero (P := P) (w := w) (ty := type) (a := ⟨b, o, none⟩) (sLen := (x0 :: xs).length) (sCap := cap) (sliceOf_und h1) (sliceOf_und h1') h2 hsrc.len h0 (by simpa using n2) hcap
              exact fin _ _ _ ⟨_, _, ρ, by rw [hv, ha]; exact this, Ext.refl hh, by rw [← ha, ← hv]; exact hrx⟩
            split at h
            · rename_i hc
              simp only [Option.some.injEq, Prod.mk.injEq] at h
              obtain ⟨rfl, rfl, rfl⟩ := h
              have hw0 : ∀ q ∈ x0 :: xs, q.cells.length = sz := by
                obtain ⟨a, cap, _, _, hne⟩ := rd_sl_parts hrx
                obtain ⟨sz', b, o, _, _, k2, _⟩ := hne (by simp)
                have : sz' = sz := by rw [← (k2 x0 (by simp)).1]; exact hc.2.2.2.2
                subst this
                exact fun q hq => (k2 q hq).1
              have := app_full_run (P := P) (ty := type) hh (sliceOf_und h1) (sliceOf_und h1') h2 h3 h4 hzl hrx (by simp) hw0 hsrc hc.1 (by simpa using hc.2.1) hc.2.2.1 hc.2.2.2.1
              exact fin _ _ _ (by simpa using this)
            · cases h
          · rename_i id sz' n hgx
            rw [hgx] at hrx
            split at h
            · rename_i sz2 xs he
              split at h
              · rename_i hc
                obtain ⟨rfl, rfl, rfl, hb, hb0⟩ := hc
                simp only [Option.some.injEq, Prod.mk.injEq] at h
                obtain ⟨rfl, rfl, rfl⟩ := h
                exact fin _ _ _ (app_own_run hh (sliceOf_und h1) (sliceOf_und h1') h2 h3 h4 hzl he hrx hsrc hb hb0)
              · cases h
            · cases h
          · cases h
        · cases htr
      · cases htr
    · obtain ⟨as, ha, rfl⟩ := Option.map_eq_some_iff.1 htr; exact quiet h
    · obtain ⟨as, ha, rfl⟩ := Option.map_eq_some_iff.1 htr; exact quiet h
    · simp only [Option.bind_eq_some_iff, Option.map_eq_some_iff] at htr
      obtain ⟨f, _, as, _, rfl⟩ := htr
      exact absurd rfl (hnc _ _)
    · cases htr
  case build t ps =>
    simp only [Option.bind_eq_some_iff] at htr
    obtain ⟨fs, h1, z, h2, htr⟩ := htr
    split at htr
    · obtain ⟨qs, h4, rfl⟩ := Option.map_eq_some_iff.1 htr; exact quiet h
    · cases htr
  case convert a b x =>
    split at htr
    · obtain ⟨x', hx, rfl⟩ := Option.map_eq_some_iff.1 htr; exact quiet h
    · cases htr
  case fieldAddr t x i =>
    simp only [Option.bind_eq_some_iff] at htr
    obtain ⟨fs, h1, f, h2, ag, h3, n, h4, x', hx, htr⟩ := htr
    split at htr
    · injection htr with htr; subst htr; exact quiet h
    · cases htr
  case index t x i =>
    split at htr
    · simp only [Option.bind_eq_some_iff, Option.map_eq_some_iff] at htr
      obtain ⟨x', hx, i', hi, rfl⟩ := htr
      exact quiet h
    · cases htr
  all_goals first
    | (cases htr; done)
    | (obtain ⟨_, _, rfl⟩ := Option.map_eq_some_iff.1 htr; exact quiet h)
    | (simp only [Option.bind_eq_some_iff, Option.map_eq_some_iff] at htr; obtain ⟨_, _, _, _, rfl⟩ := htr; exact quiet h)
    | (simp only [Option.bind_eq_some_iff, Option.map_eq_some_iff] at htr; obtain ⟨_, _, _, _, _, _, rfl⟩ := htr; exact quiet h)
    | (simp only [Option.bind_eq_some_iff, Option.map_eq_some_iff] at htr; obtain ⟨_, _, _, _, _, _, _, _, rfl⟩ := htr; exact quiet h)
    | (simp only [Option.bind_eq_some_iff, Option.map_eq_some_iff] at htr; obtain ⟨_, _, _, _, _, _, _, _, _, _, rfl⟩ := htr; exact quiet h)
    | (simp only [Option.bind_eq_some_iff, Option.map_eq_some_iff] at htr; obtain ⟨_, _, _, _, _, _, _, _, _, _, _, _, rfl⟩ := htr; exact quiet h)
structure Good (P : Program) (call : Disp) : Prop where
  ent : ∀ f args B r B' L', call f args B = some (r, B', L') → ∀ (vs : Array Value) (w : World), (callFunc f vs).run P w = .ok (.enter f vs) w
  run : ∀ f args B r B' L', call f args B = some (r, B', L') → ∀ (w : World) (O : Nat → Prop) (ρ : Rho) (vs : Array Value), Heap w O ρ B [] → vs.size = args.length →
    (∀ j v s, At vs j = some v → args[j]? = some s → SvRel w (Av O ρ B []) ρ B [] v s) →
    Calls P f vs w fun e w' => ∃ v ρ', e = .returned v ∧ Ext w O ρ B [] w' ρ' B' L' ∧ SvRel w' (Av O ρ' B' L') ρ' B' L' v r
theorem Heap.none (hh : Heap w O ρ B L) (σ : Rho) : Heap w (Av O ρ B L) σ [] [] := by
  have hd : ∀ i, ent ([] : List Ent) [] i = .dead := fun i => by cases i <;> simp [ent]
  refine ⟨fun i j hi => ?_, fun i hi => ?_, hh.avLt, fun i sz xs h => ?_, fun i sz xs h => ?_⟩
  · rw [hd] at hi; simp [Ent.isOwn] at hi
  · rw [hd] at hi; simp [Ent.isOwn] at hi
  · rw [hd] at h; cases h
  · rw [hd] at h; cases h
theorem Av_none (A : Nat → Prop) (σ : Rho) (b : Nat) : Av A σ [] [] b ↔ A b := by
  have hd : ∀ i, ent ([] : List Ent) [] i = .dead := fun i => by cases i <;> simp [ent]
  constructor
  · rintro (h | ⟨i, hi, _⟩)
    · exact h
    · rw [hd] at hi; simp [Ent.isOwn] at hi
  · exact .inl
theorem Rd.congrA {A A' : Nat → Prop} (h : ∀ b, A' b → A b) {v : Value} {x : FV} (hr : Rd w A v x) : Rd w A' v x :=
  Rd.mono (Chg.refl (fun _ => False) w) (fun _ h => h.elim) (fun b _ h' => h b h') hr
theorem fz_weak (B L : List Ent) : Weak B L (B.map Ent.fz) (L.map Ent.fz) := by
  intro i
  refine .inr (.inl ?_)
  cases i <;> simp only [ent, List.getD_eq_getElem?_getD, List.getElem?_map]
  · rename_i i; cases B[i]? <;> rfl
  · rename_i i; cases L[i]? <;> rfl
theorem ofValue_fn (f : FuncId) (fs cs : Array Value) (args : Array Value) (w : World) : (Deferred.ofValue (.func (.func f) fs cs) args).run P w = .ok { target := .fn (.func f) cs, args := fs ++ args } w := rfl
theorem call_op_run {val : Operand → Value} {f : Operand} {args : Array Operand} {ts : Array TypeId} {dst : Option Tmp} {type : TypeId} {pos : String} {after : Array Edge} {guard : Option (Nat × Bool)} {n : FuncId} {fs cs : Array Value}
    (hf : val f = .func (.func n) fs cs) (he : (callFunc n (fs ++ args.map val ++ cs)).run P w = .ok (.enter n (fs ++ args.map val ++ cs)) w) :
    (execOp val ⟨dst, .call ⟨.value f, args, ts⟩, type, pos, after, guard⟩).run P w = .ok (.enter n (fs ++ args.map val ++ cs)) w := by
  simp only [execOp, resolve, Sem.run_bind, hf, ofValue_fn, Result.andThen_ok, invoke, he]
theorem at_append {a b : Array Value} {xs ys : List FV} {A : Nat → Prop} (hl : a.size = xs.length) (ha : ∀ j v x, At a j = some v → xs[j]? = some x → Rd w A v x) (hb : ∀ j v x, At b j = some v → ys[j]? = some x → Rd w A v x) :
    ∀ j v x, At (a ++ b) j = some v → (xs ++ ys)[j]? = some x → Rd w A v x := by
  intro j v x hv hx
  by_cases hj : j < a.size
  · simp only [At] at hv
    rw [Array.getElem?_append_left hj] at hv
    rw [List.getElem?_append_left (by omega)] at hx
    exact ha j v x hv hx
  · simp only [At] at hv
    rw [Array.getElem?_append_right (by omega)] at hv
    rw [List.getElem?_append_right (by omega)] at hx
    rw [hl] at hv
    exact hb _ v x hv hx
theorem evQ_call_wp {nt : Nat} {a : Act} {g : Look} {call : Disp} (good : Good P call) {dst : Option Tmp} {f : Operand} {args : Array Operand} {ts : Array TypeId} {type : TypeId} {pos : String} {after : Array Edge} {guard : Option (Nat × Bool)}
    {f' : Opd} {as : List Opd} {s : SV} (hh : Heap w O ρ B L) (hg : Ops P nt w O ρ B L a.eval g (.call ⟨.value f, args, ts⟩)) (h1 : trOpd nt f = some f') (h2 : trOpds nt args.toList = some as)
    (h : evQ call (.call f' as) g B L = some s) {next : Act → World → Prop} {Q : Exit → Act → World → Prop}
    (hn : ∀ v w', Chg (fun _ => False) w w' → SvRel w' (Av O ρ B L) ρ B L v s → next (a.put dst v) w') : Oper.wp P ⟨dst, .call ⟨.value f, args, ts⟩, type, pos, after, guard⟩ a w next Q := by
  simp only [evQ] at h
  split at h
  · rename_i n first caps hgf
    simp only [Option.bind_eq_some_iff] at h
    obtain ⟨xs, hx, h⟩ := h
    split at h
    · rename_i r B' L' hc
      obtain ⟨y, hy, rfl⟩ := Option.map_eq_some_iff.1 h
      have hrf := hg f f' (by simp [Op.operands, Call.operands]) h1
      rw [hgf] at hrf
      obtain ⟨fs, cs, hvf, k1, k2, k3, k4⟩ := Rd.inv_fn hrf
      obtain ⟨a1, a2⟩ := opds_rel (w := w) (O := O) (ρ := ρ) (B := B) (L := L) (val := a.eval) (g := g) h2 (fun x y hx => hg x y (by simp [Op.operands, Call.operands]; exact .inr (by simpa using hx)))
      obtain ⟨c1, c2⟩ := toFVs_rel hh _ _ _ hx a1 a2
      have hm : (args.map a.eval).size = xs.length := by rw [c1, ← a1]; simp
      have hall : ∀ j v x, At (fs ++ args.map a.eval ++ cs) j = some v → (first ++ xs ++ caps)[j]? = some x → Rd w (Av O ρ B L) v x :=
        at_append (by simp [k1, hm]) (at_append k1 k3 fun j v x hv hx => c2 j v x (by simpa [At] using hv) hx) k4
      have hcalls := good.run _ _ _ _ _ _ hc w (Av O ρ B L) ρ (fs ++ args.map a.eval ++ cs) (hh.none ρ) (by simp [k1, k2, hm]) (fun j v s hv hs => by
        simp only [List.getElem?_map, Option.map_eq_some_iff] at hs
        obtain ⟨x, hx, rfl⟩ := hs
        exact Rd.congrA (fun b h => (Av_none _ _ b).1 h) (hall j v x hv hx))
      unfold Oper.wp
      rw [call_op_run hvf (good.ent _ _ _ _ _ _ hc _ w), Oper.upon_enter]
      refine hcalls.mono ?_
      rintro e w' ⟨v, ρ', rfl, hext, hrel⟩
      have hB' : B' = [] := List.eq_nil_of_length_eq_zero (by simpa using hext.lenB)
      subst hB'
      refine hn v w' ?_ ?_
      · exact hext.chg.mono fun k _ ⟨i, hi, _⟩ => by
          have hd : ent ([] : List Ent) [] i = .dead := by cases i <;> simp [ent]
          rw [hd] at hi; simp [Ent.isOwn] at hi
      · have hwk := fz_weak [] L'
        have hh' := hext.heap.weaken hwk
        have hrel' := SvRel.weak hwk (by simp) (by simp) hrel
        have hrd := toFV_rd hh' hy hrel'
        refine Rd.congrA (fun b hb => ?_) hrd
        exact .inl hb
    · cases h
  · cases h
end
end Go.Ab
namespace Go.Ab
def Less (B L B2 L2 : List Ent) : Prop := ∀ id, ent B L id ≠ .dead → ent B2 L2 id = ent B L id
section
variable {B L B2 L2 : List Ent}
theorem Less.eq (h : Less B L B2 L2) {id : Id} {e : Ent} (he : ent B L id = e) (hd : e ≠ .dead) : ent B2 L2 id = e := by
  rw [h id (by rw [he]; exact hd), he]
theorem capFV_mono (h : Less B L B2 L2) {c : Cap} {x : FV} (hc : capFV B L c = some x) : capFV B2 L2 c = some x := by
  cases c with
  | fz y => exact hc
  | own id sz =>
    simp only [capFV] at hc ⊢
    cases he : ent B L id with
    | dead => rw [he] at hc; cases hc
    | own s y => rw [he] at hc; cases hc
    | frz s y => rw [he] at hc; rw [h.eq he (by simp)]; exact hc
theorem capsFV_mono (h : Less B L B2 L2) : ∀ {cs : List Cap} {xs : List FV}, capsFV B L cs = some xs → capsFV B2 L2 cs = some xs
  | [], xs, hc => hc
  | c :: cs, xs, hc => by
    simp only [capsFV, Option.bind_eq_some_iff, Option.map_eq_some_iff] at hc ⊢
    obtain ⟨x, hx, ys, hy, rfl⟩ := hc
    exact ⟨x, capFV_mono h hx, ys, capsFV_mono h hy, rfl⟩
theorem toFV_mono (h : Less B L B2 L2) {s : SV} {x : FV} (hs : toFV B L s = some x) : toFV B2 L2 s = some x := by
  cases s with
  | unk => exact hs
  | fv y => exact hs
  | ref id sz off len ap =>
    simp only [toFV] at hs ⊢
    cases he : ent B L id with
    | dead => rw [he] at hs; cases hs
    | own s y => rw [he] at hs; cases hs
    | frz s y => rw [he] at hs; rw [h.eq he (by simp)]; exact hs
  | ptr id sz i c =>
    simp only [toFV] at hs ⊢
    cases he : ent B L id with
    | dead => rw [he] at hs; cases hs
    | own s y => rw [he] at hs; cases hs
    | frz s y => rw [he] at hs; rw [h.eq he (by simp)]; exact hs
  | clo f nf caps =>
    simp only [toFV, Option.map_eq_some_iff] at hs ⊢
    obtain ⟨xs, hx, rfl⟩ := hs
    exact ⟨xs, capsFV_mono h hx, rfl⟩
end
theorem mem_dedup : ∀ (l : List Id) (i : Id), i ∈ dedup l ↔ i ∈ l
  | [], i => by simp [dedup]
  | a :: l, i => by
    have ih := mem_dedup l
    simp only [dedup]
    split
    · rename_i h
      rw [ih i]
      constructor
      · exact fun h' => List.mem_cons_of_mem _ h'
      · intro h'
        rcases List.mem_cons.1 h' with rfl | h'
        · exact (ih i).1 h
        · exact h'
    · simp [ih i]
theorem nodup_dedup : ∀ (l : List Id), (dedup l).Nodup
  | [] => List.nodup_nil
  | a :: l => by
    simp only [dedup]
    split
    · exact nodup_dedup l
    · rename_i h
      exact List.nodup_cons.2 ⟨h, nodup_dedup l⟩
section
variable {P : Program} {w w' : World} {O : Nat → Prop} {ρ : Rho} {B L : List Ent}
def OutO (O : Nat → Prop) (ρ : Rho) (B L : List Ent) (sel : List Id) (b : Nat) : Prop := O b ∨ ∃ i, (ent B L i).isOwn = true ∧ i ∉ sel ∧ (ρ i).1 = b
def subR (ρ : Rho) (sel : List Id) : Rho
  | .b j => ρ (sel.getD j (.b 0))
  | .l _ => (0, 0)
theorem nodup_idx {sel : List Id} (hn : sel.Nodup) {a b : Nat} {k : Id} (ha : sel[a]? = some k) (hb : sel[b]? = some k) : a = b :=
  (List.getElem?_inj (List.getElem?_eq_some_iff.1 ha).1 hn).1 (ha.trans hb.symm)
theorem ent_sub (sel : List Id) (i : Id) : ent (sel.map (ent B L)) [] i = match i with | .b j => (match sel[j]? with | some k => ent B L k | none => .dead) | .l _ => .dead := by
  cases i with
  | b j => simp only [ent, List.getD_eq_getElem?_getD, List.getElem?_map]; cases sel[j]? <;> rfl
  | l j => simp [ent]
theorem sub_own {sel : List Id} {i : Id} (h : (ent (sel.map (ent B L)) [] i).isOwn = true) : ∃ j k, i = .b j ∧ sel[j]? = some k ∧ (ent B L k).isOwn = true ∧ subR ρ sel i = ρ k := by
  rw [ent_sub] at h
  cases i with
  | b j =>
    simp only at h
    cases hk : sel[j]? with
    | none => rw [hk] at h; simp [Ent.isOwn] at h
    | some k => rw [hk] at h; exact ⟨j, k, rfl, hk, h, by simp [subR, List.getD_eq_getElem?_getD, hk]⟩
  | l j => simp [Ent.isOwn] at h
theorem av_sub {sel : List Id} (b : Nat) : Av (OutO O ρ B L sel) (subR ρ sel) (sel.map (ent B L)) [] b ↔ Av O ρ B L b := by
  constructor
  · rintro ((h | ⟨i, hi, _, e⟩) | ⟨i, hi, e⟩)
    · exact .inl h
    · exact .inr ⟨i, hi, e⟩
    · obtain ⟨j, k, rfl, hk, ho, hr⟩ := sub_own (ρ := ρ) hi
      exact .inr ⟨k, ho, by rw [← hr]; exact e⟩
  · rintro (h | ⟨i, hi, e⟩)
    · exact .inl (.inl h)
    · by_cases hs : i ∈ sel
      · obtain ⟨j, hj⟩ := List.mem_iff_getElem?.1 hs
        refine .inr ⟨.b j, ?_, ?_⟩
        · rw [ent_sub]; simp only [hj]; exact hi
        · simp [subR, List.getD_eq_getElem?_getD, hj, e]
      · exact .inl (.inr ⟨i, hi, hs, e⟩)
theorem heap_sub (hh : Heap w O ρ B L) {sel : List Id} (hn : sel.Nodup) : Heap w (OutO O ρ B L sel) (subR ρ sel) (sel.map (ent B L)) [] := by
  refine ⟨?_, ?_, ?_, ?_, ?_⟩
  · intro i j hi hj e
    obtain ⟨a, k, rfl, hk, ho, hr⟩ := sub_own (ρ := ρ) hi
    obtain ⟨a', k', rfl, hk', ho', hr'⟩ := sub_own (ρ := ρ) hj
    rw [hr, hr'] at e
    have := hh.inj k k' ho ho' e
    subst this
    rw [nodup_idx hn hk hk']
  · intro i hi
    obtain ⟨a, k, rfl, hk, ho, hr⟩ := sub_own (ρ := ρ) hi
    rw [hr]
    rintro (h | ⟨i', hi', hs, e⟩)
    · exact hh.notO k ho h
    · have := hh.inj i' k hi' ho e
      subst this
      exact hs (List.mem_of_getElem? hk)
  · rintro b (h | ⟨i, hi, _, rfl⟩)
    · exact hh.oLt b h
    · exact hh.avLt _ (.inr ⟨i, hi, rfl⟩)
  · intro i sz xs he
    have ho : (ent (sel.map (ent B L)) [] i).isOwn = true := by rw [he]; rfl
    obtain ⟨a, k, rfl, hk, _, hr⟩ := sub_own (ρ := ρ) ho
    rw [ent_sub] at he
    simp only [hk] at he
    rw [hr]
    obtain ⟨h1, h2, h3, h4, cur, t, h5, h6, h7⟩ := hh.own k sz xs he
    refine ⟨h1, h2, h3, h4, cur, t, h5, h6, fun j x hx => ?_⟩
    obtain ⟨v, hv, hrd⟩ := h7 j x hx
    exact ⟨v, hv, Rd.congrA (fun b h => (av_sub b).1 h) hrd⟩
  · intro i sz xs he
    rw [ent_sub] at he
    cases i with
    | l j => cases he
    | b j =>
      simp only at he
      cases hk : sel[j]? with
      | none => rw [hk] at he; cases he
      | some k =>
        rw [hk] at he
        simp only at he
        obtain ⟨h1, h2, h3, h4, h5⟩ := hh.frz k sz xs he
        have hr : subR ρ sel (.b j) = ρ k := by simp [subR, List.getD_eq_getElem?_getD, hk]
        rw [hr]
        refine ⟨h1, h2, fun h => h3 ((av_sub _).1 h), h4, fun j x hx => ?_⟩
        obtain ⟨v, hv, hrd⟩ := h5 j x hx
        exact ⟨v, hv, Rd.congrA (fun b h => (av_sub b).1 h) hrd⟩
theorem idxOf_get {sel : List Id} {i : Id} (h : i ∈ sel) : sel[sel.idxOf i]? = some i ∧ sel.idxOf i < sel.length := by
  have hl := List.idxOf_lt_length_iff.2 h
  exact ⟨by rw [List.getElem?_eq_getElem hl]; simp, hl⟩
theorem sub_rho {sel : List Id} {i : Id} (h : i ∈ sel) : subR ρ sel (downTo sel i) = ρ i ∧ (downTo sel i).valid (sel.map (ent B L)) [] := by
  obtain ⟨h1, h2⟩ := idxOf_get h
  refine ⟨?_, by simpa [downTo, Id.valid] using h2⟩
  simp only [downTo, subR, List.getD_eq_getElem?_getD, h1]
  rfl
theorem sv_down {sel : List Id} {v : Value} {s : SV} (hr : SvRel w (Av O ρ B L) ρ B L v s) (hs : ∀ i ∈ s.ids, i ∈ sel) :
    SvRel w (Av (OutO O ρ B L sel) (subR ρ sel) (sel.map (ent B L)) []) (subR ρ sel) (sel.map (ent B L)) [] v (s.ren (downTo sel)) := by
  have hrd : ∀ {v x}, Rd w (Av O ρ B L) v x → Rd w (Av (OutO O ρ B L sel) (subR ρ sel) (sel.map (ent B L)) []) v x := fun h => Rd.congrA (fun b h => (av_sub b).1 h) h
  cases s with
  | unk => trivial
  | fv x => exact hrd hr
  | ref id sz off len ap =>
    obtain ⟨h1, h2⟩ := sub_rho (ρ := ρ) (B := B) (L := L) (hs id (by simp [SV.ids]))
    refine ⟨h2, ?_⟩
    rw [h1]; exact hr.2
  | ptr id sz i c =>
    obtain ⟨h1, h2⟩ := sub_rho (ρ := ρ) (B := B) (L := L) (hs id (by simp [SV.ids]))
    refine ⟨h2, ?_⟩
    rw [h1]; exact hr.2
  | clo f nf caps =>
    obtain ⟨fs, cs, e, h1, h2, h4⟩ := hr
    refine ⟨fs, cs, e, h1, by simpa using h2, fun j u x hu hx => ?_⟩
    simp only [List.getElem?_map, Option.map_eq_some_iff] at hx
    obtain ⟨c, hc, rfl⟩ := hx
    have := h4 j u c hu hc
    cases c with
    | fz y => exact hrd this
    | own id sz =>
      obtain ⟨k1, k2⟩ := sub_rho (ρ := ρ) (B := B) (L := L) (hs id (by
        simp only [SV.ids, List.mem_flatMap]
        exact ⟨_, List.mem_of_getElem? hc, by simp [Cap.ids]⟩))
      exact ⟨k2, by rw [k1]; exact this.2⟩
theorem writeBack_ent : ∀ (sel : List Id) (es : List Ent) (B L : List Ent), sel.Nodup → es.length = sel.length → (∀ i ∈ sel, i.valid B L) →
    (writeBack sel es B L).1.length = B.length ∧ (writeBack sel es B L).2.length = L.length ∧
    (∀ (j : Nat) (k : Id), sel[j]? = some k → ent (writeBack sel es B L).1 (writeBack sel es B L).2 k = es.getD j .dead) ∧ ∀ i, i ∉ sel → ent (writeBack sel es B L).1 (writeBack sel es B L).2 i = ent B L i
  | [], es, B, L, hn, hl, hv => by cases es <;> simp [writeBack]
  | k :: sel, [], B, L, hn, hl, hv => by simp at hl
  | k :: sel, e :: es, B, L, hn, hl, hv => by
    obtain ⟨hk, hn'⟩ := List.nodup_cons.1 hn
    obtain ⟨l1, l2⟩ := setE_length k e B L
    obtain ⟨h1, h2, h3, h4⟩ := writeBack_ent sel es (setE k e B L).1 (setE k e B L).2 hn' (by simpa using hl) (fun i hi => by
      have := hv i (List.mem_cons_of_mem _ hi)
      cases i <;> simp only [Id.valid] at this ⊢ <;> omega)
    simp only [writeBack]
    refine ⟨h1.trans l1, h2.trans l2, fun j i hj => ?_, fun i hi => ?_⟩
    · match j with
      | 0 =>
        simp at hj; subst hj
        rw [h4 k hk, ent_setE k e B L (hv k (by simp))]
        simp
      | j + 1 =>
        rw [h3 j i (by simpa using hj)]
        simp
    · have hik : i ≠ k := fun e => hi (by simp [e])
      rw [h4 i (fun h => hi (List.mem_cons_of_mem _ h)), ent_setE k e B L (hv k (by simp)), if_neg hik]
def upR (ρ ρ' : Rho) (n : Nat) : Rho
  | .b i => ρ (.b i)
  | .l i => if i < n then ρ (.l i) else ρ' (.l (i - n))
theorem upR_old {ρ' : Rho} {i : Id} (h : i.valid B L) : upR ρ ρ' L.length i = ρ i := by
  cases i with
  | b i => rfl
  | l i => simp only [Id.valid] at h; simp [upR, h]
theorem ent_app (B1 L1 L' : List Ent) (i : Id) : ent B1 (L1 ++ L') i = match i with | .b j => ent B1 L1 (.b j) | .l j => if j < L1.length then ent B1 L1 (.l j) else ent [] L' (.l (j - L1.length)) := by
  cases i with
  | b j => rfl
  | l j =>
    simp only [ent, List.getD_eq_getElem?_getD]
    split
    · rename_i h; rw [List.getElem?_append_left h]
    · rename_i h; rw [List.getElem?_append_right (by omega)]
theorem back_ext (hh : Heap w O ρ B L) {sel : List Id} (hn : sel.Nodup) (hv : ∀ i ∈ sel, i.valid B L) {ρ' : Rho} {B' L' : List Ent}
    (hx : Ext w (OutO O ρ B L sel) (subR ρ sel) (sel.map (ent B L)) [] w' ρ' B' L') :
    Ext w O ρ B L w' (upR ρ ρ' L.length) (writeBack sel B' B L).1 ((writeBack sel B' B L).2 ++ L') ∧
    (∀ b, Av O (upR ρ ρ' L.length) (writeBack sel B' B L).1 ((writeBack sel B' B L).2 ++ L') b ↔ Av (OutO O ρ B L sel) ρ' B' L' b) := by
  have hBl : B'.length = sel.length := by simpa using hx.lenB
  obtain ⟨l1, l2, w1, w2⟩ := writeBack_ent sel B' B L hn hBl hv
  generalize hB1 : (writeBack sel B' B L).1 = B1 at *
  generalize hL1 : (writeBack sel B' B L).2 = L1 at *
  have hrho : ∀ (j : Nat) (k : Id), sel[j]? = some k → ρ' (.b j) = ρ k := by
    intro j k hk
    have hj := (List.getElem?_eq_some_iff.1 hk).1
    rw [hx.rho (.b j) (by simpa [Id.valid] using hj)]
    simp [subR, List.getD_eq_getElem?_getD, hk]
  have cases3 : ∀ i, (∃ j, sel[j]? = some i ∧ ent B1 (L1 ++ L') i = ent B' L' (.b j) ∧ upR ρ ρ' L.length i = ρ' (.b j)) ∨
      (i ∉ sel ∧ i.valid B L ∧ ent B1 (L1 ++ L') i = ent B L i ∧ upR ρ ρ' L.length i = ρ i) ∨
      (∃ k, i = .l (L.length + k) ∧ ent B1 (L1 ++ L') i = ent B' L' (.l k) ∧ upR ρ ρ' L.length i = ρ' (.l k)) ∨
      (ent B1 (L1 ++ L') i = .dead ∧ ent B L i = .dead ∧ i ∉ sel) := by
    intro i
    by_cases hs : i ∈ sel
    · obtain ⟨j, hj⟩ := List.mem_iff_getElem?.1 hs
      refine .inl ⟨j, hj, ?_, by rw [upR_old (hv i hs), hrho j i hj]⟩
      have hiv := hv i hs
      have := w1 j i hj
      rw [ent_app]
      cases i with
      | b n => show ent B1 L1 (.b n) = ent B' L' (.b j); rw [this]; rfl
      | l n =>
        simp only [Id.valid] at hiv
        simp only
        rw [if_pos (by omega), this]; rfl
    · by_cases hiv : i.valid B L
      · refine .inr (.inl ⟨hs, hiv, ?_, upR_old hiv⟩)
        rw [ent_app]
        cases i with
        | b n => exact w2 _ hs
        | l n =>
          simp only [Id.valid] at hiv
          simp only
          rw [if_pos (by omega)]; exact w2 _ hs
      · cases i with
        | b n =>
          refine .inr (.inr (.inr ⟨?_, ?_, hs⟩))
          · rw [ent_app]
            simp only [Id.valid] at hiv
            simp [ent, List.getD_eq_getElem?_getD, List.getElem?_eq_none (show B1.length ≤ n by omega)]
          · simp only [Id.valid] at hiv
            simp [ent, List.getD_eq_getElem?_getD, List.getElem?_eq_none (show B.length ≤ n by omega)]
        | l n =>
          simp only [Id.valid] at hiv
          refine .inr (.inr (.inl ⟨n - L.length, by congr 1; omega, ?_, ?_⟩))
          · rw [ent_app]
            simp only
            rw [if_neg (by omega), l2]
            rfl
          · simp only [upR]; rw [if_neg (by omega)]
  have hav : ∀ b, Av O (upR ρ ρ' L.length) B1 (L1 ++ L') b ↔ Av (OutO O ρ B L sel) ρ' B' L' b := by
    intro b
    constructor
    · rintro (h | ⟨i, hi, e⟩)
      · exact .inl (.inl h)
      · rcases cases3 i with ⟨j, hj, h1, h2⟩ | ⟨h0, _, h1, h2⟩ | ⟨k, rfl, h1, h2⟩ | ⟨h1, _⟩
        · exact .inr ⟨.b j, by rw [← h1]; exact hi, by rw [← h2]; exact e⟩
        · exact .inl (.inr ⟨i, by rw [← h1]; exact hi, h0, by rw [← h2]; exact e⟩)
        · exact .inr ⟨.l k, by rw [← h1]; exact hi, by rw [← h2]; exact e⟩
        · rw [h1] at hi; simp [Ent.isOwn] at hi
    · rintro ((h | ⟨i, hi, hs, e⟩) | ⟨i, hi, e⟩)
      · exact .inl h
      · rcases cases3 i with ⟨j, hj, h1, h2⟩ | ⟨h0, _, h1, h2⟩ | ⟨k, rfl, h1, h2⟩ | ⟨h1, h3, _⟩
        · exact absurd (List.mem_of_getElem? hj) hs
        · exact .inr ⟨i, by rw [h1]; exact hi, by rw [h2]; exact e⟩
        · have := own_valid hi
          simp only [Id.valid] at this; omega
        · rw [h3] at hi; simp [Ent.isOwn] at hi
      · cases i with
        | b j =>
          have hj : j < sel.length := by have := own_valid hi; simp only [Id.valid] at this; omega
          have hk : sel[j]? = some sel[j] := List.getElem?_eq_getElem hj
          rcases cases3 sel[j] with ⟨j', hj', h1, h2⟩ | ⟨h0, _⟩ | ⟨k, hk', _⟩ | ⟨_, _, h0⟩
          · have : j' = j := nodup_idx hn hj' hk
            subst this
            exact .inr ⟨sel[j'], by rw [h1]; exact hi, by rw [h2]; exact e⟩
          · exact absurd (List.getElem_mem hj) h0
          · have := hv _ (List.getElem_mem hj)
            rw [hk'] at this
            simp only [Id.valid] at this; omega
          · exact absurd (List.getElem_mem hj) h0
        | l k =>
          rcases cases3 (.l (L.length + k)) with ⟨j', hj', _⟩ | ⟨_, h0, _⟩ | ⟨k', hk', h1, h2⟩ | ⟨h1, _⟩
          · have := hv _ (List.mem_of_getElem? hj')
            simp only [Id.valid] at this; omega
          · simp only [Id.valid] at h0; omega
          · injection hk' with hk'
            have : k' = k := by omega
            subst this
            exact .inr ⟨_, by rw [h1]; exact hi, by rw [h2]; exact e⟩
          · have : ent B1 (L1 ++ L') (.l (L.length + k)) = ent B' L' (.l k) := by
              rw [ent_app]; simp only; rw [if_neg (by omega), l2, Nat.add_sub_cancel_left]; rfl
            rw [← this, h1] at hi; simp [Ent.isOwn] at hi
  have hrd : ∀ {v x}, Rd w (Av O ρ B L) v x → Rd w' (Av O (upR ρ ρ' L.length) B1 (L1 ++ L')) v x := fun h =>
    Rd.congrA (fun b hb => (hav b).1 hb) (hx.rd (Rd.congrA (fun b hb => (av_sub b).1 hb) h))
  have hrd' : ∀ {v x}, Rd w' (Av (OutO O ρ B L sel) ρ' B' L') v x → Rd w' (Av O (upR ρ ρ' L.length) B1 (L1 ++ L')) v x := fun h => Rd.congrA (fun b hb => (hav b).1 hb) h
  have havOld : ∀ b, b < w.heap.size → Av O (upR ρ ρ' L.length) B1 (L1 ++ L') b → Av O ρ B L b := fun b hb h => (av_sub b).1 (hx.av b hb ((hav b).1 h))
  refine ⟨⟨hx.chg.mono fun k _ ⟨i, hi, e⟩ => ?_, ⟨?_, ?_, fun b hb => Nat.lt_of_lt_of_le (hh.oLt b hb) hx.chg.size, ?_, ?_⟩, fun id hid => upR_old hid, havOld, l1, by simp; omega⟩, hav⟩
  · obtain ⟨j, k', rfl, hk, ho, hr⟩ := sub_own (ρ := ρ) hi
    exact ⟨k', ho, by rw [← hr]; exact e⟩
  · intro i j hi hj e
    have key : ∀ i, (ent B1 (L1 ++ L') i).isOwn = true → (∃ c, (ent B' L' c).isOwn = true ∧ upR ρ ρ' L.length i = ρ' c ∧ ((∃ n, c = .b n ∧ sel[n]? = some i) ∨ ∃ k, c = .l k ∧ i = .l (L.length + k))) ∨ (i ∉ sel ∧ (ent B L i).isOwn = true ∧ upR ρ ρ' L.length i = ρ i) := by
      intro i hi
      rcases cases3 i with ⟨j, hj, h1, h2⟩ | ⟨h0, _, h1, h2⟩ | ⟨k, rfl, h1, h2⟩ | ⟨h1, _⟩
      · exact .inl ⟨.b j, by rw [← h1]; exact hi, h2, .inl ⟨j, rfl, hj⟩⟩
      · exact .inr ⟨h0, by rw [← h1]; exact hi, h2⟩
      · exact .inl ⟨.l k, by rw [← h1]; exact hi, h2, .inr ⟨k, rfl, rfl⟩⟩
      · rw [h1] at hi; simp [Ent.isOwn] at hi
    rcases key i hi with ⟨c, hc1, hc2, hc3⟩ | ⟨h0, h1, h2⟩
    · rcases key j hj with ⟨d, hd1, hd2, hd3⟩ | ⟨k0, k1, k2⟩
      · have hcd := hx.heap.inj c d hc1 hd1 (by rw [← hc2, ← hd2]; exact e)
        subst hcd
        rcases hc3 with ⟨n, rfl, hn1⟩ | ⟨n, rfl, rfl⟩
        · rcases hd3 with ⟨m, hm, hm1⟩ | ⟨m, hm, _⟩
          · injection hm with hm; subst hm; rw [hn1] at hm1; injection hm1
          · cases hm
        · rcases hd3 with ⟨m, hm, hm1⟩ | ⟨m, hm, rfl⟩
          · cases hm
          · injection hm with hm; rw [hm]
      · exfalso
        refine hx.heap.notO c hc1 (.inr ⟨j, k1, k0, ?_⟩)
        rw [← k2, ← hc2]; exact e.symm
    · rcases key j hj with ⟨d, hd1, hd2, hd3⟩ | ⟨k0, k1, k2⟩
      · exfalso
        refine hx.heap.notO d hd1 (.inr ⟨i, h1, h0, ?_⟩)
        rw [← h2, ← hd2]; exact e
      · exact hh.inj i j h1 k1 (by rw [← h2, ← k2]; exact e)
  · intro i hi
    rcases cases3 i with ⟨j, hj, h1, h2⟩ | ⟨h0, _, h1, h2⟩ | ⟨k, rfl, h1, h2⟩ | ⟨h1, _⟩
    · rw [h2]; intro ho; exact hx.heap.notO _ (by rw [← h1]; exact hi) (.inl ho)
    · rw [h2]; exact hh.notO i (by rw [← h1]; exact hi)
    · rw [h2]; intro ho; exact hx.heap.notO _ (by rw [← h1]; exact hi) (.inl ho)
    · rw [h1] at hi; simp [Ent.isOwn] at hi
  · intro i sz xs he
    have fromC : ∀ c, ent B' L' c = .own sz xs → upR ρ ρ' L.length i = ρ' c → 0 < sz ∧ (∀ x ∈ xs, x.cells.length = sz ∧ ∀ y ∈ x.cells, y.one = true) ∧ xs.length ≤ (upR ρ ρ' L.length i).2 ∧ (upR ρ ρ' L.length i).2 ≤ maxLen ∧
          ∃ cur t, w'.heap[(upR ρ ρ' L.length i).1]? = some (.cells cur t (0, 0)) ∧ cur.size = (upR ρ ρ' L.length i).2 * sz ∧
            ∀ j x, (flat xs)[j]? = some x → ∃ v, At cur j = some v ∧ Rd w' (Av O (upR ρ ρ' L.length) B1 (L1 ++ L')) v x := fun c hc h2 => by
      obtain ⟨k1, k2, k3, k4, cur, t, k5, k6, k7⟩ := hx.heap.own c sz xs hc
      rw [← h2] at k3 k4 k5 k6
      exact ⟨k1, k2, k3, k4, cur, t, k5, k6, fun j x hx => by
        obtain ⟨v, hv, hr⟩ := k7 j x hx
        exact ⟨v, hv, hrd' hr⟩⟩
    rcases cases3 i with ⟨j, hj, h1, h2⟩ | ⟨h0, _, h1, h2⟩ | ⟨k, rfl, h1, h2⟩ | ⟨h1, _⟩
    · exact fromC _ (by rw [← h1]; exact he) h2
    · rw [h1] at he
      obtain ⟨k1, k2, k3, k4, cur, t, k5, k6, k7⟩ := hh.own i sz xs he
      rw [h2]
      refine ⟨k1, k2, k3, k4, cur, t, ?_, k6, fun j x hx => ?_⟩
      · rw [hx.chg.block _ (Array.getElem?_eq_some_iff.1 k5).1 ?_]
        · exact k5
        · rintro ⟨c, hc, e⟩
          obtain ⟨j, k', rfl, hk, ho, hr⟩ := sub_own (ρ := ρ) hc
          rw [hr] at e
          have := hh.inj k' i ho (by rw [he]; rfl) e
          subst this
          exact h0 (List.mem_of_getElem? hk)
      · obtain ⟨v, hv, hr⟩ := k7 j x hx
        exact ⟨v, hv, hrd hr⟩
    · exact fromC _ (by rw [← h1]; exact he) h2
    · rw [h1] at he; cases he
  · intro i sz xs he
    have fromC : ∀ c, ent B' L' c = .frz sz xs → upR ρ ρ' L.length i = ρ' c → 0 < sz ∧ (∀ x ∈ xs, x.cells.length = sz ∧ ∀ y ∈ x.cells, y.one = true) ∧ ¬ Av O (upR ρ ρ' L.length) B1 (L1 ++ L') (upR ρ ρ' L.length i).1 ∧ (upR ρ ρ' L.length i).1 < w'.heap.size ∧
          ∀ j x, (flat xs)[j]? = some x → ∃ v, w'.cell? ⟨(upR ρ ρ' L.length i).1, j, none⟩ = some v ∧ Rd w' (Av O (upR ρ ρ' L.length) B1 (L1 ++ L')) v x := fun c hc h2 => by
      obtain ⟨k1, k2, k3, k4, k5⟩ := hx.heap.frz c sz xs hc
      rw [← h2] at k3 k4 k5
      exact ⟨k1, k2, fun h => k3 ((hav _).1 h), k4, fun j x hx => by
        obtain ⟨v, hv, hr⟩ := k5 j x hx
        exact ⟨v, hv, hrd' hr⟩⟩
    rcases cases3 i with ⟨j, hj, h1, h2⟩ | ⟨h0, _, h1, h2⟩ | ⟨k, rfl, h1, h2⟩ | ⟨h1, _⟩
    · exact fromC _ (by rw [← h1]; exact he) h2
    · rw [h1] at he
      obtain ⟨k1, k2, k3, k4, k5⟩ := hh.frz i sz xs he
      rw [h2]
      refine ⟨k1, k2, fun h => k3 (havOld _ k4 h), Nat.lt_of_lt_of_le k4 hx.chg.size, fun j x hx' => ?_⟩
      obtain ⟨v, hv, hr⟩ := k5 j x hx'
      refine ⟨v, hx.chg.cell ?_ hv, hrd hr⟩
      rintro ⟨c, hc, e⟩
      obtain ⟨j, k', rfl, hk, ho, hr⟩ := sub_own (ρ := ρ) hc
      rw [hr] at e
      exact k3 (.inr ⟨k', ho, e⟩)
    · exact fromC _ (by rw [← h1]; exact he) h2
    · rw [h1] at he; cases he
end
end Go.Ab
namespace Go.Ab
section
variable {P : Program} {w w' : World} {O : Nat → Prop} {ρ : Rho} {B L : List Ent}
theorem sv_ids_valid {v : Value} {s : SV} (hr : SvRel w (Av O ρ B L) ρ B L v s) : ∀ i ∈ s.ids, i.valid B L := by
  intro i hi
  cases s with
  | unk => simp [SV.ids] at hi
  | fv x => simp [SV.ids] at hi
  | ref id sz off len ap => simp [SV.ids] at hi; subst hi; exact hr.1
  | ptr id sz k c => simp [SV.ids] at hi; subst hi; exact hr.1
  | clo f nf caps =>
    obtain ⟨fs, cs, e, h1, h2, h4⟩ := hr
    simp only [SV.ids, List.mem_flatMap] at hi
    obtain ⟨c, hc, hi⟩ := hi
    obtain ⟨j, hj⟩ := List.mem_iff_getElem?.1 hc
    have hjl : j < (fs ++ cs).size := by rw [h2]; exact (List.getElem?_eq_some_iff.1 hj).1
    have := h4 j _ c (by unfold At; exact Array.getElem?_eq_getElem hjl) hj
    cases c with
    | fz y => simp [Cap.ids] at hi
    | own id sz => simp [Cap.ids] at hi; subst hi; exact this.1
theorem sv_up {sel : List Id} {ρ' : Rho} {B' L' B1 L1 : List Ent} {A A' : Nat → Prop} (hA : ∀ b, A' b → A b) (hl : L1.length = L.length) (hv : ∀ i ∈ sel, i.valid B1 L1) (hBl : B'.length = sel.length)
    (hrho : ∀ (j : Nat) (k : Id), sel[j]? = some k → ρ' (.b j) = ρ k) (hold : ∀ i, i.valid B1 L1 → upR ρ ρ' L.length i = ρ i) {v : Value} {s : SV} (hr : SvRel w A ρ' B' L' v s) :
    SvRel w A' (upR ρ ρ' L.length) B1 (L1 ++ L') v (s.ren (upFrom sel L.length)) := by
  have hid : ∀ i, i.valid B' L' → upR ρ ρ' L.length (upFrom sel L.length i) = ρ' i ∧ (upFrom sel L.length i).valid B1 (L1 ++ L') := by
    intro i hi
    cases i with
    | b j =>
      simp only [Id.valid] at hi
      have hj : sel[j]? = some (sel[j]'(by omega)) := List.getElem?_eq_getElem _
      have hm := hv _ (List.mem_of_getElem? hj)
      simp only [upFrom, List.getD_eq_getElem?_getD, hj, Option.getD_some]
      refine ⟨by rw [hold _ hm, hrho j _ hj], ?_⟩
      cases hk : sel[j]'(by omega) with
      | b n => rw [hk] at hm; exact hm
      | l n => rw [hk] at hm; simp only [Id.valid] at hm ⊢; simp; omega
    | l k =>
      simp only [Id.valid] at hi
      refine ⟨?_, ?_⟩
      · simp only [upFrom, upR]; rw [if_neg (by omega), Nat.add_sub_cancel_left]
      · simp only [upFrom, Id.valid, List.length_append]; omega
  cases s with
  | unk => trivial
  | fv x => exact Rd.congrA hA hr
  | ref id sz off len ap =>
    obtain ⟨h1, h2⟩ := hid id hr.1
    refine ⟨h2, ?_⟩
    rw [h1]; exact hr.2
  | ptr id sz i c =>
    obtain ⟨h1, h2⟩ := hid id hr.1
    refine ⟨h2, ?_⟩
    rw [h1]; exact hr.2
  | clo f nf caps =>
    obtain ⟨fs, cs, e, h1, h2, h4⟩ := hr
    refine ⟨fs, cs, e, h1, by simpa using h2, fun j u x hu hx => ?_⟩
    simp only [List.getElem?_map, Option.map_eq_some_iff] at hx
    obtain ⟨c, hc, rfl⟩ := hx
    have := h4 j u c hu hc
    cases c with
    | fz y => exact Rd.congrA hA this
    | own id sz =>
      obtain ⟨k1, k2⟩ := hid id this.1
      exact ⟨k2, by rw [k1]; exact this.2⟩
theorem sv_append {a b : Array Value} {xs ys : List SV} {A : Nat → Prop} (hl : a.size = xs.length) (ha : ∀ j v x, At a j = some v → xs[j]? = some x → SvRel w A ρ B L v x) (hb : ∀ j v x, At b j = some v → ys[j]? = some x → SvRel w A ρ B L v x) :
    ∀ j v x, At (a ++ b) j = some v → (xs ++ ys)[j]? = some x → SvRel w A ρ B L v x := by
  intro j v x hv hx
  by_cases hj : j < a.size
  · simp only [At] at hv
    rw [Array.getElem?_append_left hj] at hv
    rw [List.getElem?_append_left (by omega)] at hx
    exact ha j v x hv hx
  · simp only [At] at hv
    rw [Array.getElem?_append_right (by omega)] at hv
    rw [List.getElem?_append_right (by omega)] at hx
    rw [hl] at hv
    exact hb _ v x hv hx
theorem callArgs_run {s : SV} {v : Value} {args : List SV} {vs : Array Value} {n : FuncId} {as : List SV} (h : callArgs s args = some (n, as)) (hr : SvRel w (Av O ρ B L) ρ B L v s) (hl : vs.size = args.length)
    (ha : ∀ j v x, At vs j = some v → args[j]? = some x → SvRel w (Av O ρ B L) ρ B L v x) :
    ∃ fs cs, v = .func (.func n) fs cs ∧ (fs ++ vs ++ cs).size = as.length ∧ (∀ j v x, At (fs ++ vs ++ cs) j = some v → as[j]? = some x → SvRel w (Av O ρ B L) ρ B L v x) ∧
      ∀ x ∈ as, ∀ i ∈ x.ids, i ∈ s.ids ++ args.flatMap SV.ids := by
  unfold callArgs at h
  split at h
  · rename_i n' first caps
    simp only [Option.some.injEq, Prod.mk.injEq] at h
    obtain ⟨rfl, rfl⟩ := h
    obtain ⟨fs, cs, e, k1, k2, k3, k4⟩ := Rd.inv_fn hr
    refine ⟨fs, cs, e, by simp [k1, k2, hl], sv_append (by simp [k1, hl]) (sv_append (by simpa using k1) ?_ ha) ?_, ?_⟩
    · intro j v x hv hx
      simp only [List.getElem?_map, Option.map_eq_some_iff] at hx
      obtain ⟨y, hy, rfl⟩ := hx
      exact k3 j v y hv hy
    · intro j v x hv hx
      simp only [List.getElem?_map, Option.map_eq_some_iff] at hx
      obtain ⟨y, hy, rfl⟩ := hx
      exact k4 j v y hv hy
    · intro x hx i hi
      simp only [List.mem_append, List.mem_map] at hx
      rcases hx with (⟨y, _, rfl⟩ | hx) | ⟨y, _, rfl⟩
      · simp [SV.ids] at hi
      · exact List.mem_append_right _ (List.mem_flatMap.2 ⟨x, hx, hi⟩)
      · simp [SV.ids] at hi
  · rename_i n' nf caps
    simp only [Option.some.injEq, Prod.mk.injEq] at h
    obtain ⟨rfl, rfl⟩ := h
    obtain ⟨fs, cs, e, k1, k2, k4⟩ := hr
    have k2' : fs.size + cs.size = caps.length := by rw [← Array.size_append]; exact k2
    have one : ∀ j v x, At (fs ++ cs) j = some v → (caps.map capArg)[j]? = some x → SvRel w (Av O ρ B L) ρ B L v x := by
      intro j v x hv hx
      simp only [List.getElem?_map, Option.map_eq_some_iff] at hx
      obtain ⟨y, hy, rfl⟩ := hx
      have := k4 j v y hv hy
      cases y with
      | fz z => exact this
      | own id sz => exact ⟨this.1, by simpa using this.2⟩
    refine ⟨fs, cs, e, by simp; omega, sv_append (by simp; omega) (sv_append (by simp; omega) (fun j v x hv hx => ?_) ha) (fun j v x hv hx => ?_), ?_⟩
    · have hj := At_lt hv
      rw [List.getElem?_take, if_pos (by omega)] at hx
      refine one j v x ?_ hx
      simp only [At] at hv ⊢
      rw [Array.getElem?_append_left hj]; exact hv
    · rw [List.getElem?_drop] at hx
      refine one (nf + j) v x ?_ hx
      simp only [At] at hv ⊢
      rw [Array.getElem?_append_right (by omega), show nf + j - fs.size = j by omega]; exact hv
    · intro x hx i hi
      have cap : x ∈ caps.map capArg → i ∈ (SV.clo (.func n') nf caps).ids := by
        intro hx
        simp only [List.mem_map] at hx
        obtain ⟨y, hy, rfl⟩ := hx
        simp only [SV.ids, List.mem_flatMap]
        refine ⟨y, hy, ?_⟩
        cases y with
        | fz z => simp [capArg, SV.ids] at hi
        | own id sz => simpa [capArg, SV.ids, Cap.ids] using hi
      simp only [List.mem_append] at hx
      rcases hx with (hx | hx) | hx
      · exact List.mem_append_left _ (cap (List.mem_of_mem_take hx))
      · exact List.mem_append_right _ (List.mem_flatMap.2 ⟨x, hx, hi⟩)
      · exact List.mem_append_left _ (cap (List.mem_of_mem_drop hx))
  · cases h
theorem evI_wp {nt : Nat} {a : Act} {g : Look} {call : Disp} {raw : Bool} (good : Good P call) {dst : Option Tmp} {f : Operand} {args : Array Operand} {ts : Array TypeId} {type : TypeId} {pos : String} {after : Array Edge} {guard : Option (Nat × Bool)}
    {f' : Opd} {as : List Opd} {s : SV} {B2 L2 : List Ent} (hh : Heap w O ρ B L) (hg : Ops P nt w O ρ B L a.eval g (.call ⟨.value f, args, ts⟩)) (h1 : trOpd nt f = some f') (h2 : trOpds nt args.toList = some as)
    (h : evI call raw g f' as B L = some (s, B2, L2)) {next : Act → World → Prop} {Q : Exit → Act → World → Prop}
    (hn : ∀ v w' ρ', Ext w O ρ B L w' ρ' B2 L2 → SvRel w' (Av O ρ' B2 L2) ρ' B2 L2 v s → next (a.put dst v) w') : Oper.wp P ⟨dst, .call ⟨.value f, args, ts⟩, type, pos, after, guard⟩ a w next Q := by
  unfold evI at h
  simp only [Option.bind_eq_some_iff] at h
  obtain ⟨⟨n, svs⟩, hca, h⟩ := h
  simp only at h
  split at h
  · cases h
  · simp only [Option.bind_eq_some_iff] at h
    obtain ⟨⟨r, B', L'⟩, hc, h⟩ := h
    simp only at h
    have hrf := hg f f' (by simp [Op.operands, Call.operands]) h1
    obtain ⟨a1, a2⟩ := opds_rel (w := w) (O := O) (ρ := ρ) (B := B) (L := L) (val := a.eval) (g := g) h2 (fun x y hx => hg x y (by simp [Op.operands, Call.operands]; exact .inr (by simpa using hx)))
    obtain ⟨fs, cs, hvf, hsz, hsv, hids⟩ := callArgs_run (vs := args.map a.eval) hca hrf (by rw [← a1]; simp) (fun j v x hv hx => a2 j v x (by simpa [At] using hv) hx)
    have hselm : ∀ i, i ∈ selOf g f' as ↔ i ∈ (g f').ids ++ (as.map g).flatMap SV.ids := by
      intro i
      rw [selOf, mem_dedup, List.flatMap_map]
    have hnd : (selOf g f' as).Nodup := nodup_dedup _
    have hval : ∀ i ∈ selOf g f' as, i.valid B L := by
      intro i hi
      rcases List.mem_append.1 ((hselm i).1 hi) with hi | hi
      · exact sv_ids_valid hrf i hi
      · obtain ⟨x, hx, hi⟩ := List.mem_flatMap.1 hi
        obtain ⟨j, hj⟩ := List.mem_iff_getElem?.1 hx
        have hjl : j < (args.toList.map a.eval).length := by rw [a1]; exact (List.getElem?_eq_some_iff.1 hj).1
        exact sv_ids_valid (a2 j _ x (List.getElem?_eq_getElem hjl) hj) i hi
    generalize hsel : selOf g f' as = sel at *
    have hcalls := good.run _ _ _ _ _ _ hc w (OutO O ρ B L sel) (subR ρ sel) (fs ++ args.map a.eval ++ cs) (heap_sub hh hnd) (by rw [hsz]; simp) (fun j v x hv hx => by
      simp only [List.getElem?_map, Option.map_eq_some_iff] at hx
      obtain ⟨y, hy, rfl⟩ := hx
      exact sv_down (hsv j v y hv hy) (fun i hi => (hselm i).2 (hids y (List.mem_of_getElem? hy) i hi)))
    unfold Oper.wp
    rw [call_op_run hvf (good.ent _ _ _ _ _ _ hc _ w), Oper.upon_enter]
    refine hcalls.mono ?_
    rintro e w' ⟨v, ρ', rfl, hext, hrel⟩
    obtain ⟨hback, hav⟩ := back_ext hh hnd hval hext
    have hBl : B'.length = sel.length := by simpa using hext.lenB
    obtain ⟨l1, l2, w1, w2⟩ := writeBack_ent sel B' B L hnd hBl hval
    have hval1 : ∀ i ∈ sel, i.valid (writeBack sel B' B L).1 (writeBack sel B' B L).2 := fun i hi => (hval i hi).ext l1 (by omega)
    have hrho : ∀ (j : Nat) (k : Id), sel[j]? = some k → ρ' (.b j) = ρ k := by
      intro j k hk
      have hj := (List.getElem?_eq_some_iff.1 hk).1
      rw [hext.rho (.b j) (by simpa [Id.valid] using hj)]
      simp [subR, List.getD_eq_getElem?_getD, hk]
    have hup := sv_up (L := L) (ρ := ρ) (A' := Av O (upR ρ ρ' L.length) (writeBack sel B' B L).1 ((writeBack sel B' B L).2 ++ L')) (fun b hb => (hav b).1 hb) l2 hval1 hBl hrho (fun i hi => upR_old (B := B) (by
      cases i <;> simp only [Id.valid] at hi ⊢ <;> omega)) hrel
    split at h
    · simp only [Option.some.injEq, Prod.mk.injEq] at h
      obtain ⟨rfl, rfl, rfl⟩ := h
      exact hn v w' _ hback hup
    · -- the callee's own rows are dropped
      have hwk : Weak (writeBack sel B' B L).1 ((writeBack sel B' B L).2 ++ L') (writeBack sel B' B L).1 (writeBack sel B' B L).2 := by
        intro i
        rw [ent_app]
        cases i with
        | b j => exact .inl rfl
        | l j =>
          simp only
          split
          · exact .inl rfl
          · rename_i hj
            exact .inr (.inr (by simp [ent, List.getD_eq_getElem?_getD, List.getElem?_eq_none (Nat.le_of_not_lt hj)]))
      have hext2 : Ext w O ρ B L w' (upR ρ ρ' L.length) (writeBack sel B' B L).1 (writeBack sel B' B L).2 :=
        ⟨hback.chg, hback.heap.weaken hwk, hback.rho, fun b hb h => hback.av b hb (hwk.av h), l1, by omega⟩
      split at h
      · rename_i j sz off len ap
        simp only [Option.some.injEq, Prod.mk.injEq] at h
        obtain ⟨rfl, rfl, rfl⟩ := h
        refine hn v w' _ hext2 ⟨?_, hup.2⟩
        have hj : j < sel.length := by have := hrel.1; simp only [Id.valid] at this; omega
        have hk : sel[j]? = some sel[j] := List.getElem?_eq_getElem hj
        simp only [List.getD_eq_getElem?_getD, hk, Option.getD_some]
        exact hval1 _ (List.getElem_mem hj)
      · obtain ⟨x, hx, he⟩ := Option.map_eq_some_iff.1 h
        simp only [Prod.mk.injEq] at he
        obtain ⟨rfl, rfl, rfl⟩ := he
        refine hn v w' _ hext2 ?_
        have hwf : Weak B' L' B' (L'.map Ent.fz) := by
          intro i
          cases i with
          | b j => exact .inl rfl
          | l j => exact .inr (.inl (by simp only [ent, List.getD_eq_getElem?_getD, List.getElem?_map]; cases L'[j]? <;> rfl))
        have hh' := hext.heap.weaken hwf
        have hrel' := SvRel.weak hwf rfl (by simp) hrel
        have hx' := toFV_mono (B2 := B') (L2 := L'.map Ent.fz) (fun id hd => by
          cases id with
          | b j => simp [ent] at hd
          | l j => rfl) hx
        have hrd := toFV_rd hh' hx' hrel'
        refine Rd.congrA (fun b hb => ?_) hrd
        rcases hb with hb | ⟨i, hi, e⟩
        · exact .inl (.inl hb)
        · by_cases hs : i ∈ sel
          · obtain ⟨j, hj⟩ := List.mem_iff_getElem?.1 hs
            rw [w1 j i hj] at hi
            refine .inr ⟨.b j, hi, ?_⟩
            rw [hrho j i hj]
            rw [upR_old (B := B) (hval i hs)] at e
            exact e
          · rw [w2 i hs] at hi
            refine .inl (.inr ⟨i, hi, hs, ?_⟩)
            rw [upR_old (B := B) (own_valid hi)] at e
            exact e
end
end Go.Ab
