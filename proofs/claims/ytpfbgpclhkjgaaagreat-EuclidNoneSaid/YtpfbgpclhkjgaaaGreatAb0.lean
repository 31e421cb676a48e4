/- A part of the proof: an evaluator of programs, its soundness, and what it says of the functions in hand. It holds without further conditions. -/
import Derived.Laws.AppendOwn
import Derived.Maps.AppendAt
import Derived.Orders
import Derived.LoopN
import Derived.Tactics
import Derived.WalkKit
import Derived.KernelRfl
import Derived.Deep.OwnRows
set_option linter.unusedVariables false
set_option linter.unusedSimpArgs false
namespace Go.Ab

/-- What is known of a frozen slice's capacity. -/
inductive Tag where
  | any
  | nil
  | full
  deriving DecidableEq

/-- Frozen values: trees that lead to memory which nobody writes again. -/
inductive FV where
  | int (k : IntKind) (n : Int)
  | bool (b : Bool)
  | str (s : ByteArray)
  | agg (cs : List FV)
  | sl (t : Tag) (xs : List FV)
  | fn (f : Fn) (first caps : List FV)
  | nilFn
  | ptr (x : FV)
  | nilPtr
  | tup (xs : List FV)
  | iface (t : TypeId) (x : FV)
  | nilIface

def FV.cells : FV → List FV
  | .agg cs => cs
  | x => [x]

/-- A frozen value that lies in one cell. -/
def FV.one : FV → Bool
  | .agg _ => false
  | .tup _ => false
  | _ => true

/-- Of the size and the form of a type's values. -/
def FV.fits (ag : Bool) (sz : Nat) (x : FV) : Bool :=
  match ag, x with
  | true, .agg cs => cs.length == sz
  | false, x => x.one && sz == 1
  | _, _ => false

def flat (xs : List FV) : List FV := xs.flatMap FV.cells

def TagOK (t : Tag) (a : Option Addr) (n c : Nat) : Prop :=
  match t with
  | .any => True
  | .nil => a = none ∧ n = 0 ∧ c = 0
  | .full => c = n

def At (vs : Array Value) (j : Nat) : Option Value := vs[j]?

/-- A machine's value reads as a frozen value; what it leads to lies in no block of O. -/
inductive Rd (w : World) (O : Nat → Prop) : Value → FV → Prop where
  | int (k : IntKind) (n : Int) : Rd w O (.int k n) (.int k n)
  | bool (b : Bool) : Rd w O (.bool b) (.bool b)
  | str (s : ByteArray) : Rd w O (.string s) (.str s)
  | agg (vs : Array Value) (cs : List FV) (hl : vs.size = cs.length) (ho : ∀ x ∈ cs, x.one = true)
      (h : ∀ j v x, At vs j = some v → cs[j]? = some x → Rd w O v x) : Rd w O (.agg vs) (.agg cs)
  | tup (vs : Array Value) (cs : List FV) (hl : vs.size = cs.length) (h : ∀ j v x, At vs j = some v → cs[j]? = some x → Rd w O v x) : Rd w O (.tuple vs) (.tup cs)
  | slE (t : Tag) (a : Option Addr) (c : Nat) (ht : TagOK t a 0 c) : Rd w O (.slice a 0 c) (.sl t [])
  | sl (t : Tag) (xs : List FV) (sz b o c : Nat) (f : Nat → Value) (hz : 0 < sz) (hx : xs ≠ []) (hk : xs.length ≤ c) (hw : ∀ x ∈ xs, x.cells.length = sz ∧ ∀ y ∈ x.cells, y.one = true) (ho : ¬ O b)
      (hf : ∀ j, j < (flat xs).length → w.cell? ⟨b, o + j, none⟩ = some (f j)) (hr : ∀ j x, (flat xs)[j]? = some x → Rd w O (f j) x)
      (ht : TagOK t (some ⟨b, o, none⟩) xs.length c) : Rd w O (.slice (some ⟨b, o, none⟩) xs.length c) (.sl t xs)
  | fn (g : Fn) (fs cs : Array Value) (first caps : List FV) (hf : fs.size = first.length) (hc : cs.size = caps.length)
      (h1 : ∀ j v x, At fs j = some v → first[j]? = some x → Rd w O v x) (h2 : ∀ j v x, At cs j = some v → caps[j]? = some x → Rd w O v x) : Rd w O (.func g fs cs) (.fn g first caps)
  | nilFn : Rd w O .nilFunc .nilFn
  | ptr (x : FV) (b o : Nat) (f : Nat → Value) (hx : 0 < x.cells.length) (h1 : ∀ y ∈ x.cells, y.one = true) (ho : ¬ O b) (hf : ∀ j, j < x.cells.length → w.cell? ⟨b, o + j, none⟩ = some (f j))
      (hr : ∀ j y, x.cells[j]? = some y → Rd w O (f j) y) : Rd w O (.pointer (some ⟨b, o, none⟩)) (.ptr x)
  | nilPtr : Rd w O (.pointer none) .nilPtr
  | iface (t : TypeId) (v : Value) (x : FV) (h : Rd w O v x) : Rd w O (.iface t v) (.iface t x)
  | nilIface : Rd w O .nilIface .nilIface

/-- From w to w' nothing that was there has turned but in blocks of S. -/
structure Chg (S : Nat → Prop) (w w' : World) : Prop where
  os : w'.os = w.os
  tape : w'.tape = w.tape
  output : w'.output = w.output
  size : w.heap.size ≤ w'.heap.size
  block : ∀ k, k < w.heap.size → ¬ S k → w'.heap[k]? = w.heap[k]?

theorem Chg.refl (S : Nat → Prop) (w : World) : Chg S w w := ⟨rfl, rfl, rfl, Nat.le_refl _, fun _ _ _ => rfl⟩
theorem Chg.mono {S T : Nat → Prop} {a b : World} (h : Chg S a b) (hs : ∀ k, k < a.heap.size → S k → T k) : Chg T a b :=
  ⟨h.os, h.tape, h.output, h.size, fun k hk ht => h.block k hk fun hs' => ht (hs k hk hs')⟩
/-- Two steps, the second of which may turn blocks that are new. -/
theorem Chg.then {S T : Nat → Prop} {a b c : World} (h : Chg S a b) (k : Chg T b c) (ht : ∀ i, i < a.heap.size → T i → S i) : Chg S a c :=
  ⟨k.os.trans h.os, k.tape.trans h.tape, k.output.trans h.output, Nat.le_trans h.size k.size, fun i hi hs => (k.block i (Nat.lt_of_lt_of_le hi h.size) fun h' => hs (ht i hi h')).trans (h.block i hi hs)⟩
theorem Chg.trans {S : Nat → Prop} {a b c : World} (h : Chg S a b) (k : Chg S b c) : Chg S a c := h.then k fun _ _ h => h
theorem Chg.alloc (S : Nat → Prop) (w : World) (o : Obj) : Chg S w (w.alloc o) :=
  ⟨rfl, rfl, rfl, by simp, fun k hk _ => by show (w.heap.push o)[k]? = _; rw [Array.getElem?_push, if_neg (by omega)]⟩
theorem Chg.drew (S : Nat → Prop) (w : World) : Chg S w w.drew := ⟨rfl, rfl, rfl, Nat.le_refl _, fun _ _ _ => rfl⟩
theorem Chg.setRow (w : World) (g : Nat) (c : Array Value) : Chg (fun b => b = g) w (w.setRow g c) :=
  ⟨rfl, rfl, rfl, by simp, fun k _ hs => setRow_other w g k _ hs⟩
theorem Chg.of_grownBy {w w' : World} {row : Option Nat} (h : w.grownBy w' row) : Chg (fun b => some b = row) w w' :=
  ⟨h.os, h.tape, h.output, h.size, fun k hk hs => h.block k hk hs⟩

theorem Chg.cell {S : Nat → Prop} {w w' : World} (h : Chg S w w') {b o : Nat} {v : Value} (hs : ¬ S b) (hc : w.cell? ⟨b, o, none⟩ = some v) : w'.cell? ⟨b, o, none⟩ = some v := by
  have hb := World.block_lt_of_cell? w _ hc
  rw [← hc]
  simp only [World.cell?]
  rw [h.block b hb hs]

theorem flat_length {sz : Nat} : ∀ (xs : List FV), (∀ x ∈ xs, x.cells.length = sz) → (flat xs).length = xs.length * sz
  | [], _ => by simp [flat]
  | x :: xs, h => by
    have ih := flat_length xs (fun y hy => h y (by simp [hy]))
    simp only [flat, List.flatMap_cons, List.length_append, List.length_cons] at ih ⊢
    rw [h x (by simp), ih, Nat.add_mul]
    omega

/-- What is frozen stays as it is where only blocks of S turn, and S lies within what is shunned. -/
theorem Rd.mono {w w' : World} {O O' S : Nat → Prop} (hw : Chg S w w') (hS : ∀ b, S b → O b) (hO : ∀ b, b < w.heap.size → O' b → O b) {v : Value} {x : FV} (h : Rd w O v x) : Rd w' O' v x := by
  induction h with
  | int k n => exact .int k n
  | bool b => exact .bool b
  | str s => exact .str s
  | agg vs cs hl ho _ ih => exact .agg vs cs hl ho ih
  | tup vs cs hl _ ih => exact .tup vs cs hl ih
  | slE t a c ht => exact .slE t a c ht
  | sl t xs sz b o c f hz hx hk hw' ho hf _ ht ih =>
    have hn : 0 < (flat xs).length := by
      rw [flat_length xs fun x hx => (hw' x hx).1]
      exact Nat.mul_pos (List.length_pos_iff.2 hx) hz
    have hb : b < w.heap.size := World.block_lt_of_cell? w _ (hf 0 hn)
    exact Rd.sl t xs sz b o c f hz hx hk hw' (fun h' => ho (hO b hb h')) (fun j hj => hw.cell (fun h' => ho (hS b h')) (hf j hj)) ih ht
  | fn g fs cs first caps hf hc _ _ ih1 ih2 => exact .fn g fs cs first caps hf hc ih1 ih2
  | nilFn => exact .nilFn
  | ptr x b o f hx h1 ho hf _ ih =>
    have hb : b < w.heap.size := World.block_lt_of_cell? w _ (hf 0 hx)
    exact Rd.ptr x b o f hx h1 (fun h' => ho (hO b hb h')) (fun j hj => hw.cell (fun h' => ho (hS b h')) (hf j hj)) ih
  | nilPtr => exact .nilPtr
  | iface t v x _ ih => exact .iface t v x ih
  | nilIface => exact .nilIface

theorem Rd.one {w : World} {O : Nat → Prop} {v : Value} {x : FV} (h : Rd w O v x) (h1 : x.one = true) : v.oneCell' = true := by
  cases h <;> first | rfl | (simp [FV.one] at h1)

/-- The cells of a value that reads. -/
theorem Rd.cells {w : World} {O : Nat → Prop} {v : Value} {x : FV} (h : Rd w O v x) (ht : x.one = true ∨ ∃ cs, x = .agg cs) :
    v.cells.size = x.cells.length ∧ (∀ y ∈ x.cells, y.one = true) ∧ ∀ j u y, At v.cells j = some u → x.cells[j]? = some y → Rd w O u y := by
  have single : ∀ (v : Value) (x : FV), Rd w O v x → x.one = true → v.cells = #[v] → x.cells = [x] →
      v.cells.size = x.cells.length ∧ (∀ y ∈ x.cells, y.one = true) ∧ ∀ j u y, At v.cells j = some u → x.cells[j]? = some y → Rd w O u y := by
    intro v x h h1 hv hx
    rw [hv, hx]
    refine ⟨rfl, by simpa using h1, fun j u y hu hy => ?_⟩
    match j with
    | 0 => simp [At] at hu hy; subst hu; subst hy; exact h
    | j + 1 => simp at hy
  cases h with
  | agg vs cs hl ho h => exact ⟨hl, ho, fun j u y hu hy => h j u y hu hy⟩
  | tup vs cs hl h => rcases ht with ht | ⟨_, ht⟩ <;> first | (simp [FV.one] at ht) | cases ht
  | int k n => exact single _ _ (.int k n) rfl rfl rfl
  | bool b => exact single _ _ (.bool b) rfl rfl rfl
  | str s => exact single _ _ (.str s) rfl rfl rfl
  | slE t a c ht' => exact single _ _ (.slE t a c ht') rfl rfl rfl
  | sl t xs sz b o c f hz hx hk hw' ho hf hr ht' => exact single _ _ (.sl t xs sz b o c f hz hx hk hw' ho hf hr ht') rfl rfl rfl
  | fn g fs cs first caps hf hc h1 h2 => exact single _ _ (.fn g fs cs first caps hf hc h1 h2) rfl rfl rfl
  | nilFn => exact single _ _ .nilFn rfl rfl rfl
  | ptr x b o f hx h1 ho hf hr => exact single _ _ (.ptr x b o f hx h1 ho hf hr) rfl rfl rfl
  | nilPtr => exact single _ _ .nilPtr rfl rfl rfl
  | iface t v x h => exact single _ _ (.iface t v x h) rfl rfl rfl
  | nilIface => exact single _ _ .nilIface rfl rfl rfl

/-! ### The arena -/
inductive Id where
  | b (i : Nat)
  | l (i : Nat)
  deriving DecidableEq

inductive Ent where
  | dead
  | own (sz : Nat) (xs : List FV)
  | frz (sz : Nat) (xs : List FV)

def Ent.isOwn : Ent → Bool
  | .own .. => true
  | _ => false

def ent (B L : List Ent) : Id → Ent
  | .b i => B.getD i .dead
  | .l i => L.getD i .dead

def Id.valid (B L : List Ent) : Id → Prop
  | .b i => i < B.length
  | .l i => i < L.length

inductive Cap where
  | fz (x : FV)
  | own (id : Id) (sz : Nat)

/-- What a slot holds. -/
inductive SV where
  | unk
  | fv (x : FV)
  | ref (id : Id) (sz off len : Nat) (ap : Bool)
  | ptr (id : Id) (sz i c : Nat)
  | clo (f : Fn) (n : Nat) (caps : List Cap)

abbrev Rho := Id → Nat × Nat

/-- The blocks that are shunned: those of the callers', and one's own. -/
def Av (O : Nat → Prop) (ρ : Rho) (B L : List Ent) (b : Nat) : Prop := O b ∨ ∃ i, (ent B L i).isOwn = true ∧ (ρ i).1 = b

def CapRel (w : World) (A : Nat → Prop) (ρ : Rho) (B L : List Ent) (v : Value) : Cap → Prop
  | .fz x => Rd w A v x
  | .own id _ => id.valid B L ∧ v = .pointer (some ⟨(ρ id).1, 0, none⟩)

def SvRel (w : World) (A : Nat → Prop) (ρ : Rho) (B L : List Ent) (v : Value) : SV → Prop
  | .unk => True
  | .fv x => Rd w A v x
  | .ref id sz off len ap => id.valid B L ∧ ∃ cap, v = .slice (some ⟨(ρ id).1, off * sz, none⟩) len cap ∧ len ≤ cap ∧ (ap = true → off = 0 ∧ cap = (ρ id).2)
  | .ptr id sz i c => id.valid B L ∧ v = .pointer (some ⟨(ρ id).1, i * sz + c, none⟩)
  | .clo f n caps => ∃ fs cs, v = .func f fs cs ∧ fs.size = n ∧ (fs ++ cs).size = caps.length ∧
      ∀ j u x, At (fs ++ cs) j = some u → caps[j]? = some x → CapRel w A ρ B L u x

structure Heap (w : World) (O : Nat → Prop) (ρ : Rho) (B L : List Ent) : Prop where
  inj : ∀ i j, (ent B L i).isOwn = true → (ent B L j).isOwn = true → (ρ i).1 = (ρ j).1 → i = j
  notO : ∀ i, (ent B L i).isOwn = true → ¬ O (ρ i).1
  oLt : ∀ b, O b → b < w.heap.size
  own : ∀ i sz xs, ent B L i = .own sz xs → 0 < sz ∧ (∀ x ∈ xs, x.cells.length = sz ∧ ∀ y ∈ x.cells, y.one = true) ∧ xs.length ≤ (ρ i).2 ∧ (ρ i).2 ≤ maxLen ∧
    ∃ cur t, w.heap[(ρ i).1]? = some (.cells cur t (0, 0)) ∧ cur.size = (ρ i).2 * sz ∧
      ∀ j x, (flat xs)[j]? = some x → ∃ v, At cur j = some v ∧ Rd w (Av O ρ B L) v x
  frz : ∀ i sz xs, ent B L i = .frz sz xs → 0 < sz ∧ (∀ x ∈ xs, x.cells.length = sz ∧ ∀ y ∈ x.cells, y.one = true) ∧ ¬ Av O ρ B L (ρ i).1 ∧ (ρ i).1 < w.heap.size ∧
    ∀ j x, (flat xs)[j]? = some x → ∃ v, w.cell? ⟨(ρ i).1, j, none⟩ = some v ∧ Rd w (Av O ρ B L) v x

/-- One step of the world and of the arena. -/
structure Ext (w : World) (O : Nat → Prop) (ρ : Rho) (B L : List Ent) (w' : World) (ρ' : Rho) (B' L' : List Ent) : Prop where
  chg : Chg (fun b => ∃ i, (ent B L i).isOwn = true ∧ (ρ i).1 = b) w w'
  heap : Heap w' O ρ' B' L'
  rho : ∀ id, id.valid B L → ρ' id = ρ id
  av : ∀ b, b < w.heap.size → Av O ρ' B' L' b → Av O ρ B L b
  lenB : B'.length = B.length
  lenL : L.length ≤ L'.length

theorem Id.valid.ext {B L B' L' : List Ent} {id : Id} (h : id.valid B L) (hb : B'.length = B.length) (hl : L.length ≤ L'.length) : id.valid B' L' := by
  cases id <;> simp only [Id.valid] at h ⊢ <;> omega

section
variable {w w' : World} {O : Nat → Prop} {ρ ρ' : Rho} {B L B' L' : List Ent}

theorem Ext.rd (h : Ext w O ρ B L w' ρ' B' L') {v : Value} {x : FV} (hr : Rd w (Av O ρ B L) v x) : Rd w' (Av O ρ' B' L') v x :=
  Rd.mono h.chg (fun b ⟨i, hi, hb⟩ => .inr ⟨i, hi, hb⟩) h.av hr

theorem Ext.cap (h : Ext w O ρ B L w' ρ' B' L') {v : Value} {c : Cap} (hr : CapRel w (Av O ρ B L) ρ B L v c) : CapRel w' (Av O ρ' B' L') ρ' B' L' v c := by
  cases c with
  | fz x => exact h.rd hr
  | own id sz => exact ⟨hr.1.ext h.lenB h.lenL, by rw [h.rho _ hr.1]; exact hr.2⟩

theorem Ext.sv (h : Ext w O ρ B L w' ρ' B' L') {v : Value} {s : SV} (hr : SvRel w (Av O ρ B L) ρ B L v s) : SvRel w' (Av O ρ' B' L') ρ' B' L' v s := by
  cases s with
  | unk => trivial
  | fv x => exact h.rd hr
  | ref id sz off len ap => exact ⟨hr.1.ext h.lenB h.lenL, by rw [h.rho _ hr.1]; exact hr.2⟩
  | ptr id sz i c => exact ⟨hr.1.ext h.lenB h.lenL, by rw [h.rho _ hr.1]; exact hr.2⟩
  | clo f nf caps =>
    obtain ⟨fs, cs, e, h1, h2, h4⟩ := hr
    exact ⟨fs, cs, e, h1, h2, fun j u x hu hx => h.cap (h4 j u x hu hx)⟩

theorem Ext.refl (h : Heap w O ρ B L) : Ext w O ρ B L w ρ B L := ⟨Chg.refl _ _, h, fun _ _ => rfl, fun _ _ h => h, rfl, Nat.le_refl _⟩

theorem Ext.trans {w2 : World} {ρ2 : Rho} {B2 L2 : List Ent} (h : Ext w O ρ B L w' ρ' B' L') (k : Ext w' O ρ' B' L' w2 ρ2 B2 L2) (hh : Heap w O ρ B L) : Ext w O ρ B L w2 ρ2 B2 L2 := by
  refine ⟨h.chg.then k.chg ?_, k.heap, fun id hv => (k.rho id (hv.ext h.lenB h.lenL)).trans (h.rho id hv), fun b hb hA => h.av b hb (k.av b (Nat.lt_of_lt_of_le hb h.chg.size) hA), k.lenB.trans h.lenB, Nat.le_trans h.lenL k.lenL⟩
  rintro b hb ⟨i, hi, e⟩
  rcases h.av b hb (.inr ⟨i, hi, e⟩) with hO | ho
  · exact absurd (e ▸ hO) (h.heap.notO i hi)
  · exact ho

/-- Nothing of the arena turns: the world grows. -/
theorem Heap.grow (hh : Heap w O ρ B L) (hc : Chg (fun _ => False) w w') : Ext w O ρ B L w' ρ B L := by
  have hrd : ∀ {v x}, Rd w (Av O ρ B L) v x → Rd w' (Av O ρ B L) v x := fun h => Rd.mono hc (fun _ h => h.elim) (fun _ _ h => h) h
  refine ⟨hc.mono fun _ _ h => h.elim, ⟨hh.inj, hh.notO, fun b hb => Nat.lt_of_lt_of_le (hh.oLt b hb) hc.size, ?_, ?_⟩, fun _ _ => rfl, fun _ _ h => h, rfl, Nat.le_refl _⟩
  · intro i sz xs he
    obtain ⟨h1, h2, h3, h4, cur, t, h5, h6, h7⟩ := hh.own i sz xs he
    refine ⟨h1, h2, h3, h4, cur, t, ?_, h6, fun j x hx => ?_⟩
    · rw [hc.block _ (Array.getElem?_eq_some_iff.1 h5).1 (fun h => h)]; exact h5
    · obtain ⟨v, hv, hr⟩ := h7 j x hx; exact ⟨v, hv, hrd hr⟩
  · intro i sz xs he
    obtain ⟨h1, h2, h3, h4, h5⟩ := hh.frz i sz xs he
    refine ⟨h1, h2, h3, Nat.lt_of_lt_of_le h4 hc.size, fun j x hx => ?_⟩
    obtain ⟨v, hv, hr⟩ := h5 j x hx
    exact ⟨v, hc.cell (fun h => h) hv, hrd hr⟩
end
end Go.Ab
