/- A part of the proof: an evaluator of programs, its soundness, and what it says of the functions in hand. It holds without further conditions. -/
import Derived.Test.YtpfbgpclhkjgaaaGreatAb3
set_option linter.unusedVariables false
set_option linter.unusedSimpArgs false
namespace Go.Ab

section
variable {P : Program} {w : World} {O : Nat → Prop} {ρ : Rho} {B L : List Ent}

/-- What lies in an entry, own or frozen. -/
theorem entRd (hh : Heap w O ρ B L) {id : Id} {sz : Nat} {xs : List FV} (he : ent B L id = .own sz xs ∨ ent B L id = .frz sz xs) :
    0 < sz ∧ (∀ x ∈ xs, x.cells.length = sz ∧ ∀ y ∈ x.cells, y.one = true) ∧ ∀ j x, (flat xs)[j]? = some x → ∃ v, w.cell? ⟨(ρ id).1, j, none⟩ = some v ∧ Rd w (Av O ρ B L) v x := by
  rcases he with he | he
  · obtain ⟨h1, h2, h3, h4, cur, t, h5, h6, h7⟩ := hh.own _ _ _ he
    refine ⟨h1, h2, fun j x hx => ?_⟩
    obtain ⟨v, hv, hr⟩ := h7 j x hx
    exact ⟨v, by simp only [World.cell?, h5]; exact hv, hr⟩
  · obtain ⟨h1, h2, h3, h4, h5⟩ := hh.frz _ _ _ he
    exact ⟨h1, h2, h5⟩

theorem load_elem {A : Nat → Prop} {t : TypeId} {ag : Bool} {n b sz i c : Nat} {xs : List FV} {x y : FV} (h1 : agOf P t = some ag) (h2 : szOf P t = some n)
    (hw : ∀ x ∈ xs, x.cells.length = sz ∧ ∀ y ∈ x.cells, y.one = true) (hc : ∀ j x, (flat xs)[j]? = some x → ∃ v, w.cell? ⟨b, j, none⟩ = some v ∧ Rd w A v x)
    (hx : xs[i]? = some x) (hl : ldElem ag n c x = some y) : ∃ v, (loadVar t ⟨b, i * sz + c, none⟩).run P w = .ok v w ∧ Rd w A v y := by
  have hm : x ∈ xs := List.mem_of_getElem? hx
  have hw1 : ∀ x ∈ xs, x.cells.length = sz := fun x hx => (hw x hx).1
  have key : ∀ j z, x.cells[j]? = some z → ∃ v, w.cell? ⟨b, i * sz + j, none⟩ = some v ∧ Rd w A v z := by
    intro j z hz
    have hj : j < x.cells.length := (List.getElem?_eq_some_iff.1 hz).1
    have hf := getElem?_flat xs i x hw1 hx j (by rw [hw1 x hm] at hj; exact hj)
    rw [hz] at hf
    exact hc _ _ hf
  have := ldElem_rd (w := w) (A := A) (f := fun j => (w.cell? ⟨b, i * sz + j, none⟩).getD undef) (hw x hm).2 (fun j z hz => by
    obtain ⟨v, hv, hr⟩ := key j z hz; rw [hv]; exact hr) hl
  obtain ⟨hle, hrd⟩ := this
  refine ⟨_, run_loadVar h1 h2 (fun j => (w.cell? ⟨b, i * sz + c + j, none⟩).getD undef) (fun j hj => ?_), ?_⟩
  · have hj' : c + j < x.cells.length := by omega
    obtain ⟨v, hv, _⟩ := key (c + j) _ (List.getElem?_eq_getElem hj')
    rw [show i * sz + c + j = i * sz + (c + j) from by omega, hv]; rfl
  · simpa [Nat.add_assoc] using hrd

theorem load_ptr {A : Nat → Prop} {t : TypeId} {ag : Bool} {n : Nat} {x y : FV} {v : Value} (h1 : agOf P t = some ag) (h2 : szOf P t = some n)
    (hr : Rd w A v (.ptr x)) (hl : ldElem ag n 0 x = some y) : ∃ u, (Instr.loadAt t v).run P w = .ok u w ∧ Rd w A u y := by
  cases hr with
  | ptr x b o f hx h1' ho hf hr =>
    obtain ⟨hle, hrd⟩ := ldElem_rd (w := w) (A := A) (f := f) h1' hr hl
    refine ⟨_, ?_, hrd⟩
    simp only [Instr.loadAt, Instr.sureAddr, Sem.run_bind, Sem.run_pure, Result.andThen_ok]
    rw [run_loadVar h1 h2 f (fun j hj => hf j (by omega))]
    simp

theorem Rd.chg {w' : World} {A : Nat → Prop} {v : Value} {x : FV} (h : Rd w A v x) (hc : Chg (fun _ => False) w w') : Rd w' A v x :=
  Rd.mono hc (fun _ h => h.elim) (fun _ _ h => h) h

theorem SvRel.chg {w' : World} {v : Value} {s : SV} (h : SvRel w (Av O ρ B L) ρ B L v s) (hc : Chg (fun _ => False) w w') : SvRel w' (Av O ρ B L) ρ B L v s := by
  cases s with
  | unk => trivial
  | fv x => exact Rd.chg h hc
  | ref id sz off len ap => exact h
  | ptr id sz i c => exact h
  | clo f nf caps =>
    obtain ⟨fs, cs, e, h1, h2, h4⟩ := h
    refine ⟨fs, cs, e, h1, h2, fun j u x hu hx => ?_⟩
    have := h4 j u x hu hx
    cases x with
    | fz y => exact Rd.chg this hc
    | own id sz => exact this

/-- What is looked for of an operation that only reads. -/
def Gives (P : Program) (w : World) (O : Nat → Prop) (ρ : Rho) (B L : List Ent) (r : Result Value) (s : SV) : Prop :=
  ∃ v w', r = .ok v w' ∧ Chg (fun _ => False) w w' ∧ SvRel w' (Av O ρ B L) ρ B L v s

theorem Gives.same {r : Result Value} {s : SV} {v : Value} (h : r = .ok v w) (hs : SvRel w (Av O ρ B L) ρ B L v s) : Gives P w O ρ B L r s := ⟨v, w, h, Chg.refl _ _, hs⟩

theorem Gives.exec {val : Operand → Value} {o : Oper} {m : Sem Value} {s : SV} (h : Gives P w O ρ B L (m.run P w) s) (he : execOp val o = (do pure (.value (← m)))) :
    ∃ v w', (execOp val o).run P w = .ok (.value v) w' ∧ Chg (fun _ => False) w w' ∧ SvRel w' (Av O ρ B L) ρ B L v s := by
  obtain ⟨v, w', h1, h2, h3⟩ := h
  exact ⟨v, w', by rw [he]; simp [h1], h2, h3⟩

/-! ### Numbers -/
theorem evInt_run {op : BinOp} {k : IntKind} {a b : Int} {y : FV} {t : TypeId} (hs : op ≠ .shl ∧ op ≠ .shr) (h : evInt op k a b = some y) (x1 x2 : Operand) :
    ∃ v, (do eqGuard op t x1 x2 (.int k a) (.int k b); binOp op t (.int k a) (.int k b) : Sem Value).run P w = .ok v w ∧ ∀ A, Rd w A v y := by
  cases op <;> simp only [evInt] at h <;> first
    | (cases h; done)
    | (exact absurd rfl hs.1)
    | (exact absurd rfl hs.2)
    | (injection h with h; subst h; refine ⟨_, by simp only [Sem.run_bind, eqGuard_at_int, Sem.run_pure, Result.andThen_ok, binOp_add, binOp_sub, binOp_mul, binOp_and, binOp_or, binOp_xor, binOp_andNot, binOp_eql, binOp_neq, binOp_lss, binOp_leq, binOp_gtr, binOp_geq, Op.intArith, Op.intBits]; try rfl, fun A => by constructor⟩)
    | (split at h <;> first | (cases h; done) | (injection h with h; subst h; rename_i hb; refine ⟨_, by simp [eqGuard_at_int, binOp, Op.intDiv, hb]; try rfl, fun A => by constructor⟩))


theorem evShift_run {op : BinOp} {k k' : IntKind} {a b : Int} {y : FV} {t : TypeId} (hs : op = .shl ∨ op = .shr) (h : evShift op k a b = some y) (x1 x2 : Operand) :
    ∃ v, (do eqGuard op t x1 x2 (.int k a) (.int k' b); binOp op t (.int k a) (.int k' b) : Sem Value).run P w = .ok v w ∧ ∀ A, Rd w A v y := by
  unfold evShift at h
  split at h
  · cases h
  · rename_i hb
    rcases hs with rfl | rfl <;> simp only at h <;> injection h with h <;> subst h <;>
      exact ⟨_, by simp only [Sem.run_bind, eqGuard_at_int, Sem.run_pure, Result.andThen_ok, binOp_shl, binOp_shr, Op.shift, hb, if_false]; rfl, fun A => by constructor⟩

theorem equal_nil_sl {t e : TypeId} (ht : P.underlying t = some (.slice e)) (a : Option Addr) (n c : Nat) :
    (Op.equal t (.slice a n c) (.slice none 0 0)).run P w = .ok a.isNone w := by
  unfold Op.equal Op.maxDepth
  rw [show (10000 : Nat) = 9999 + 1 from rfl]
  generalize 9999 = d
  simp only [Op.equalIn, Sem.run_bind, run_underlying ht, Result.andThen_ok]
  cases a <;> rfl

theorem equal_nil_ptr {t e : TypeId} (ht : P.underlying t = some (.pointer e)) (a : Option Addr) :
    (Op.equal t (.pointer a) (.pointer none)).run P w = .ok a.isNone w := by
  unfold Op.equal Op.maxDepth
  rw [show (10000 : Nat) = 9999 + 1 from rfl]
  generalize 9999 = d
  simp only [Op.equalIn, Sem.run_bind, run_underlying ht, Result.andThen_ok]
  cases a <;> rfl

theorem equal_nil_fn {t : TypeId} {p q : Array TypeId} {z : Bool} (ht : P.underlying t = some (.func p q z)) (v : Value) (b : Bool) (hv : (v = .nilFunc ∧ b = true) ∨ (∃ f x y, v = .func f x y ∧ b = false)) :
    (Op.equal t v .nilFunc).run P w = .ok b w := by
  unfold Op.equal Op.maxDepth
  rw [show (10000 : Nat) = 9999 + 1 from rfl]
  generalize 9999 = d
  simp only [Op.equalIn, Sem.run_bind, run_underlying ht, Result.andThen_ok]
  rcases hv with ⟨rfl, rfl⟩ | ⟨f, x, y, rfl, rfl⟩ <;> rfl

theorem equal_bool {t : TypeId} (ht : P.underlying t = some .bool) (a b : Bool) : (Op.equal t (.bool a) (.bool b)).run P w = .ok (a == b) w := by
  unfold Op.equal Op.maxDepth
  rw [show (10000 : Nat) = 9999 + 1 from rfl]
  generalize 9999 = d
  simp only [Op.equalIn, Sem.run_bind, run_underlying ht, Result.andThen_ok]
  rfl

theorem tk_sl {t : TypeId} (h : tkOf P t = some .sl) : ∃ e, P.underlying t = some (.slice e) := by
  unfold tkOf at h; split at h <;> first | (exact ⟨_, by assumption⟩) | (cases h)
theorem tk_ptr {t : TypeId} (h : tkOf P t = some .ptr) : ∃ e, P.underlying t = some (.pointer e) := by
  unfold tkOf at h; split at h <;> first | (exact ⟨_, by assumption⟩) | (cases h)
theorem tk_fn {t : TypeId} (h : tkOf P t = some .fn) : ∃ p q z, P.underlying t = some (.func p q z) := by
  unfold tkOf at h; split at h <;> first | (exact ⟨_, _, _, by assumption⟩) | (cases h)
theorem tk_bool {t : TypeId} (h : tkOf P t = some .bool) : P.underlying t = some .bool := by
  unfold tkOf at h; split at h <;> first | assumption | (cases h)

/-- Whether a value is nil, as '==' against nil tells it. -/
theorem isNil_run {t : TypeId} {tk : TK} (ht : tkOf P t = some tk) {x y : SV} {v u : Value} (hx : SvRel w (Av O ρ B L) ρ B L v x) (hy : SvRel w (Av O ρ B L) ρ B L u y)
    (hn : isNilC tk y = true) {b : Bool} (h : isNil tk x = some b) : (Op.equal t v u).run P w = .ok b w ∧
      (∀ op x1 x2, eqGuard op t x1 x2 v u = pure ()) ∧ (binOp .eql t v u = (do pure (.bool (← Op.equal t v u)))) ∧ (binOp .neq t v u = (do pure (.bool (!(← Op.equal t v u))))) := by
  unfold isNilC at hn
  split at hn
  · -- a slice
    obtain ⟨e, he⟩ := tk_sl ht
    have hu : u = .slice none 0 0 := by
      cases hy with
      | slE t a c h => obtain ⟨rfl, _, rfl⟩ := h; rfl
      | sl t xs sz b o c f hz hx => exact absurd rfl hx
    subst hu
    unfold isNil at h
    split at h <;> first | (cases h; done) | skip
    all_goals (try (rename_i hk; cases hk))
    all_goals injection h with h; subst h
    · cases hx with
      | slE t a c h' => obtain ⟨rfl, _, rfl⟩ := h'; exact ⟨equal_nil_sl he _ _ _, fun op x1 x2 => eqGuard_at_slice _ _ _ _ _ _ _ _, rfl, rfl⟩
      | sl t xs sz b o c f hz hx => exact absurd rfl hx
    · cases hx with
      | sl t xs sz b o c f hz hx hk hw ho hf hr ht => exact ⟨equal_nil_sl he _ _ _, fun op x1 x2 => eqGuard_at_slice _ _ _ _ _ _ _ _, rfl, rfl⟩
    · obtain ⟨_, cap, rfl, _⟩ := hx
      exact ⟨equal_nil_sl he _ _ _, fun op x1 x2 => eqGuard_at_slice _ _ _ _ _ _ _ _, rfl, rfl⟩
  · obtain ⟨e, he⟩ := tk_ptr ht
    have hu : u = .pointer none := by cases hy; rfl
    subst hu
    unfold isNil at h
    split at h <;> first | (cases h; done) | skip
    all_goals (try (rename_i hk; cases hk))
    all_goals injection h with h; subst h
    · cases hx; exact ⟨equal_nil_ptr he _, fun op x1 x2 => eqGuard_at_pointer _ _ _ _ _ _, rfl, rfl⟩
    · cases hx; exact ⟨equal_nil_ptr he _, fun op x1 x2 => eqGuard_at_pointer _ _ _ _ _ _, rfl, rfl⟩
    · obtain ⟨_, rfl⟩ := hx
      exact ⟨equal_nil_ptr he _, fun op x1 x2 => eqGuard_at_pointer _ _ _ _ _ _, rfl, rfl⟩
  · obtain ⟨p, q, z, he⟩ := tk_fn ht
    have hu : u = .nilFunc := by cases hy; rfl
    subst hu
    unfold isNil at h
    split at h <;> first | (cases h; done) | skip
    all_goals (try (rename_i hk; cases hk))
    all_goals injection h with h; subst h
    · cases hx; exact ⟨equal_nil_fn he _ _ (.inl ⟨rfl, rfl⟩), fun op x1 x2 => eqGuard_at_nilFunc _ _ _ _ _, rfl, rfl⟩
    · cases hx; exact ⟨equal_nil_fn he _ _ (.inr ⟨_, _, _, rfl, rfl⟩), fun op x1 x2 => eqGuard_at_func _ _ _ _ _ _ _ _, rfl, rfl⟩
    · obtain ⟨fs, cs, rfl, _⟩ := hx
      exact ⟨equal_nil_fn he _ _ (.inr ⟨_, _, _, rfl, rfl⟩), fun op x1 x2 => eqGuard_at_func _ _ _ _ _ _ _ _, rfl, rfl⟩
  · cases hn
end
end Go.Ab
