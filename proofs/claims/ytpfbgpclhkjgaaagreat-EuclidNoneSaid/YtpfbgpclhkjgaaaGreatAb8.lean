/- A part of the proof: an evaluator of programs, its soundness, and what it says of the functions in hand. It holds without further conditions. -/
import Derived.Test.YtpfbgpclhkjgaaaGreatAb7
set_option linter.unusedVariables false
set_option linter.unusedSimpArgs false
namespace Go.Ab

section
variable {P : Program} {w : World} {O : Nat → Prop} {ρ : Rho} {B L : List Ent}

/-- The operands of an operation, and what is known of them. -/
def Ops (P : Program) (nt : Nat) (w : World) (O : Nat → Prop) (ρ : Rho) (B L : List Ent) (val : Operand → Value) (g : Look) (o : Op) : Prop :=
  ∀ x y, x ∈ o.operands → trOpd nt x = some y → SvRel w (Av O ρ B L) ρ B L (val x) (g y)

theorem trOpds_get {nt : Nat} : ∀ (xs : List Operand) (ys : List Opd), trOpds nt xs = some ys → xs.length = ys.length ∧ ∀ (j : Nat) (x : Operand) (y : Opd), xs[j]? = some x → ys[j]? = some y → trOpd nt x = some y
  | [], ys, h => by simp only [trOpds, Option.some.injEq] at h; subst h; simp
  | x :: xs, ys, h => by
    simp only [trOpds, Option.bind_eq_some_iff, Option.map_eq_some_iff] at h
    obtain ⟨y, hy, ys', hs, rfl⟩ := h
    obtain ⟨k1, k2⟩ := trOpds_get xs ys' hs
    refine ⟨by simp [k1], fun j a b ha hb => ?_⟩
    match j with
    | 0 => simp at ha hb; subst ha; subst hb; exact hy
    | j + 1 => exact k2 j a b (by simpa using ha) (by simpa using hb)

theorem opds_rel {nt : Nat} {val : Operand → Value} {g : Look} {xs : List Operand} {ys : List Opd} (h : trOpds nt xs = some ys)
    (hg : ∀ x y, x ∈ xs → trOpd nt x = some y → SvRel w (Av O ρ B L) ρ B L (val x) (g y)) :
    (xs.map val).length = (ys.map g).length ∧ ∀ (j : Nat) (v : Value) (s : SV), (xs.map val)[j]? = some v → (ys.map g)[j]? = some s → SvRel w (Av O ρ B L) ρ B L v s := by
  obtain ⟨k1, k2⟩ := trOpds_get xs ys h
  refine ⟨by simp [k1], fun j v s hv hs => ?_⟩
  simp only [List.getElem?_map, Option.map_eq_some_iff] at hv hs
  obtain ⟨x, hx, rfl⟩ := hv
  obtain ⟨y, hy, rfl⟩ := hs
  exact hg x y (List.mem_of_getElem? hx) (k2 j x y hx hy)

theorem trOpt_rel {nt : Nat} {val : Operand → Value} {g : Look} {x : Option Operand} {y : Option Opd} (h : trOpt nt x = some y)
    (hg : ∀ a b, x = some a → trOpd nt a = some b → SvRel w (Av O ρ B L) ρ B L (val a) (g b)) : OptRel w O ρ B L (x.map val) (y.map g) := by
  cases x with
  | none => simp only [trOpt, Option.some.injEq] at h; subst h; trivial
  | some a =>
    simp only [trOpt, Option.map_eq_some_iff] at h
    obtain ⟨b, hb, rfl⟩ := h
    exact hg a b rfl hb

theorem sliceOf_und {t e : TypeId} (h : sliceOf P t = some e) : P.underlying t = some (.slice e) := by
  unfold sliceOf at h; split at h <;> first | (injection h with h; subst h; assumption) | (cases h)

theorem structOf_und {t : TypeId} {fs : List Field} (h : structOf P t = some fs) : ∃ fa, P.underlying t = some (.struct fa) ∧ fs = fa.toList := by
  unfold structOf at h; split at h <;> first | (injection h with h; exact ⟨_, by assumption, h.symm⟩) | (cases h)

theorem fld_run {t : TypeId} {fs : List Field} {i : Nat} {f : Field} {ag : Bool} {n : Nat} {v : Value} {cs : List FV} {y : FV} (h1 : structOf P t = some fs) (h2 : fs[i]? = some f) (h3 : agOf P f.type = some ag) (h4 : szOf P f.type = some n)
    (hr : Rd w (Av O ρ B L) v (.agg cs)) (h : (if ag then (if f.offset + n ≤ cs.length then some (FV.agg (cutL cs f.offset n)) else none) else cs[f.offset]?) = some y) :
    ∃ u, (Instr.field t v i).run P w = .ok u w ∧ Rd w (Av O ρ B L) u y := by
  obtain ⟨fa, hu, rfl⟩ := structOf_und h1
  cases hr with
  | agg vs cs hl ho hr =>
    have hf : fa[i]? = some f := by simpa using h2
    unfold Instr.field
    simp only [Sem.run_bind, run_underlying hu, Result.andThen_ok, hf, asAgg, Sem.run_pure, part, run_isAgg h3]
    cases ag with
    | true =>
      simp only [if_true] at h
      split at h
      · rename_i hle
        injection h with h; subst h
        refine ⟨.agg (vs.extract f.offset (f.offset + n)), by simp [run_sizeOf h4], .agg _ _ ?_ (fun x hx => ho x (mem_cutL hx)) fun j v x hv hx => ?_⟩
        · simp [cutL]; omega
        · have hj : j < n := by have := (List.getElem?_eq_some_iff.1 hx).1; simp [cutL] at this; omega
          refine hr (f.offset + j) v x ?_ ?_
          · have hs := At_lt hv
            simp only [At, Array.getElem?_extract] at hv
            split at hv
            · exact hv
            · cases hv
          · simpa [cutL, hj] using hx
      · cases h
    | false =>
      simp only [Bool.false_eq_true, if_false] at h
      have hj : f.offset < vs.size := by rw [hl]; exact (List.getElem?_eq_some_iff.1 h).1
      refine ⟨vs[f.offset], by simp [hj], hr f.offset _ _ (by simp [At, hj]) h⟩

theorem fieldPlace_run {f : Field} {n b o : Nat} (h : szOf P f.type = some n) (hn : 0 < n) : (fieldPlace ⟨b, o, none⟩ f).run P w = .ok ⟨b, o + f.offset, none⟩ w := by
  unfold fieldPlace
  simp only [Sem.run_bind, run_sizeOf h, Result.andThen_ok]
  rw [if_neg (by omega)]
  simp [add_plain]

theorem ldElem_ptr {A : Nat → Prop} {ag : Bool} {n off b o : Nat} {x y : FV} {f : Nat → Value} (hn : 0 < n) (h1 : ∀ z ∈ x.cells, z.one = true) (hb : ¬ A b)
    (hf : ∀ j, j < x.cells.length → w.cell? ⟨b, o + j, none⟩ = some (f j)) (hr : ∀ j z, x.cells[j]? = some z → Rd w A (f j) z) (h : ldElem ag n off x = some y) (hag : ag = false → n = 1) :
    Rd w A (.pointer (some ⟨b, o + off, none⟩)) (.ptr y) := by
  obtain ⟨hle, hrd⟩ := ldElem_rd (w := w) (A := A) (f := f) h1 hr h
  have hy : y.cells.length = (if ag then n else 1) ∧ (∀ z ∈ y.cells, z.one = true) ∧ ∀ j z, y.cells[j]? = some z → Rd w A (f (off + j)) z := by
    cases ag with
    | true =>
      simp only [if_true] at hrd
      cases hrd with
      | agg vs cs hl ho hr' =>
        simp only [FV.cells]
        refine ⟨by simpa using hl.symm, ho, fun j z hz => ?_⟩
        have hj : j < n := by have := (List.getElem?_eq_some_iff.1 hz).1; simp at hl; omega
        have := hr' j (f (off + j)) z (by simp [At, hj]) hz
        exact this
    | false =>
      simp only [Bool.false_eq_true, if_false] at hrd
      have hone : y.one = true := by
        unfold ldElem at h
        split at h
        · rename_i hc
          injection h with h; subst h
          simp only [FV.fits, Bool.and_eq_true] at hc
          exact hc.2.1
        · simp only [Bool.false_eq_true, if_false] at h
          split at h
          · exact h1 y (List.mem_of_getElem? h)
          · cases h
      have hc : y.cells = [y] := by cases y <;> first | rfl | (simp [FV.one] at hone)
      rw [hc]
      refine ⟨rfl, by simpa using hone, fun j z hz => ?_⟩
      match j with
      | 0 => simp at hz; subst hz; exact hrd
      | j + 1 => simp at hz
  refine Rd.ptr y b (o + off) (fun j => f (off + j)) ?_ hy.2.1 hb (fun j hj => ?_) hy.2.2
  · rw [hy.1]; split <;> omega
  · rw [Nat.add_assoc]; exact hf _ (by rw [hy.1] at hj; omega)

theorem idx_run {t e : TypeId} {sz len cap b o : Nat} {k : IntKind} {n : Int} (h1 : P.underlying t = some (.slice e)) (h2 : szOf P e = some sz) (h0 : 0 ≤ n) (hl : n < len) :
    (Instr.indexAt t (.slice (some ⟨b, o, none⟩) len cap) (.int k n)).run P w = .ok (.pointer (some ⟨b, o + n.toNat * sz, none⟩)) w := by
  unfold Instr.indexAt
  simp only [asIntOf, Sem.run_bind, Sem.run_pure, Result.andThen_ok, run_underlying h1]
  rw [if_pos ⟨h0, hl⟩]
  simp [run_sizeOf h2, add_plain]

theorem Rd.inv_bool {A : Nat → Prop} {v : Value} {b : Bool} (h : Rd w A v (.bool b)) : v = .bool b := by cases h; rfl
theorem Rd.inv_int {A : Nat → Prop} {v : Value} {k : IntKind} {n : Int} (h : Rd w A v (.int k n)) : v = .int k n := by cases h; rfl
theorem Rd.inv_str {A : Nat → Prop} {v : Value} {s : ByteArray} (h : Rd w A v (.str s)) : v = .string s := by cases h; rfl
theorem Rd.inv_ptr {A : Nat → Prop} {v : Value} {x : FV} (h : Rd w A v (.ptr x)) : ∃ (b o : Nat) (f : Nat → Value), v = .pointer (some ⟨b, o, none⟩) ∧ 0 < x.cells.length ∧ (∀ y ∈ x.cells, y.one = true) ∧ ¬ A b ∧
    (∀ j, j < x.cells.length → w.cell? ⟨b, o + j, none⟩ = some (f j)) ∧ ∀ j y, x.cells[j]? = some y → Rd w A (f j) y := by
  cases h with
  | ptr x b o f hx h1 ho hf hr => exact ⟨b, o, f, rfl, hx, h1, ho, hf, hr⟩
theorem Rd.inv_fn {A : Nat → Prop} {v : Value} {f : Fn} {first caps : List FV} (h : Rd w A v (.fn f first caps)) : ∃ fs cs, v = .func f fs cs ∧ fs.size = first.length ∧ cs.size = caps.length ∧
    (∀ j u x, At fs j = some u → first[j]? = some x → Rd w A u x) ∧ ∀ j u x, At cs j = some u → caps[j]? = some x → Rd w A u x := by
  cases h with
  | fn g fs cs first caps hf hc h1 h2 => exact ⟨fs, cs, rfl, hf, hc, h1, h2⟩
theorem Rd.inv_tup {A : Nat → Prop} {v : Value} {xs : List FV} (h : Rd w A v (.tup xs)) : ∃ vs, v = .tuple vs ∧ vs.size = xs.length ∧ ∀ j u x, At vs j = some u → xs[j]? = some x → Rd w A u x := by
  cases h with
  | tup vs cs hl h => exact ⟨vs, rfl, hl, h⟩

theorem Gives.fv {r : Result Value} {x : FV} {v : Value} (h : r = .ok v w) (hs : Rd w (Av O ρ B L) v x) : Gives P w O ρ B L r (.fv x) := ⟨v, w, h, Chg.refl _ _, hs⟩

set_option maxHeartbeats 1000000 in
theorem evQ_run {nt : Nat} {val : Operand → Value} {g : Look} {call : Disp} (o : Oper) {io : IOp} {s : SV} (hh : Heap w O ρ B L) (hg : Ops P nt w O ρ B L val g o.op)
    (htr : trOp P nt o.op = some io) (hnc : ∀ f as, io ≠ .call f as) (h : evQ call io g B L = some s) :
    ∃ v w', (execOp val o).run P w = .ok (.value v) w' ∧ Chg (fun _ => False) w w' ∧ SvRel w' (Av O ρ B L) ρ B L v s := by
  obtain ⟨dst, op, type, pos, after, guard⟩ := o
  have mv : ∀ (x : Operand), x ∈ op.operands → (trOpd nt x).map IOp.mv = some io → (∀ w, (execOp val ⟨dst, op, type, pos, after, guard⟩).run P w = .ok (.value (val x)) w) →
      ∃ v w', (execOp val ⟨dst, op, type, pos, after, guard⟩).run P w = .ok (.value v) w' ∧ Chg (fun _ => False) w w' ∧ SvRel w' (Av O ρ B L) ρ B L v s := by
    intro x hx ht hrun
    obtain ⟨y, hy, rfl⟩ := Option.map_eq_some_iff.1 ht
    have hr := hg x y hx hy
    simp only [evQ] at h
    split at h
    · cases h
    · injection h with h; subst h
      exact ⟨_, w, hrun w, Chg.refl _ _, hr⟩
  cases op <;> simp only [trOp] at htr
  case move x => exact mv x (by simp [Op.operands]) htr (fun w => rfl)
  case assign x => exact mv x (by simp [Op.operands]) htr (fun w => rfl)
  case pick c a b =>
    simp only [Option.bind_eq_some_iff, Option.map_eq_some_iff] at htr
    obtain ⟨c', hc, a', ha, b', hb, rfl⟩ := htr
    have h1 := hg c c' (by simp [Op.operands]) hc
    have h2 := hg a a' (by simp [Op.operands]) ha
    have h3 := hg b b' (by simp [Op.operands]) hb
    simp only [evQ] at h
    split at h
    · rename_i t ht
      rw [ht] at h1
      have hv : val c = .bool t := Rd.inv_bool h1
      split at h
      · cases h
      · injection h with h; subst h
        refine ⟨_, w, by simp only [execOp, hv, asBool, Sem.run_bind, Sem.run_pure, Result.andThen_ok]; rfl, Chg.refl _ _, ?_⟩
        cases t
        · exact h3
        · exact h2
    · cases h
  case box e x => simp only [Option.bind_eq_some_iff, Option.map_eq_some_iff] at htr; obtain ⟨_, _, _, _, rfl⟩ := htr; simp [evQ] at h
  case alloc e => simp only [Option.bind_eq_some_iff, Option.map_eq_some_iff] at htr; obtain ⟨_, _, _, _, rfl⟩ := htr; simp [evQ] at h
  case store t a x => simp only [Option.bind_eq_some_iff, Option.map_eq_some_iff] at htr; obtain ⟨_, _, _, _, _, _, rfl⟩ := htr; simp [evQ] at h
  case makeSlice t l c => simp only [Option.bind_eq_some_iff, Option.map_eq_some_iff] at htr; obtain ⟨_, _, _, _, _, _, _, _, _, _, _, _, rfl⟩ := htr; simp [evQ] at h
  case build t ps =>
    simp only [Option.bind_eq_some_iff] at htr
    obtain ⟨fs, h1, z, h2, htr⟩ := htr
    split at htr
    · rename_i h3
      obtain ⟨qs, h4, rfl⟩ := Option.map_eq_some_iff.1 htr
      simp only [evQ, Option.bind_eq_some_iff, Option.map_eq_some_iff] at h
      obtain ⟨rs, h5, cs, h6, rfl⟩ := h
      obtain ⟨v, hv1, hv2⟩ := build_run hh h1 h2 h3 h4 (fun x y hx => hg x y (by simpa [Op.operands] using hx)) h5 h6
      exact (Gives.fv (P := P) hv1 hv2).exec rfl
    · cases htr
  case buildSlice t n ps =>
    simp only [Option.bind_eq_some_iff, Option.map_eq_some_iff] at htr
    obtain ⟨e, h1, sz, h0, z, h2, qs, h4, rfl⟩ := htr
    simp only [evQ] at h
    split at h
    · rename_i hc
      obtain ⟨hz, hzl, _, hn⟩ := hc
      simp only [Option.bind_eq_some_iff, Option.map_eq_some_iff] at h
      obtain ⟨rs, h5, xs, h6, rfl⟩ := h
      exact (bsl_run hh (sliceOf_und h1) h0 h2 h4 (fun x y hx => hg x y (by simpa [Op.operands] using hx)) h5 hz hzl hn h6).exec rfl
    · cases h
  case load t a =>
    simp only [Option.bind_eq_some_iff, Option.map_eq_some_iff] at htr
    obtain ⟨ag, h1, n, h2, y, hy, rfl⟩ := htr
    have hr := hg a y (by simp [Op.operands]) hy
    simp only [evQ] at h
    split at h
    · rename_i x hx
      rw [hx] at hr
      obtain ⟨z, hz, rfl⟩ := Option.map_eq_some_iff.1 h
      obtain ⟨u, hu1, hu2⟩ := load_ptr h1 h2 hr hz
      exact (Gives.fv (P := P) hu1 hu2).exec rfl
    · rename_i id sz i c hx
      rw [hx] at hr
      obtain ⟨_, hv⟩ := hr
      have key : ∀ sz2 xs, (ent B L id = .own sz2 xs ∨ ent B L id = .frz sz2 xs) → (if sz = sz2 then (xs[i]?).bind fun y => (ldElem ag n c y).map SV.fv else none) = some s → 
          ∃ v w', (execOp val ⟨dst, .load t a, type, pos, after, guard⟩).run P w = .ok (.value v) w' ∧ Chg (fun _ => False) w w' ∧ SvRel w' (Av O ρ B L) ρ B L v s := by
        intro sz2 xs he h
        split at h
        · rename_i hs
          subst hs
          simp only [Option.bind_eq_some_iff, Option.map_eq_some_iff] at h
          obtain ⟨x, hx, z, hz, rfl⟩ := h
          obtain ⟨k1, k2, k3⟩ := entRd hh he
          obtain ⟨u, hu1, hu2⟩ := load_elem h1 h2 k2 k3 hx hz
          refine (Gives.fv (P := P) ?_ hu2).exec rfl
          simp only [Instr.loadAt, hv, Instr.sureAddr, Sem.run_bind, Sem.run_pure, Result.andThen_ok]
          exact hu1
        · cases h
      split at h
      · rename_i sz2 xs he; exact key _ _ (.inl he) h
      · rename_i sz2 xs he; exact key _ _ (.inr he) h
      · cases h
    · cases h
  case nilCheck x =>
    obtain ⟨y, hy, rfl⟩ := Option.map_eq_some_iff.1 htr
    have hr := hg x y (by simp [Op.operands]) hy
    simp only [evQ] at h
    split at h
    · rename_i z hz
      rw [hz] at hr
      injection h with h; subst h
      obtain ⟨b, o, f, hv, _⟩ := Rd.inv_ptr hr
      exact ⟨_, w, by simp only [execOp, hv]; rfl, Chg.refl _ _, by rw [hv] at hr; exact hr⟩
    · rename_i id sz i c hz
      rw [hz] at hr
      injection h with h; subst h
      obtain ⟨h1, h2⟩ := hr
      exact ⟨_, w, by simp only [execOp, h2]; rfl, Chg.refl _ _, ⟨h1, rfl⟩⟩
    · rename_i f a b hz
      rw [hz] at hr
      split at h
      · cases h
      · rename_i hnm
        injection h with h; subst h
        obtain ⟨fs, cs, hv, _⟩ := Rd.inv_fn hr
        refine ⟨_, w, ?_, Chg.refl _ _, by rw [hv] at hr; exact hr⟩
        simp only [execOp, hv]
        cases f <;> first | rfl | (exact absurd rfl (hnm _))
    · rename_i f a b hz
      rw [hz] at hr
      split at h
      · cases h
      · rename_i hnm
        injection h with h; subst h
        obtain ⟨fs, cs, e, hrest⟩ := hr
        refine ⟨_, w, ?_, Chg.refl _ _, ⟨fs, cs, rfl, hrest⟩⟩
        simp only [execOp, e]
        cases f <;> first | rfl | (exact absurd rfl (hnm _))
    · cases h
  case binOp op t x y yt =>
    simp only [Option.bind_eq_some_iff, Option.map_eq_some_iff] at htr
    obtain ⟨tk, ht, x', hx, y', hy, rfl⟩ := htr
    simp only [evQ, Option.map_eq_some_iff] at h
    obtain ⟨z, hz, rfl⟩ := h
    obtain ⟨r, h1, h2⟩ := evBin_run (P := P) ht (hg x x' (by simp [Op.operands]) hx) (hg y y' (by simp [Op.operands]) hy) hz x y
    exact (Gives.fv (P := P) h1 h2).exec rfl
  case unOp op t x =>
    obtain ⟨x', hx, rfl⟩ := Option.map_eq_some_iff.1 htr
    simp only [evQ, Option.map_eq_some_iff] at h
    obtain ⟨z, hz, rfl⟩ := h
    obtain ⟨r, h1, h2⟩ := evUn_run (P := P) (hg x x' (by simp [Op.operands]) hx) hz
    exact (Gives.fv (P := P) h1 h2).exec rfl
  case convert a b x =>
    split at htr
    · rename_i d k hs hd
      obtain ⟨x', hx, rfl⟩ := Option.map_eq_some_iff.1 htr
      have hr := hg x x' (by simp [Op.operands]) hx
      simp only [evQ] at h
      split at h
      · rename_i k' n hn
        injection h with h; subst h
        rw [hn] at hr
        have hv := Rd.inv_int hr
        refine (Gives.fv (P := P) (v := .int k (k.wrap n)) ?_ (.int _ _)).exec rfl
        rw [hv]
        simp only [convert, Sem.run_bind, run_underlying hs, run_underlying hd, Result.andThen_ok, Conv.intToInt, Sem.run_pure]
      · cases h
    · cases htr
  case makeFunc fn first caps =>
    simp only [Option.bind_eq_some_iff, Option.map_eq_some_iff] at htr
    obtain ⟨fs, h1, cs, h2, rfl⟩ := htr
    simp only [evQ, Option.bind_eq_some_iff, Option.map_eq_some_iff] at h
    obtain ⟨ys, hy, rfl⟩ := h
    obtain ⟨a1, a2⟩ := opds_rel (w := w) (O := O) (ρ := ρ) (B := B) (L := L) (val := val) (g := g) h1 (fun x y hx => hg x y (by simp [Op.operands]; exact .inl (by simpa using hx)))
    obtain ⟨b1, b2⟩ := opds_rel (w := w) (O := O) (ρ := ρ) (B := B) (L := L) (val := val) (g := g) h2 (fun x y hx => hg x y (by simp [Op.operands]; exact .inr (by simpa using hx)))
    have ab : ∀ (j : Nat) (v : Value) (s : SV), (first.toList.map val ++ caps.toList.map val)[j]? = some v → (fs.map g ++ cs.map g)[j]? = some s → SvRel w (Av O ρ B L) ρ B L v s := by
      intro j v s hv hs
      by_cases hj : j < (first.toList.map val).length
      · rw [List.getElem?_append_left hj] at hv
        rw [List.getElem?_append_left (by omega)] at hs
        exact a2 j v s hv hs
      · rw [List.getElem?_append_right (by omega)] at hv
        rw [List.getElem?_append_right (by omega), ← a1] at hs
        exact b2 _ v s hv hs
    rw [List.map_append] at hy
    obtain ⟨d1, d2⟩ := mkCaps_rel hh _ _ _ hy (by simp only [List.length_append]; omega) ab
    refine ⟨.func fn (first.map val) (caps.map val), w, rfl, Chg.refl _ _, ?_⟩
    have e0 : (first.map val).size = fs.length := by simpa using a1
    have e1 : (first.map val ++ caps.map val).size = ys.length := by
      rw [d1]
      simp only [Array.size_append, Array.size_map, List.length_append, List.length_map] at a1 b1 ⊢
      simp only [Array.length_toList] at a1 b1
      omega
    have hcap : ∀ j u x, At (first.map val ++ caps.map val) j = some u → ys[j]? = some x → CapRel w (Av O ρ B L) ρ B L u x := fun j u x hu hx => d2 j u x (by
      simp only [At] at hu
      rw [← Array.getElem?_toList] at hu
      simpa using hu) hx
    split
    · rename_i zs hz
      have : ∀ (ys : List Cap) (zs : List FV), capsFv? ys = some zs → ys.length = zs.length ∧ ∀ (j : Nat) (x : FV), zs[j]? = some x → ys[j]? = some (.fz x) := by
        intro ys
        induction ys with
        | nil => intro zs h; simp only [capsFv?, Option.some.injEq] at h; subst h; simp
        | cons y ys ih =>
          intro zs h
          simp only [capsFv?, Option.bind_eq_some_iff, Option.map_eq_some_iff] at h
          obtain ⟨x, hx, zs', hz, rfl⟩ := h
          obtain ⟨i1, i2⟩ := ih _ hz
          refine ⟨by simp [i1], fun j z hj => ?_⟩
          match j with
          | 0 => simp at hj; subst hj; cases y <;> simp [Cap.fv?] at hx; subst hx; rfl
          | j + 1 => exact i2 j z (by simpa using hj)
      obtain ⟨i1, i2⟩ := this _ _ hz
      exact fn_split e0 (e1.trans i1) fun j u x hu hx => hcap j u _ hu (i2 j x hx)
    · exact ⟨_, _, rfl, e0, e1, hcap⟩
  case slice t x lo hi mx =>
    simp only [Option.bind_eq_some_iff, Option.map_eq_some_iff] at htr
    obtain ⟨e, h1, sz, h2, x', hx, lo', hlo, hi', hhi, mx', hmx, rfl⟩ := htr
    have hr := hg x x' (by simp [Op.operands]) hx
    have r1 := trOpt_rel (w := w) (O := O) (ρ := ρ) (B := B) (L := L) (val := val) (g := g) hlo (fun a b ha => hg a b (by subst ha; simp [Op.operands]))
    have r2 := trOpt_rel (w := w) (O := O) (ρ := ρ) (B := B) (L := L) (val := val) (g := g) hhi (fun a b ha => hg a b (by subst ha; simp [Op.operands]))
    have r3 := trOpt_rel (w := w) (O := O) (ρ := ρ) (B := B) (L := L) (val := val) (g := g) hmx (fun a b ha => hg a b (by subst ha; simp [Op.operands]))
    simp only [evQ] at h
    split at h
    · rename_i tg xs hxs
      rw [hxs] at hr
      split at h
      · rename_i hw
        obtain ⟨⟨l, hgh, m⟩, hb, rfl⟩ := Option.map_eq_some_iff.1 h
        obtain ⟨r, k1, k2⟩ := slice_fv (P := P) (sliceOf_und h1) h2 hw hr r1 r2 r3 hb
        exact (Gives.fv (P := P) k1 k2).exec rfl
      · cases h
    · rename_i id sz' off n ap hxs
      rw [hxs] at hr
      split at h
      · rename_i hs; subst hs
        obtain ⟨⟨l, hgh, m⟩, hb, rfl⟩ := Option.map_eq_some_iff.1 h
        obtain ⟨r, k1, k2⟩ := slice_ref (P := P) (sliceOf_und h1) h2 hr r1 r2 r3 hb
        exact (Gives.same (P := P) k1 k2).exec rfl
      · cases h
    · cases h
  case fieldAddr t x i =>
    simp only [Option.bind_eq_some_iff] at htr
    obtain ⟨fs, h1, f, h2, ag, h3, n, h4, x', hx, htr⟩ := htr
    split at htr
    · rename_i hn
      injection htr with htr; subst htr
      have hr := hg x x' (by simp [Op.operands]) hx
      obtain ⟨fa, hu, rfl⟩ := structOf_und h1
      have hf : fa[i]? = some f := by simpa using h2
      simp only [evQ] at h
      split at h
      · rename_i cs hc
        rw [hc] at hr
        obtain ⟨y, hy, rfl⟩ := Option.map_eq_some_iff.1 h
        obtain ⟨b, o, fc, hv, k1, k2, k3, k4, k5⟩ := Rd.inv_ptr hr
        have hag : ag = false → n = 1 := by
          intro ha; subst ha
          unfold ldElem at hy
          split at hy
          · rename_i hc; simp [FV.fits] at hc; exact hc.2.2
          · simp only [Bool.false_eq_true, if_false] at hy
            split at hy
            · assumption
            · cases hy
        have hp := ldElem_ptr (w := w) (A := Av O ρ B L) (o := o) hn k2 k3 k4 k5 hy hag
        refine (Gives.fv (P := P) (v := .pointer (some ⟨b, o + f.offset, none⟩)) ?_ hp).exec rfl
        rw [hv]
        simp only [Instr.fieldAt, Sem.run_bind, run_underlying hu, Result.andThen_ok, hf, Instr.sureAddr, Sem.run_pure, fieldPlace_run h4 hn]
      · rename_i id sz' i' c hc
        rw [hc] at hr
        simp only [hn, if_true, Option.some.injEq] at h
        subst h
        obtain ⟨k1, hv⟩ := hr
        refine (Gives.same (P := P) (s := .ptr id sz' i' (c + f.offset)) (v := .pointer (some ⟨(ρ id).1, i' * sz' + c + f.offset, none⟩)) ?_ ⟨k1, by rw [Nat.add_assoc]⟩).exec rfl
        rw [hv]
        simp only [Instr.fieldAt, Sem.run_bind, run_underlying hu, Result.andThen_ok, hf, Instr.sureAddr, Sem.run_pure, fieldPlace_run h4 hn]
      · cases h
    · cases htr
  case field t x i =>
    simp only [Option.bind_eq_some_iff, Option.map_eq_some_iff] at htr
    obtain ⟨fs, h1, f, h2, ag, h3, n, h4, x', hx, rfl⟩ := htr
    have hr := hg x x' (by simp [Op.operands]) hx
    simp only [evQ] at h
    split at h
    · rename_i cs hc
      rw [hc] at hr
      obtain ⟨y, hy, rfl⟩ := Option.map_eq_some_iff.1 h
      obtain ⟨u, k1, k2⟩ := fld_run (P := P) h1 h2 h3 h4 hr hy
      exact (Gives.fv (P := P) k1 k2).exec rfl
    · cases h
  case indexAddr t x i =>
    simp only [Option.bind_eq_some_iff, Option.map_eq_some_iff] at htr
    obtain ⟨e, h1, sz, h2, x', hx, i', hi, rfl⟩ := htr
    have hr := hg x x' (by simp [Op.operands]) hx
    have hri := hg i i' (by simp [Op.operands]) hi
    simp only [evQ] at h
    split at h
    · rename_i tg xs k n hxs hn
      rw [hxs] at hr; rw [hn] at hri
      have hvi := Rd.inv_int hri
      split at h
      · rename_i h0
        split at h
        · rename_i y hy
          split at h
          · rename_i hyl
            injection h with h; subst h
            obtain ⟨a, cap, hv, hcap, hne⟩ := rd_sl_parts hr
            have hlt : n.toNat < xs.length := (List.getElem?_eq_some_iff.1 hy).1
            obtain ⟨sz', b, o, k1, rfl, k2, k3, k4⟩ := hne (fun e => by rw [e] at hlt; simp at hlt)
            have : sz' = sz := by rw [← (k2 y (List.mem_of_getElem? hy)).1]; exact hyl
            subst this
            have hp : Rd w (Av O ρ B L) (.pointer (some ⟨b, o + n.toNat * sz', none⟩)) (.ptr y) := by
              have hm := List.mem_of_getElem? hy
              have hw1 : ∀ x ∈ xs, x.cells.length = sz' := fun x hx => (k2 x hx).1
              refine Rd.ptr y b _ (fun j => (w.cell? ⟨b, o + n.toNat * sz' + j, none⟩).getD undef) (by omega) (k2 y hm).2 k3 (fun j hj => ?_) fun j z hz => ?_
              · have hf := getElem?_flat xs n.toNat y hw1 hy j (by omega)
                rw [List.getElem?_eq_getElem hj] at hf
                obtain ⟨u, hu, _⟩ := k4 _ _ hf
                rw [Nat.add_assoc, hu]; rfl
              · have hj : j < y.cells.length := (List.getElem?_eq_some_iff.1 hz).1
                have hf := getElem?_flat xs n.toNat y hw1 hy j (by omega)
                rw [hz] at hf
                obtain ⟨u, hu, hr⟩ := k4 _ _ hf
                rw [Nat.add_assoc, hu]; exact hr
            refine (Gives.fv (P := P) ?_ hp).exec rfl
            rw [hv, hvi]
            exact idx_run (sliceOf_und h1) h2 h0 (by omega)
          · cases h
        · cases h
      · cases h
    · rename_i id sz' off len ap k n hxs hn
      rw [hxs] at hr; rw [hn] at hri
      have hvi := Rd.inv_int hri
      split at h
      · rename_i hc
        obtain ⟨rfl, h0, hl⟩ := hc
        injection h with h; subst h
        obtain ⟨k1, cap, hv, k2, k3⟩ := hr
        refine (Gives.same (P := P) (s := .ptr id sz (off + n.toNat) 0) (v := .pointer (some ⟨(ρ id).1, off * sz + n.toNat * sz, none⟩)) ?_ ⟨k1, by simp [Nat.add_mul]⟩).exec rfl
        rw [hv, hvi]
        exact idx_run (sliceOf_und h1) h2 h0 hl
      · cases h
    · cases h
  case index t x i =>
    split at htr
    · rename_i hu
      simp only [Option.bind_eq_some_iff, Option.map_eq_some_iff] at htr
      obtain ⟨x', hx, i', hi, rfl⟩ := htr
      have hr := hg x x' (by simp [Op.operands]) hx
      have hri := hg i i' (by simp [Op.operands]) hi
      simp only [evQ] at h
      split at h
      · rename_i st k n hxs hn
        rw [hxs] at hr; rw [hn] at hri
        have hvi := Rd.inv_int hri
        have hv := Rd.inv_str hr
        split at h
        · rename_i h0
          obtain ⟨b, hb, rfl⟩ := Option.map_eq_some_iff.1 h
          refine (Gives.fv (P := P) (v := .int .u8 b.toNat) ?_ (.int _ _)).exec rfl
          rw [hv, hvi]
          simp only [Instr.index, asIntOf, Sem.run_bind, Sem.run_pure, Result.andThen_ok, run_underlying hu, h0, if_true, hb]
        · cases h
      · cases h
    · cases htr
  case extract x i =>
    obtain ⟨x', hx, rfl⟩ := Option.map_eq_some_iff.1 htr
    have hr := hg x x' (by simp [Op.operands]) hx
    simp only [evQ] at h
    split at h
    · rename_i xs hxs
      rw [hxs] at hr
      obtain ⟨y, hy, rfl⟩ := Option.map_eq_some_iff.1 h
      obtain ⟨vs, hv, k1, k2⟩ := Rd.inv_tup hr
      have hi : i < vs.size := by rw [k1]; exact (List.getElem?_eq_some_iff.1 hy).1
      refine (Gives.fv (P := P) (v := vs[i]) ?_ (k2 i _ y (by simp [At, hi]) hy)).exec rfl
      rw [hv]
      simp [Instr.extract, hi]
    · cases h
  case call c =>
    unfold trCall at htr
    obtain ⟨callee, args, argTypes⟩ := c
    simp only at htr
    split at htr
    · -- len
      split at htr
      · rename_i x t ha hat
        split at htr
        · rename_i e hu
          obtain ⟨x', hx, rfl⟩ := Option.map_eq_some_iff.1 htr
          have hargs : args = #[x] := by rw [← Array.toArray_toList (xs := args), ha]
          have htys : argTypes = #[t] := by rw [← Array.toArray_toList (xs := argTypes), hat]
          subst hargs; subst htys
          have hr := hg x x' (by simp [Op.operands, Call.operands]) hx
          simp only [evQ, Option.map_eq_some_iff] at h
          obtain ⟨n, hn, rfl⟩ := h
          have hv : ∃ a c, val x = .slice a n c := by
            unfold lenSl at hn
            split at hn
            · injection hn with hn; subst hn
              rename_i hxs; rw [hxs] at hr
              obtain ⟨a, cap, hv, _⟩ := rd_sl_parts hr
              exact ⟨a, cap, hv⟩
            · rename_i heq _; cases heq
            · injection hn with hn; subst hn
              rename_i hxs; rw [hxs] at hr
              obtain ⟨_, cap, hv, _⟩ := hr
              exact ⟨_, cap, hv⟩
            · cases hn
          obtain ⟨a, c, hv⟩ := hv
          refine ⟨.int .i64 n, w, ?_, Chg.refl _ _, Rd.int _ _⟩
          simp only [execOp, resolve, invoke, builtin, Sem.run_bind, Sem.run_pure, Result.andThen_ok, List.map_toArray, List.map_cons, List.map_nil, hv]
          simp [Builtin.len_, run_underlying hu, goInt]
        · rename_i hu
          obtain ⟨x', hx, rfl⟩ := Option.map_eq_some_iff.1 htr
          have hargs : args = #[x] := by rw [← Array.toArray_toList (xs := args), ha]
          have htys : argTypes = #[t] := by rw [← Array.toArray_toList (xs := argTypes), hat]
          subst hargs; subst htys
          have hr := hg x x' (by simp [Op.operands, Call.operands]) hx
          simp only [evQ, Option.map_eq_some_iff] at h
          obtain ⟨n, hn, rfl⟩ := h
          have hv : ∃ st : ByteArray, val x = .string st ∧ st.size = n := by
            unfold lenSl at hn
            split at hn
            · rename_i heq _; cases heq
            · injection hn with hn; subst hn
              rename_i hxs; rw [hxs] at hr
              exact ⟨_, Rd.inv_str hr, rfl⟩
            · rename_i heq _; cases heq
            · cases hn
          obtain ⟨st, hv, rfl⟩ := hv
          refine ⟨.int .i64 st.size, w, ?_, Chg.refl _ _, Rd.int _ _⟩
          simp only [execOp, resolve, invoke, builtin, Sem.run_bind, Sem.run_pure, Result.andThen_ok, List.map_toArray, List.map_cons, List.map_nil, hv]
          simp [Builtin.len_, run_underlying hu, goInt]
        · cases htr
      · cases htr
    · -- append
      split at htr
      · simp only [Option.bind_eq_some_iff] at htr
        obtain ⟨e, _, e', _, sz, _, by', _, z, _, htr⟩ := htr
        split at htr
        · simp only [Option.bind_eq_some_iff, Option.map_eq_some_iff] at htr
          obtain ⟨_, _, _, _, rfl⟩ := htr
          simp [evQ] at h
        · cases htr
      · cases htr
    · -- max
      obtain ⟨as, ha, rfl⟩ := Option.map_eq_some_iff.1 htr
      obtain ⟨a1, a2⟩ := opds_rel (w := w) (O := O) (ρ := ρ) (B := B) (L := L) (val := val) (g := g) ha (fun x y hx => hg x y (by simp [Op.operands, Call.operands]; simpa using hx))
      simp only [evQ] at h
      split at h
      · rename_i k n r hr
        obtain ⟨y, hy, rfl⟩ := Option.map_eq_some_iff.1 h
        cases hvs : args.toList.map val with
        | nil => rw [hvs, hr] at a1; simp at a1
        | cons v vs =>
          rw [hvs, hr] at a1 a2
          have h0 := Rd.inv_int (a2 0 _ _ rfl rfl)
          subst h0
          obtain ⟨u, hu1, hu2⟩ := minOne_run (P := P) (w := w) (O := O) (ρ := ρ) (B := B) (L := L) (f := Builtin.max2) (lt := fun b a => b > a) (fun k a b => by simp [Builtin.max2]) r vs k n y (by simpa using a1) (fun j v s hv hs => a2 (j + 1) v s (by simpa using hv) (by simpa using hs)) hy
          refine ⟨u, w, ?_, Chg.refl _ _, hu2⟩
          have e : (args.map val).toList = .int k n :: vs := by rw [← hvs]; simp
          simp only [execOp, resolve, invoke, builtin, Sem.run_bind, Sem.run_pure, Result.andThen_ok, Builtin.max_, e, hu1]
      · cases h
    · -- min
      obtain ⟨as, ha, rfl⟩ := Option.map_eq_some_iff.1 htr
      obtain ⟨a1, a2⟩ := opds_rel (w := w) (O := O) (ρ := ρ) (B := B) (L := L) (val := val) (g := g) ha (fun x y hx => hg x y (by simp [Op.operands, Call.operands]; simpa using hx))
      simp only [evQ] at h
      split at h
      · rename_i k n r hr
        obtain ⟨y, hy, rfl⟩ := Option.map_eq_some_iff.1 h
        cases hvs : args.toList.map val with
        | nil => rw [hvs, hr] at a1; simp at a1
        | cons v vs =>
          rw [hvs, hr] at a1 a2
          have h0 := Rd.inv_int (a2 0 _ _ rfl rfl)
          subst h0
          obtain ⟨u, hu1, hu2⟩ := minOne_run (P := P) (w := w) (O := O) (ρ := ρ) (B := B) (L := L) (f := Builtin.min2) (lt := fun b a => b < a) (fun k a b => by simp [Builtin.min2]) r vs k n y (by simpa using a1) (fun j v s hv hs => a2 (j + 1) v s (by simpa using hv) (by simpa using hs)) hy
          refine ⟨u, w, ?_, Chg.refl _ _, hu2⟩
          have e : (args.map val).toList = .int k n :: vs := by rw [← hvs]; simp
          simp only [execOp, resolve, invoke, builtin, Sem.run_bind, Sem.run_pure, Result.andThen_ok, Builtin.min_, e, hu1]
      · cases h
    · -- a call
      simp only [Option.bind_eq_some_iff, Option.map_eq_some_iff] at htr
      obtain ⟨f, _, as, _, rfl⟩ := htr
      exact absurd rfl (hnc _ _)
    · cases htr
  all_goals cases htr
end
end Go.Ab
