/- A part of the proof: an evaluator of programs, its soundness, and what it says of the functions in hand. It holds without further conditions. -/
import Derived.Test.YtpfbgpclhkjgaaaGreatAb4
set_option linter.unusedVariables false
set_option linter.unusedSimpArgs false
namespace Go.Ab

section
variable {P : Program} {w : World} {O : Nat → Prop} {ρ : Rho} {B L : List Ent}

theorem evBin_run {op : BinOp} {tk : TK} {t : TypeId} (ht : tkOf P t = some tk) {x y : SV} {v u : Value} {z : FV} (hx : SvRel w (Av O ρ B L) ρ B L v x) (hy : SvRel w (Av O ρ B L) ρ B L u y)
    (h : evBin op tk x y = some z) (x1 x2 : Operand) : ∃ r, (do eqGuard op t x1 x2 v u; binOp op t v u : Sem Value).run P w = .ok r w ∧ Rd w (Av O ρ B L) r z := by
  unfold evBin at h
  split at h
  · cases hx; cases hy
    split at h
    · obtain ⟨r, h1, h2⟩ := evShift_run (P := P) (w := w) (t := t) (.inl rfl) h x1 x2; exact ⟨r, h1, h2 _⟩
    · obtain ⟨r, h1, h2⟩ := evShift_run (P := P) (w := w) (t := t) (.inr rfl) h x1 x2; exact ⟨r, h1, h2 _⟩
    · rename_i n1 n2
      split at h
      · rename_i hk; subst hk
        obtain ⟨r, h1, h2⟩ := evInt_run (P := P) (w := w) (t := t) ⟨fun e => n1 e, fun e => n2 e⟩ h x1 x2
        exact ⟨r, h1, h2 _⟩
      · cases h
  · cases hx; cases hy
    split at h
    · injection h with h; subst h
      have he := tk_bool ht
      refine ⟨_, ?_, .bool _⟩
      simp only [Sem.run_bind, eqGuard_at_bool, Sem.run_pure, Result.andThen_ok, binOp, equal_bool he]
    · injection h with h; subst h
      have he := tk_bool ht
      refine ⟨_, ?_, .bool _⟩
      simp only [Sem.run_bind, eqGuard_at_bool, Sem.run_pure, Result.andThen_ok, binOp, equal_bool he]
      rfl
    · cases h
  · cases hx; cases hy
    split at h
    · injection h with h; subst h
      exact ⟨_, by simp only [Sem.run_bind, eqGuard_at_string, Sem.run_pure, Result.andThen_ok, binOp, Op.stringOp], .bool _⟩
    · injection h with h; subst h
      exact ⟨_, by simp only [Sem.run_bind, eqGuard_at_string, Sem.run_pure, Result.andThen_ok, binOp, Op.stringOp], .bool _⟩
    · injection h with h; subst h
      exact ⟨_, by simp only [Sem.run_bind, eqGuard_at_string, Sem.run_pure, Result.andThen_ok, binOp, Op.stringOp], .bool _⟩
    · injection h with h; subst h
      exact ⟨_, by simp only [Sem.run_bind, eqGuard_at_string, Sem.run_pure, Result.andThen_ok, binOp, Op.stringOp], .bool _⟩
    · injection h with h; subst h
      exact ⟨_, by simp only [Sem.run_bind, eqGuard_at_string, Sem.run_pure, Result.andThen_ok, binOp, Op.stringOp], .bool _⟩
    · injection h with h; subst h
      exact ⟨_, by simp only [Sem.run_bind, eqGuard_at_string, Sem.run_pure, Result.andThen_ok, binOp, Op.stringOp], .bool _⟩
    · split at h
      · injection h with h; subst h
        rename_i hs
        refine ⟨_, ?_, .str _⟩
        simp only [Sem.run_bind, eqGuard_at_string, Sem.run_pure, Result.andThen_ok, binOp, Op.stringOp, IntKind.max_i64, Sem.run_ite]
        rw [if_neg (by omega)]
      · cases h
    · cases h
  · split at h
    · rename_i hn
      split at h
      · obtain ⟨b, hb, rfl⟩ := Option.map_eq_some_iff.1 h
        obtain ⟨h1, h2, h3, h4⟩ := isNil_run ht hx hy hn hb
        exact ⟨.bool b, by rw [h2]; simp [h3, h1], .bool _⟩
      · obtain ⟨b, hb, rfl⟩ := Option.map_eq_some_iff.1 h
        obtain ⟨h1, h2, h3, h4⟩ := isNil_run ht hx hy hn hb
        exact ⟨.bool !b, by rw [h2]; simp [h4, h1], .bool _⟩
      · cases h
    · cases h

theorem evUn_run {op : UnOp} {x : SV} {v : Value} {z : FV} (hx : SvRel w (Av O ρ B L) ρ B L v x) (h : evUn op x = some z) :
    ∃ r, (Op.unary op v).run P w = .ok r w ∧ Rd w (Av O ρ B L) r z := by
  unfold evUn at h
  split at h
  · injection h with h; subst h; cases hx; exact ⟨_, rfl, .int _ _⟩
  · injection h with h; subst h; cases hx; exact ⟨_, rfl, .bool _⟩
  · cases h

theorem minOne_run {lt : Int → Int → Bool} {f : Value → Value → Sem Value} (hf : ∀ k a b, f (.int k a) (.int k b) = pure (.int k (if lt b a then b else a))) :
    ∀ (rs : List SV) (vs : List Value) (k : IntKind) (a : Int) (y : FV), vs.length = rs.length → (∀ (j : Nat) (v : Value) (s : SV), vs[j]? = some v → rs[j]? = some s → SvRel w (Av O ρ B L) ρ B L v s) →
      minOne lt (.int k a) rs = some y → ∃ r, (vs.foldlM f (.int k a)).run P w = .ok r w ∧ Rd w (Av O ρ B L) r y
  | [], vs, k, a, y, hl, hr, h => by
    have : vs = [] := List.eq_nil_of_length_eq_zero (by simpa using hl)
    subst this
    simp only [minOne, Option.some.injEq] at h
    subst h
    exact ⟨_, rfl, .int _ _⟩
  | s :: rs, [], k, a, y, hl, hr, h => by simp at hl
  | s :: rs, v :: vs, k, a, y, hl, hr, h => by
    unfold minOne at h
    split at h
    · rename_i heq; cases heq
    · rename_i k1 a1 k2 b r heq1 heq2
      injection heq1 with e1 e2; subst e1; subst e2
      injection heq2 with e3 e4; subst e3; subst e4
      split at h
      · rename_i hk; subst hk
        have h0 := hr 0 v _ rfl rfl
        cases h0
        obtain ⟨r', h1, h2⟩ := minOne_run hf rs vs k _ y (by simpa using hl) (fun j v s hv hs => hr (j + 1) v s (by simpa using hv) (by simpa using hs)) h
        exact ⟨r', by simp only [List.foldlM_cons, hf, Sem.run_bind, Sem.run_pure, Result.andThen_ok, h1], h2⟩
      · cases h
    · cases h

/-! ### Cuts -/
def OptRel (w : World) (O : Nat → Prop) (ρ : Rho) (B L : List Ent) : Option Value → Option SV → Prop
  | none, none => True
  | some v, some s => SvRel w (Av O ρ B L) ρ B L v s
  | _, _ => False

theorem bnd_run {n d m : Nat} {s : Option SV} {v : Option Value} {l : Nat} {code : BoundsCode} (hr : OptRel w O ρ B L v s) (h : bnd n d s = some l) (hm : n ≤ m) (hd : d ≤ n) :
    (match v with | some v => Instr.sliceBound v m code | none => pure d : Sem Nat).run P w = .ok l w ∧ l ≤ n := by
  unfold bnd at h
  split at h
  · cases v with
    | none => injection h with h; subst h; exact ⟨rfl, hd⟩
    | some v => cases hr
  · rename_i k i
    cases v with
    | none => cases hr
    | some v =>
      cases hr
      split at h
      · rename_i hi
        injection h with h; subst h
        refine ⟨?_, by omega⟩
        simp only [Instr.sliceBound, asIntOf, Sem.run_bind, Sem.run_pure, Result.andThen_ok]
        rw [if_pos ⟨hi.1, by omega⟩]
        rfl
      · cases h
  · cases h

theorem bnds_run {n cap : Nat} (hc : n ≤ cap) {lo hi mx : Option SV} {vl vh vm : Option Value} (hl : OptRel w O ρ B L vl lo) (hh : OptRel w O ρ B L vh hi) (hm : OptRel w O ρ B L vm mx)
    {l h : Nat} {m : Option Nat} (hb : bnds n lo hi mx = some (l, h, m)) :
    (Instr.sliceBounds true n cap vl vh vm).run P w = .ok (l, h, m.getD cap) w ∧ l ≤ h ∧ h ≤ n ∧ (∀ k, m = some k → h ≤ k ∧ k ≤ n) := by
  unfold bnds at hb
  cases mx with
  | none =>
    cases vm with
    | some _ => cases hm
    | none =>
      simp only [Option.bind_eq_some_iff, Option.map_eq_some_iff, Prod.mk.injEq] at hb
      obtain ⟨h', h1, l', h2, rfl, rfl, rfl⟩ := hb
      obtain ⟨hh1, hh2⟩ := bnd_run (P := P) (m := cap) (code := .sliceAcap) hh h1 hc (Nat.le_refl _)
      obtain ⟨hl1, hl2⟩ := bnd_run (P := P) (m := h') (code := .sliceB) hl h2 (Nat.le_refl _) (Nat.zero_le _)
      refine ⟨?_, hl2, hh2, fun k hk => by cases hk⟩
      cases vh <;> cases vl <;>
        (simp only [Sem.run_pure] at hh1 hl1
         simp only [Instr.sliceBounds, Sem.run_bind, Sem.run_pure, Result.andThen_ok, Option.isSome_none, Bool.false_eq_true, if_false, if_true, hl1, hh1]
         first | rfl | (injection hh1 with hh1; subst hh1; first | (simp only [hl1]; rfl) | (injection hl1 with hl1; subst hl1; rfl)) | (injection hl1 with hl1; subst hl1; rfl))
  | some sm =>
    cases vm with
    | none => cases hm
    | some v =>
      simp only at hb
      cases hi with
      | none => simp at hb
      | some s =>
        cases vh with
        | none => cases hh
        | some u =>
          simp only [Option.isNone_some, Bool.false_eq_true, if_false, Option.bind_eq_some_iff, Option.map_eq_some_iff, Prod.mk.injEq] at hb
          obtain ⟨m', h0, h', h1, l', h2, rfl, rfl, rfl⟩ := hb
          obtain ⟨hm1, hm2⟩ := bnd_run (P := P) (m := cap) (v := some v) (code := .slice3Acap) hm h0 hc (Nat.le_refl _)
          obtain ⟨hh1, hh2⟩ := bnd_run (P := P) (m := m') (v := some u) (code := .slice3B) hh h1 (Nat.le_refl _) (Nat.le_refl _)
          obtain ⟨hl1, hl2⟩ := bnd_run (P := P) (m := h') (code := .slice3C) hl h2 (Nat.le_refl _) (Nat.zero_le _)
          refine ⟨?_, hl2, by omega, fun k hk => by injection hk with hk; omega⟩
          simp only at hm1 hh1
          cases vl <;>
            (simp only [Sem.run_pure] at hl1
             simp only [Instr.sliceBounds, Sem.run_bind, Sem.run_pure, Result.andThen_ok, Option.isSome_some, if_true, hm1, hh1, hl1]
             first | rfl | (injection hl1 with hl1; subst hl1; rfl))

theorem slice_run_fv {t e : TypeId} {sz n cap l h : Nat} {m : Option Nat} {a : Option Addr} {vx : Value} {vl vh vm : Option Value} (ht : P.underlying t = some (.slice e)) (hs : szOf P e = some sz)
    (hx : vx = .slice a n cap) (hb : (Instr.sliceBounds true n cap vl vh vm).run P w = .ok (l, h, m.getD cap) w) :
    (Instr.sliceAt t vx vl vh vm).run P w = .ok (.slice (if m.getD cap = l then a else a.map (·.add (l * sz))) (h - l) (m.getD cap - l)) w := by
  subst hx
  simp only [Instr.sliceAt, Sem.run_bind, run_underlying ht, Result.andThen_ok, Instr.slice, hb, run_sizeOf hs, Sem.run_pure]

theorem rd_sl_parts {A : Nat → Prop} {v : Value} {t : Tag} {xs : List FV} (h : Rd w A v (.sl t xs)) : ∃ a cap, v = .slice a xs.length cap ∧ xs.length ≤ cap ∧
    (xs ≠ [] → ∃ sz b o, 0 < sz ∧ a = some ⟨b, o, none⟩ ∧ (∀ x ∈ xs, x.cells.length = sz ∧ ∀ y ∈ x.cells, y.one = true) ∧ ¬ A b ∧
      ∀ j x, (flat xs)[j]? = some x → ∃ u, w.cell? ⟨b, o + j, none⟩ = some u ∧ Rd w A u x) := by
  cases h with
  | slE t a c ht => exact ⟨a, c, rfl, Nat.zero_le _, fun h => absurd rfl h⟩
  | sl t xs sz b o c f hz hx hk hw ho hf hr ht =>
    refine ⟨_, c, rfl, hk, fun _ => ⟨sz, b, o, hz, rfl, hw, ho, fun j x hx => ⟨f j, hf j (List.getElem?_eq_some_iff.1 hx).1, hr j x hx⟩⟩⟩

/-- A cut of memory, from o on, reads as a slice. -/
theorem rd_cut' {A : Nat → Prop} {b o sz off len cap : Nat} {xs : List FV} {t : Tag} (hz : 0 < sz) (hw : ∀ x ∈ xs, x.cells.length = sz ∧ ∀ y ∈ x.cells, y.one = true) (hb : ¬ A b)
    (hc : ∀ j x, (flat xs)[j]? = some x → ∃ v, w.cell? ⟨b, o + j, none⟩ = some v ∧ Rd w A v x) (hl : off + len ≤ xs.length) (hcap : len ≤ cap)
    {ad : Option Addr} (had : 0 < len → ad = some ⟨b, o + off * sz, none⟩) (ht : TagOK t ad len cap) :
    Rd w A (.slice ad len cap) (.sl t (cutL xs off len)) := by
  rcases Nat.eq_zero_or_pos len with h0 | h0
  · subst h0
    have : cutL xs off 0 = [] := by simp [cutL]
    rw [this]
    exact .slE _ _ _ ht
  · have := had h0
    subst this
    have hlen := cutL_length hl
    have hw1 : ∀ x ∈ xs, x.cells.length = sz := fun x hx => (hw x hx).1
    have hfl : (flat (cutL xs off len)).length = len * sz := by rw [flat_length _ (fun x hx => hw1 x (mem_cutL hx)), hlen]
    have key : ∀ j, j < len * sz → ∃ v x, (flat (cutL xs off len))[j]? = some x ∧ w.cell? ⟨b, o + off * sz + j, none⟩ = some v ∧ Rd w A v x := by
      intro j hj
      have hx : (flat (cutL xs off len))[j]? = some ((flat (cutL xs off len))[j]'(by omega)) := List.getElem?_eq_getElem _
      have hx2 := hx
      rw [flat_cutL xs off len hw1 hl j hj] at hx2
      obtain ⟨v, hv, hr⟩ := hc _ _ hx2
      exact ⟨v, _, hx, by rw [Nat.add_assoc]; exact hv, hr⟩
    have := Rd.sl (w := w) (O := A) t (cutL xs off len) sz b (o + off * sz) cap (fun j => (w.cell? ⟨b, o + off * sz + j, none⟩).getD undef) hz
      (fun e => by rw [e] at hlen; simp at hlen; omega) (by rw [hlen]; exact hcap) (fun x hx => hw x (mem_cutL hx)) hb
      (fun j hj => by
        obtain ⟨v, x, _, h2, _⟩ := key j (by omega)
        rw [h2]; rfl)
      (fun j x hx => by
        have hj : j < len * sz := by have := (List.getElem?_eq_some_iff.1 hx).1; omega
        obtain ⟨v, x', h1, h2, h3⟩ := key j hj
        rw [hx] at h1; injection h1 with h1; subst h1
        rw [h2]; exact h3) (by rw [hlen]; exact ht)
    rw [hlen] at this
    exact this

/-- A cut of a frozen slice. -/
theorem slice_fv {t e : TypeId} {sz l h : Nat} {tg : Tag} {xs : List FV} {m : Option Nat} {v : Value} {vl vh vm : Option Value} {lo hi mx : Option SV} (ht : P.underlying t = some (.slice e)) (hs : szOf P e = some sz)
    (hsz' : wid sz xs = true) (hx : Rd w (Av O ρ B L) v (.sl tg xs)) (hl : OptRel w O ρ B L vl lo) (hh : OptRel w O ρ B L vh hi) (hm : OptRel w O ρ B L vm mx)
    (hb : bnds xs.length lo hi mx = some (l, h, m)) :
    ∃ r, (Instr.sliceAt t v vl vh vm).run P w = .ok r w ∧ Rd w (Av O ρ B L) r (.sl (if m = some h then .full else .any) (cutL xs l (h - l))) := by
  have hsz : ∀ x ∈ xs, x.cells.length = sz := by simpa [wid] using hsz'
  clear hsz'
  obtain ⟨a, cap, rfl, hcap, hne⟩ := rd_sl_parts hx
  obtain ⟨hr, h1, h2, h3⟩ := bnds_run (P := P) hcap hl hh hm hb
  refine ⟨_, slice_run_fv ht hs rfl hr, ?_⟩
  have hmc : h ≤ m.getD cap := by
    cases m with
    | none => exact Nat.le_trans h2 hcap
    | some k => exact (h3 k rfl).1
  by_cases hx0 : xs = []
  · subst hx0
    have : l = 0 ∧ h = 0 := by simp at h2; omega
    obtain ⟨rfl, rfl⟩ := this
    have : cutL ([] : List FV) 0 (0 - 0) = [] := by simp [cutL]
    rw [this]
    refine .slE _ _ _ ?_
    split
    · rename_i hmm; subst hmm; rfl
    · trivial
  · obtain ⟨sz', b, o, hz, rfl, hw, hb', hc⟩ := hne hx0
    have hsz' : sz' = sz := by
      obtain ⟨x, hx⟩ := List.exists_mem_of_ne_nil _ hx0
      rw [← (hw x hx).1, hsz x hx]
    subst hsz'
    refine rd_cut' hz hw hb' hc (by omega) (by omega) (fun hpos => ?_) ?_
    · rw [if_neg (by omega)]
      simp [add_plain]
    · split
      · rename_i hmm; subst hmm; simp [TagOK]
      · trivial

/-- A cut of an own slice. -/
theorem slice_ref {t e : TypeId} {id : Id} {sz off n l h : Nat} {ap : Bool} {m : Option Nat} {v : Value} {vl vh vm : Option Value} {lo hi mx : Option SV} (ht : P.underlying t = some (.slice e)) (hs : szOf P e = some sz)
    (hx : SvRel w (Av O ρ B L) ρ B L v (.ref id sz off n ap)) (hl : OptRel w O ρ B L vl lo) (hh : OptRel w O ρ B L vh hi) (hm : OptRel w O ρ B L vm mx)
    (hb : bnds n lo hi mx = some (l, h, m)) :
    ∃ r, (Instr.sliceAt t v vl vh vm).run P w = .ok r w ∧ SvRel w (Av O ρ B L) ρ B L r (if l = h ∧ l ≠ 0 then .fv (.sl .any []) else .ref id sz (off + l) (h - l) (ap && l == 0 && m.isNone)) := by
  obtain ⟨hv, cap, rfl, hcap, hap⟩ := hx
  obtain ⟨hr, h1, h2, h3⟩ := bnds_run (P := P) hcap hl hh hm hb
  refine ⟨_, slice_run_fv ht hs rfl hr, ?_⟩
  have hmc : h ≤ m.getD cap := by
    cases m with
    | none => exact Nat.le_trans h2 hcap
    | some k => exact (h3 k rfl).1
  by_cases hlh : l = h ∧ l ≠ 0
  · rw [if_pos hlh]
    obtain ⟨rfl, _⟩ := hlh
    rw [Nat.sub_self]
    exact Rd.slE _ _ _ trivial
  · rw [if_neg hlh]
    refine ⟨hv, m.getD cap - l, ?_, by omega, fun hap' => ?_⟩
    · congr 1
      by_cases hl0 : l = 0
      · subst hl0; simp [add_plain]
      · rw [if_neg (by omega)]
        simp [add_plain, Nat.add_mul]
    · simp only [Bool.and_eq_true, beq_iff_eq] at hap'
      obtain ⟨⟨ha, rfl⟩, hm0⟩ := hap'
      obtain ⟨h4, h5⟩ := hap ha
      cases m with
      | some _ => simp at hm0
      | none => exact ⟨by omega, by simpa using h5⟩
end
end Go.Ab
