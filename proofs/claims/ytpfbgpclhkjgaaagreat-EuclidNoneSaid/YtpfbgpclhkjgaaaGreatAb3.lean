/- A part of the proof: an evaluator of programs, its soundness, and what it says of the functions in hand. It holds without further conditions. -/
import Derived.Test.YtpfbgpclhkjgaaaGreatAb2
set_option linter.unusedVariables false
set_option linter.unusedSimpArgs false
namespace Go.Ab

/-! ### Small laws -/
theorem At_toArray (l : List Value) (j : Nat) : At l.toArray j = l[j]? := by simp [At]
theorem At_lt {vs : Array Value} {j : Nat} {v : Value} (h : At vs j = some v) : j < vs.size := (Array.getElem?_eq_some_iff.1 h).1

theorem add_plain (b o j : Nat) : (⟨b, o, none⟩ : Addr).add j = ⟨b, o + j, none⟩ := by unfold Addr.add; split <;> simp_all

theorem fvAtom_rd {v : Value} {x : FV} (h : fvAtom v = some x) (w : World) (O : Nat → Prop) : Rd w O v x ∧ x.one = true := by
  unfold fvAtom at h
  split at h <;> simp at h <;> subst h
  · exact ⟨.bool _, rfl⟩
  · exact ⟨.int _ _, rfl⟩
  · exact ⟨.str _, rfl⟩
  · exact ⟨.slE _ _ _ ⟨rfl, rfl, rfl⟩, rfl⟩
  · exact ⟨.nilPtr, rfl⟩
  · exact ⟨.nilFn, rfl⟩
  · exact ⟨.nilIface, rfl⟩

theorem fvAtoms_rd : ∀ (l : List Value) (xs : List FV), fvAtoms l = some xs → l.length = xs.length ∧ (∀ x ∈ xs, x.one = true) ∧ ∀ (w : World) (O : Nat → Prop) (j : Nat) (v : Value) (x : FV), l[j]? = some v → xs[j]? = some x → Rd w O v x
  | [], xs, h => by simp [fvAtoms] at h; subst h; simp
  | v :: r, xs, h => by
    simp only [fvAtoms, Option.bind_eq_some_iff, Option.map_eq_some_iff] at h
    obtain ⟨x, hx, ys, hy, rfl⟩ := h
    obtain ⟨h1, h2, h3⟩ := fvAtoms_rd r ys hy
    refine ⟨by simp [h1], fun z hz => ?_, fun w O j u z hu hz => ?_⟩
    · rcases List.mem_cons.1 hz with rfl | hz
      · exact (fvAtom_rd hx default (fun _ => False)).2
      · exact h2 z hz
    · match j with
      | 0 => simp at hu hz; subst hu; subst hz; exact (fvAtom_rd hx w O).1
      | j + 1 => exact h3 w O j u z (by simpa using hu) (by simpa using hz)

theorem fvOf_rd {v : Value} {x : FV} (h : fvOf v = some x) (w : World) (O : Nat → Prop) : Rd w O v x ∧ (x.one = true ∨ ∃ cs, x = .agg cs) := by
  unfold fvOf at h
  split at h
  · rename_i cs
    simp only [Option.map_eq_some_iff] at h
    obtain ⟨xs, hx, rfl⟩ := h
    obtain ⟨h1, h2, h3⟩ := fvAtoms_rd _ _ hx
    refine ⟨.agg _ _ (by simpa using h1) h2 fun j v x hv hx => h3 w O j v x ?_ hx, .inr ⟨_, rfl⟩⟩
    simpa [At] using hv
  · exact ⟨(fvAtom_rd h w O).1, .inl (fvAtom_rd h w O).2⟩

theorem okPart_of {x : FV} (h : okPart x = true) : x.one = true ∨ ∃ cs, x = .agg cs := by
  cases x <;> first | exact .inl rfl | exact .inr ⟨_, rfl⟩ | (simp [okPart] at h)

section
variable {P : Program} {w : World} {A : Nat → Prop}

theorem run_isAgg {t : TypeId} {ag : Bool} (h : agOf P t = some ag) (w : World) : (isAgg t).run P w = .ok ag w := by
  unfold agOf at h
  obtain ⟨d, hd, rfl⟩ := Option.map_eq_some_iff.1 h
  simp only [isAgg, Sem.run_bind, run_underlying hd, Result.andThen_ok]
  cases d <;> rfl

theorem run_sizeOf {t : TypeId} {n : Nat} (h : szOf P t = some n) (w : World) : (sizeOf t).run P w = .ok n w := by
  obtain ⟨i, hi, rfl⟩ := Option.map_eq_some_iff.1 h
  simp [sizeOf, typeInfo, hi]

theorem run_loadVar {t : TypeId} {ag : Bool} {n b o : Nat} (h1 : agOf P t = some ag) (h2 : szOf P t = some n) (f : Nat → Value)
    (hf : ∀ j, j < (if ag then n else 1) → w.cell? ⟨b, o + j, none⟩ = some (f j)) :
    (loadVar t ⟨b, o, none⟩).run P w = .ok (if ag then .agg ((List.range n).map f).toArray else f 0) w := by
  unfold loadVar
  simp only [Sem.run_bind, run_isAgg h1, Result.andThen_ok]
  cases ag with
  | true =>
    simp only [if_true, Sem.run_bind, run_sizeOf h2, Result.andThen_ok]
    rw [run_loadCells w ⟨b, o, none⟩ n f (fun j hj => by rw [add_plain]; exact hf j (by simpa using hj))]
    rfl
  | false =>
    have h0 := hf 0 (by simp)
    simp only [Nat.add_zero] at h0
    simp [h0]

/-- The cells f hold x; a part of it is read. -/
theorem ldElem_rd {ag : Bool} {sz c : Nat} {x y : FV} {f : Nat → Value} (h1 : ∀ z ∈ x.cells, z.one = true) (hr : ∀ j z, x.cells[j]? = some z → Rd w A (f j) z) (h : ldElem ag sz c x = some y) :
    c + (if ag then sz else 1) ≤ x.cells.length ∧ Rd w A (if ag then .agg ((List.range sz).map fun j => f (c + j)).toArray else f c) y := by
  unfold ldElem at h
  split at h
  · rename_i hc
    obtain ⟨rfl, hfit⟩ := hc
    injection h with h; subst h
    cases ag with
    | true =>
      cases x <;> simp [FV.fits] at hfit
      rename_i cs
      subst hfit
      simp only [FV.cells] at h1 hr ⊢
      refine ⟨by simp, ?_⟩
      simp only [if_true, Nat.zero_add]
      refine .agg _ _ (by simp) h1 fun j v z hv hz => ?_
      have hj : j < cs.length := (List.getElem?_eq_some_iff.1 hz).1
      simp [At, hj] at hv
      subst hv
      exact hr j z hz
    | false =>
      simp only [FV.fits, Bool.and_eq_true, beq_iff_eq] at hfit
      obtain ⟨ho, rfl⟩ := hfit
      have hc : x.cells = [x] := by cases x <;> first | rfl | (simp [FV.one] at ho)
      refine ⟨by simp [hc], ?_⟩
      simp only [Bool.false_eq_true, if_false]
      exact hr 0 x (by simp [hc])
  · split at h
    · rename_i hag
      split at h
      · rename_i hl
        injection h with h; subst h
        refine ⟨by simpa [hag] using hl.1, ?_⟩
        simp only [hag, if_true]
        refine .agg _ _ ?_ (fun z hz => ?_) fun j v z hv hz => ?_
        · simp [cutL]; omega
        · exact h1 z (List.mem_of_mem_drop (List.mem_of_mem_take hz))
        · have hj : j < sz := by have := (List.getElem?_eq_some_iff.1 hz).1; simp [cutL] at this; omega
          simp [At, hj] at hv
          subst hv
          refine hr _ z ?_
          simpa [cutL, hj] using hz
      · cases h
    · rename_i hag
      split at h
      · have := (List.getElem?_eq_some_iff.1 h).1
        refine ⟨by simp [hag]; omega, ?_⟩
        simp only [hag, Bool.false_eq_true, if_false]
        exact hr _ _ h
      · cases h

theorem getElem?_flat {sz : Nat} : ∀ (xs : List FV) (i : Nat) (x : FV), (∀ x ∈ xs, x.cells.length = sz) → xs[i]? = some x → ∀ c, c < sz → (flat xs)[i * sz + c]? = x.cells[c]?
  | [], i, x, _, h, _, _ => by simp at h
  | y :: ys, 0, x, hw, h, c, hc => by
    simp at h; subst h
    have := hw y (by simp)
    simp only [flat, List.flatMap_cons, Nat.zero_mul, Nat.zero_add]
    rw [List.getElem?_append_left (by omega)]
  | y :: ys, i + 1, x, hw, h, c, hc => by
    have ih := getElem?_flat ys i x (fun z hz => hw z (by simp [hz])) (by simpa using h) c hc
    have := hw y (by simp)
    simp only [flat, List.flatMap_cons] at ih ⊢
    rw [List.getElem?_append_right (by rw [this, Nat.add_mul]; omega), this, Nat.add_mul]
    rw [show i * sz + 1 * sz + c - sz = i * sz + c from by omega]
    exact ih

theorem flat_cutL {sz : Nat} : ∀ (xs : List FV) (off len : Nat), (∀ x ∈ xs, x.cells.length = sz) → off + len ≤ xs.length → ∀ j, j < len * sz → (flat (cutL xs off len))[j]? = (flat xs)[off * sz + j]? := by
  intro xs off len hw hl j hj
  have hsz : 0 < sz := Nat.pos_of_ne_zero fun h => by subst h; simp at hj
  have hw' : ∀ x ∈ cutL xs off len, x.cells.length = sz := fun x hx => hw x (List.mem_of_mem_drop (List.mem_of_mem_take hx))
  have hi : j / sz < len := Nat.div_lt_of_lt_mul (by rw [Nat.mul_comm]; exact hj)
  have hc : j % sz < sz := Nat.mod_lt _ hsz
  have hx : (cutL xs off len)[j / sz]? = some (xs[off + j / sz]'(by omega)) := by
    simp [cutL, hi]
  have e : j = j / sz * sz + j % sz := by rw [Nat.mul_comm]; exact (Nat.div_add_mod j sz).symm
  rw [e, getElem?_flat _ _ _ hw' hx _ hc, show off * sz + (j / sz * sz + j % sz) = (off + j / sz) * sz + j % sz from by rw [Nat.add_mul]; omega,
    getElem?_flat xs (off + j / sz) _ hw (by rw [List.getElem?_eq_getElem (by omega)]) _ hc]

theorem cutL_length {xs : List FV} {off len : Nat} (h : off + len ≤ xs.length) : (cutL xs off len).length = len := by simp [cutL]; omega
theorem mem_cutL {xs : List FV} {off len : Nat} {x : FV} (h : x ∈ cutL xs off len) : x ∈ xs := List.mem_of_mem_drop (List.mem_of_mem_take h)

/-- A cut of frozen memory reads as a slice. -/
theorem rd_cut {b sz off len cap : Nat} {xs : List FV} (hz : 0 < sz) (hw : ∀ x ∈ xs, x.cells.length = sz ∧ ∀ y ∈ x.cells, y.one = true) (hb : ¬ A b)
    (hc : ∀ j x, (flat xs)[j]? = some x → ∃ v, w.cell? ⟨b, j, none⟩ = some v ∧ Rd w A v x) (hl : off + len ≤ xs.length) (hcap : len ≤ cap) :
    Rd w A (.slice (some ⟨b, off * sz, none⟩) len cap) (.sl .any (cutL xs off len)) := by
  rcases Nat.eq_zero_or_pos len with h0 | h0
  · subst h0
    have : cutL xs off 0 = [] := by simp [cutL]
    rw [this]
    exact .slE _ _ _ trivial
  · have hlen := cutL_length hl
    have hw1 : ∀ x ∈ xs, x.cells.length = sz := fun x hx => (hw x hx).1
    have hfl : (flat (cutL xs off len)).length = len * sz := by rw [flat_length _ (fun x hx => hw1 x (mem_cutL hx)), hlen]
    have key : ∀ j, j < len * sz → ∃ v x, (flat (cutL xs off len))[j]? = some x ∧ w.cell? ⟨b, off * sz + j, none⟩ = some v ∧ Rd w A v x := by
      intro j hj
      have hx : (flat (cutL xs off len))[j]? = some ((flat (cutL xs off len))[j]'(by omega)) := List.getElem?_eq_getElem _
      have hx2 := hx
      rw [flat_cutL xs off len hw1 hl j hj] at hx2
      obtain ⟨v, hv, hr⟩ := hc _ _ hx2
      exact ⟨v, _, hx, hv, hr⟩
    have hcell : ∀ j, j < len * sz → w.cell? ⟨b, off * sz + j, none⟩ = some ((w.cell? ⟨b, off * sz + j, none⟩).getD undef) := by
      intro j hj
      obtain ⟨v, x, _, h2, _⟩ := key j hj
      rw [h2]; rfl
    have := Rd.sl (w := w) (O := A) .any (cutL xs off len) sz b (off * sz) cap (fun j => (w.cell? ⟨b, off * sz + j, none⟩).getD undef) hz
      (fun e => by rw [e] at hlen; simp at hlen; omega) (by rw [hlen]; exact hcap) (fun x hx => hw x (mem_cutL hx)) hb (fun j hj => hcell j (by omega))
      (fun j x hx => by
        have hj : j < len * sz := by have := (List.getElem?_eq_some_iff.1 hx).1; omega
        obtain ⟨v, x', h1, h2, h3⟩ := key j hj
        rw [hx] at h1; injection h1 with h1; subst h1
        rw [h2]; exact h3) trivial
    rw [hlen] at this
    exact this

/-- An element of frozen memory reads behind a pointer. -/
theorem rd_elem {b sz i : Nat} {xs : List FV} {x : FV} (hz : 0 < sz) (hw : ∀ x ∈ xs, x.cells.length = sz ∧ ∀ y ∈ x.cells, y.one = true) (hb : ¬ A b)
    (hc : ∀ j x, (flat xs)[j]? = some x → ∃ v, w.cell? ⟨b, j, none⟩ = some v ∧ Rd w A v x) (hx : xs[i]? = some x) : Rd w A (.pointer (some ⟨b, i * sz, none⟩)) (.ptr x) := by
  have hm : x ∈ xs := List.mem_of_getElem? hx
  have hw1 : ∀ x ∈ xs, x.cells.length = sz := fun x hx => (hw x hx).1
  have hl := (hw x hm).1
  refine Rd.ptr x b (i * sz) (fun j => (w.cell? ⟨b, i * sz + j, none⟩).getD undef) (by omega) (hw x hm).2 hb (fun j hj => ?_) fun j y hy => ?_
  · have hf := getElem?_flat xs i x hw1 hx j (by omega)
    rw [List.getElem?_eq_getElem hj] at hf
    obtain ⟨v, hv, _⟩ := hc _ _ hf
    rw [hv]; rfl
  · have hj : j < x.cells.length := (List.getElem?_eq_some_iff.1 hy).1
    have hf := getElem?_flat xs i x hw1 hx j (by omega)
    rw [hy] at hf
    obtain ⟨v, hv, hr⟩ := hc _ _ hf
    rw [hv]; exact hr
end

section
variable {P : Program} {w : World} {O : Nat → Prop} {ρ : Rho} {B L : List Ent}

theorem capFV_rd (hh : Heap w O ρ B L) {c : Cap} {v : Value} {x : FV} (h : capFV B L c = some x) (hr : CapRel w (Av O ρ B L) ρ B L v c) : Rd w (Av O ρ B L) v x := by
  cases c with
  | fz y => simp only [capFV, Option.some.injEq] at h; subst h; exact hr
  | own id sz =>
    simp only [capFV] at h
    split at h
    · rename_i sz' y he
      split at h
      · rename_i hs
        injection h with h; subst h; subst hs
        obtain ⟨h1, h2, h3, h4, h5⟩ := hh.frz _ _ _ he
        obtain ⟨_, rfl⟩ := hr
        have := rd_elem (i := 0) h1 h2 h3 h5 (x := y) rfl
        simpa using this
      · cases h
    · cases h

theorem capsFV_rd (hh : Heap w O ρ B L) : ∀ (cs : List Cap) (xs : List FV), capsFV B L cs = some xs → cs.length = xs.length ∧ ∀ (vs : Array Value) (off : Nat),
    (∀ j u c, At vs (off + j) = some u → cs[j]? = some c → CapRel w (Av O ρ B L) ρ B L u c) → ∀ j u x, At vs (off + j) = some u → xs[j]? = some x → Rd w (Av O ρ B L) u x
  | [], xs, h => by simp [capsFV] at h; subst h; simp
  | c :: cs, xs, h => by
    simp only [capsFV, Option.bind_eq_some_iff, Option.map_eq_some_iff] at h
    obtain ⟨x, hx, ys, hy, rfl⟩ := h
    obtain ⟨h1, h2⟩ := capsFV_rd hh cs ys hy
    refine ⟨by simp [h1], fun vs off hv j u z hu hz => ?_⟩
    match j with
    | 0 => simp at hz; subst hz; exact capFV_rd hh hx (hv 0 u c hu rfl)
    | j + 1 =>
      refine h2 vs (off + 1) (fun j u c hu hc => hv (j + 1) u c ?_ (by simpa using hc)) j u z ?_ (by simpa using hz)
      · rw [show off + (j + 1) = off + 1 + j from by omega]; exact hu
      · rw [show off + 1 + j = off + (j + 1) from by omega]; exact hu

theorem fn_split {A : Nat → Prop} {g : Fn} {fs cs : Array Value} {xs : List FV} {n : Nat} (h1 : fs.size = n) (h2 : (fs ++ cs).size = xs.length) (h : ∀ j u x, At (fs ++ cs) j = some u → xs[j]? = some x → Rd w A u x) : Rd w A (.func g fs cs) (.fn g (xs.take n) (xs.drop n)) := by
  rw [Array.size_append] at h2
  refine .fn _ _ _ _ _ (by simp; omega) (by simp; omega) (fun j u x hu hx => ?_) fun j u x hu hx => ?_
  · have hj := At_lt hu
    rw [List.getElem?_take, if_pos (by omega)] at hx
    refine h j u x ?_ hx
    simp only [At] at hu ⊢
    rw [Array.getElem?_append_left hj]; exact hu
  · rw [List.getElem?_drop] at hx
    refine h (n + j) u x ?_ hx
    simp only [At] at hu ⊢
    rw [Array.getElem?_append_right (by omega), show n + j - fs.size = j by omega]; exact hu

theorem toFV_rd (hh : Heap w O ρ B L) {s : SV} {v : Value} {x : FV} (h : toFV B L s = some x) (hr : SvRel w (Av O ρ B L) ρ B L v s) : Rd w (Av O ρ B L) v x := by
  cases s with
  | unk => simp [toFV] at h
  | fv y => simp only [toFV, Option.some.injEq] at h; subst h; exact hr
  | ref id sz off len ap =>
    simp only [toFV] at h
    split at h
    · rename_i sz' xs he
      split at h
      · rename_i hs
        injection h with h; subst h
        obtain ⟨rfl, hl⟩ := hs
        obtain ⟨h1, h2, h3, h4, h5⟩ := hh.frz _ _ _ he
        obtain ⟨_, cap, rfl, hcap, _⟩ := hr
        exact rd_cut h1 h2 h3 h5 hl hcap
      · cases h
    · cases h
  | ptr id sz i c =>
    simp only [toFV] at h
    split at h
    · rename_i sz' xs he
      split at h
      · rename_i hs
        obtain ⟨rfl, rfl⟩ := hs
        obtain ⟨y, hy, rfl⟩ := Option.map_eq_some_iff.1 h
        obtain ⟨h1, h2, h3, h4, h5⟩ := hh.frz _ _ _ he
        obtain ⟨_, rfl⟩ := hr
        exact rd_elem h1 h2 h3 h5 hy
      · cases h
    · cases h
  | clo f nf caps =>
    simp only [toFV, Option.map_eq_some_iff] at h
    obtain ⟨xs, hx, rfl⟩ := h
    obtain ⟨fs, cs, rfl, h1, h2, h4⟩ := hr
    obtain ⟨k1, k2⟩ := capsFV_rd hh _ _ hx
    refine fn_split h1 (h2.trans k1) fun j u x hu hx => ?_
    exact k2 (fs ++ cs) 0 (fun j u c hu hc => h4 j u c (by simpa only [Nat.zero_add] using hu) hc) j u x (by simpa only [Nat.zero_add] using hu) hx
end
end Go.Ab
