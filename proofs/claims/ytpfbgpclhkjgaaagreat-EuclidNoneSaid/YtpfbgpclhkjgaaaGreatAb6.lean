/- A part of the proof: an evaluator of programs, its soundness, and what it says of the functions in hand. It holds without further conditions. -/
import Derived.Test.YtpfbgpclhkjgaaaGreatAb5
set_option linter.unusedVariables false
set_option linter.unusedSimpArgs false
namespace Go.Ab

theorem zipFold (off : Nat) : ∀ (vs : List Value) (k : Nat) (cells : Array Value), off + k + vs.length ≤ cells.size →
    ((vs.zipIdx k).foldl (fun cs (p : Value × Nat) => cs.setIfInBounds (off + p.2) p.1) cells).size = cells.size ∧
    ∀ j, At ((vs.zipIdx k).foldl (fun cs (p : Value × Nat) => cs.setIfInBounds (off + p.2) p.1) cells) j = if off + k ≤ j ∧ j < off + k + vs.length then vs[j - (off + k)]? else At cells j
  | [], k, cells, h => by simp; intro j h1 h2; omega
  | v :: vs, k, cells, h => by
    simp only [List.zipIdx_cons, List.foldl_cons]
    have ih := zipFold off vs (k + 1) (cells.setIfInBounds (off + k) v) (by simp at h ⊢; omega)
    refine ⟨by rw [ih.1]; simp, fun j => ?_⟩
    rw [ih.2]
    simp only [List.length_cons] at h ⊢
    by_cases h1 : j = off + k
    · subst h1
      rw [if_neg (by omega), if_pos (by omega)]
      have hb : off + k < cells.size := by omega
      simp [At, hb]
    · by_cases h2 : off + (k + 1) ≤ j ∧ j < off + (k + 1) + vs.length
      · rw [if_pos h2, if_pos (by omega)]
        rw [show j - (off + k) = j - (off + (k + 1)) + 1 from by omega]
        simp
      · rw [if_neg h2, if_neg (by omega)]
        simp only [At]
        rw [Array.getElem?_setIfInBounds_ne (by omega)]

section
variable {P : Program} {w : World} {A : Nat → Prop}

def CellsRel (w : World) (A : Nat → Prop) (vs : Array Value) (xs : List FV) : Prop :=
  vs.size = xs.length ∧ (∀ x ∈ xs, x.one = true) ∧ ∀ j v x, At vs j = some v → xs[j]? = some x → Rd w A v x

theorem splice_rel {vs us : Array Value} {xs ys : List FV} {off : Nat} (h : CellsRel w A vs xs) (k : CellsRel w A us ys) (hl : off + ys.length ≤ xs.length) :
    CellsRel w A ((us.zipIdx).foldl (fun cs (p : Value × Nat) => cs.setIfInBounds (off + p.2) p.1) vs) (xs.take off ++ ys ++ xs.drop (off + ys.length)) := by
  have hz := zipFold off us.toList 0 vs (by have := k.1; have := h.1; simp; omega)
  have he : (us.zipIdx).foldl (fun cs (p : Value × Nat) => cs.setIfInBounds (off + p.2) p.1) vs = (us.toList.zipIdx 0).foldl (fun cs (p : Value × Nat) => cs.setIfInBounds (off + p.2) p.1) vs := by
    rw [← Array.foldl_toList, Array.toList_zipIdx]
  rw [he]
  have hlen : (xs.take off ++ ys ++ xs.drop (off + ys.length)).length = xs.length := by simp; omega
  refine ⟨by rw [hz.1, hlen, h.1], fun x hx => ?_, fun j v x hv hx => ?_⟩
  · simp only [List.mem_append] at hx
    rcases hx with (hx | hx) | hx
    · exact h.2.1 x (List.mem_of_mem_take hx)
    · exact k.2.1 x hx
    · exact h.2.1 x (List.mem_of_mem_drop hx)
  · rw [hz.2] at hv
    have hus : us.toList.length = ys.length := by rw [Array.length_toList]; exact k.1
    have hj : j < xs.length := by have := (List.getElem?_eq_some_iff.1 hx).1; omega
    simp only [Nat.add_zero, hus] at hv
    by_cases h1 : j < off
    · rw [if_neg (by omega)] at hv
      refine h.2.2 j v x hv ?_
      rw [List.append_assoc, List.getElem?_append_left (by simp; omega)] at hx
      simpa [h1] using hx
    · by_cases h2 : j < off + ys.length
      · rw [if_pos (by omega)] at hv
        refine k.2.2 (j - off) v x (by simpa [At] using hv) ?_
        rw [List.append_assoc, List.getElem?_append_right (by simp; omega)] at hx
        rw [List.getElem?_append_left (by simp; omega)] at hx
        simpa [Nat.min_eq_left (show off ≤ xs.length by omega)] using hx
      · rw [if_neg (by omega)] at hv
        refine h.2.2 j v x hv ?_
        rw [List.getElem?_append_right (by simp; omega)] at hx
        simp at hx
        rw [← hx]
        congr 1
        omega

theorem Rd.cellsRel {v : Value} {x : FV} (h : Rd w A v x) (ht : okPart x = true) : CellsRel w A v.cells x.cells := Rd.cells h (okPart_of ht)

theorem fill_run {place : Nat → Option (Nat × Nat)} : ∀ (ps : List (Nat × Value)) (qs : List (Nat × Nat × FV)) (cells : Array Value) (xs ys : List FV), CellsRel w A cells xs → ps.length = qs.length →
    (∀ (j : Nat) (p : Nat × Value) (q : Nat × Nat × FV), ps[j]? = some p → qs[j]? = some q → place p.1 = some (q.1, q.2.1) ∧ CellsRel w A p.2.cells q.2.2.cells) →
    fillF xs qs = some ys → ∃ cs, Instr.fill place cells ps = some cs ∧ CellsRel w A cs ys
  | [], qs, cells, xs, ys, h, hl, hp, hf => by
    have : qs = [] := List.eq_nil_of_length_eq_zero (by simpa using hl.symm)
    subst this
    simp only [fillF, Option.some.injEq] at hf
    subst hf
    exact ⟨cells, rfl, h⟩
  | p :: ps, [], cells, xs, ys, h, hl, hp, hf => by simp at hl
  | (i, v) :: ps, (off, size, x) :: qs, cells, xs, ys, h, hl, hp, hf => by
    obtain ⟨h1, h2⟩ := hp 0 (i, v) (off, size, x) rfl rfl
    simp only [fillF] at hf
    split at hf
    · rename_i hc
      obtain ⟨rfl, hle, _⟩ := hc
      have hs : v.cells.size = x.cells.length := h2.1
      simp only [Instr.fill, h1]
      have hz : cells.size = xs.length := h.1
      rw [if_neg (by simp [hs, hz]; omega)]
      exact fill_run ps qs _ _ ys (splice_rel h h2 hle) (by simpa using hl) (fun j p q hp' hq' => hp (j + 1) p q (by simpa using hp') (by simpa using hq')) hf
    · cases hf

theorem fillF_okPart : ∀ (qs : List (Nat × Nat × FV)) (xs ys : List FV), fillF xs qs = some ys → ∀ q ∈ qs, okPart q.2.2 = true
  | [], _, _, _, q, hq => by cases hq
  | (off, size, x) :: qs, xs, ys, h, q, hq => by
    simp only [fillF] at h
    split at h
    · rename_i hc
      rcases List.mem_cons.1 hq with rfl | hq
      · exact hc.2.2
      · exact fillF_okPart qs _ ys h q hq
    · cases h

theorem flat_append (a b : List FV) : flat (a ++ b) = flat a ++ flat b := by simp [flat]

theorem flat_set {sz : Nat} (xs : List FV) (i : Nat) (x : FV) (hw : ∀ x ∈ xs, x.cells.length = sz) (hi : i < xs.length) (hx : x.cells.length = sz) :
    flat (xs.set i x) = (flat xs).take (i * sz) ++ x.cells ++ (flat xs).drop (i * sz + sz) := by
  obtain ⟨a, y, b, rfl, rfl⟩ : ∃ a y b, xs = a ++ y :: b ∧ a.length = i := ⟨xs.take i, xs[i], xs.drop (i + 1), by simp, by simp; omega⟩
  have h1 : (flat a).length = a.length * sz := flat_length _ (fun y hy => hw y (by simp [hy]))
  have h2 : y.cells.length = sz := hw _ (by simp)
  have e1 : flat (a ++ y :: b) = flat a ++ (y.cells ++ flat b) := by simp [flat]
  have e2 : flat ((a ++ y :: b).set a.length x) = flat a ++ (x.cells ++ flat b) := by simp [flat]
  rw [e1, e2, List.append_assoc]
  have e3 : List.take (a.length * sz) (flat a ++ (y.cells ++ flat b)) = flat a := by rw [← h1]; exact List.take_left
  have e4 : List.drop (a.length * sz + sz) (flat a ++ (y.cells ++ flat b)) = flat b := by
    rw [← h1, ← h2, ← List.append_assoc, ← List.length_append]
    exact List.drop_left
  rw [e3, e4]

theorem fillS_F {sz : Nat} : ∀ (ps : List (Nat × FV)) (xs ys : List FV), (∀ x ∈ xs, x.cells.length = sz) → fillS sz xs ps = some ys →
    fillF (flat xs) (ps.map fun p => (p.1 * sz, sz, p.2)) = some (flat ys) ∧ (∀ x ∈ ys, x.cells.length = sz) ∧ ys.length = xs.length
  | [], xs, ys, hw, h => by simp only [fillS, Option.some.injEq] at h; subst h; exact ⟨rfl, hw, rfl⟩
  | (i, x) :: ps, xs, ys, hw, h => by
    simp only [fillS] at h
    split at h
    · rename_i hc
      obtain ⟨hi, hx, ho⟩ := hc
      have hw' : ∀ y ∈ xs.set i x, y.cells.length = sz := fun y hy => by
        rcases List.mem_or_eq_of_mem_set hy with hy | rfl
        · exact hw y hy
        · exact hx
      obtain ⟨h1, h2, h3⟩ := fillS_F ps _ ys hw' h
      refine ⟨?_, h2, by rw [h3]; simp⟩
      simp only [List.map_cons, fillF]
      have hl : i * sz + sz ≤ (flat xs).length := by
        rw [flat_length _ hw, ← Nat.succ_mul]
        exact Nat.mul_le_mul_right _ hi
      rw [if_pos ⟨hx, hl, ho⟩, ← flat_set xs i x hw hi hx]
      exact h1
    · cases h
end

section
variable {P : Program} {w : World} {O : Nat → Prop} {ρ : Rho} {B L : List Ent}

theorem parts2_rel (hh : Heap w O ρ B L) {nt : Nat} {val : Operand → Value} {g : Look} {fs : List Field} : ∀ (ps : List (Nat × Operand)) (qs : List (Nat × Nat × Opd)) (rs : List (Nat × Nat × FV)),
    (∀ x y, x ∈ ps.map (·.2) → trOpd nt x = some y → SvRel w (Av O ρ B L) ρ B L (val x) (g y)) → trParts2 P nt fs ps = some qs → parts2 B L g qs = some rs →
    ps.length = rs.length ∧ ∀ (j : Nat) (p : Nat × Operand) (r : Nat × Nat × FV), ps[j]? = some p → rs[j]? = some r → (∃ f, fs[p.1]? = some f ∧ f.offset = r.1 ∧ szOf P f.type = some r.2.1) ∧ Rd w (Av O ρ B L) (val p.2) r.2.2
  | [], qs, rs, hg, h1, h2 => by
    simp only [trParts2, Option.some.injEq] at h1; subst h1
    simp only [parts2, Option.some.injEq] at h2; subst h2
    simp
  | (i, x) :: ps, qs, rs, hg, h1, h2 => by
    simp only [trParts2, Option.bind_eq_some_iff, Option.map_eq_some_iff] at h1
    obtain ⟨f, hf, n, hn, y, hy, qs', hq, rfl⟩ := h1
    simp only [parts2, Option.bind_eq_some_iff, Option.map_eq_some_iff] at h2
    obtain ⟨v, hv, rs', hr, rfl⟩ := h2
    obtain ⟨k1, k2⟩ := parts2_rel hh ps qs' rs' (fun x y hx => hg x y (by simp [hx])) hq hr
    refine ⟨by simp [k1], fun j p r hp hr' => ?_⟩
    match j with
    | 0 =>
      simp at hp hr'; subst hp; subst hr'
      exact ⟨⟨f, hf, rfl, hn⟩, toFV_rd hh hv (hg x y (by simp) hy)⟩
    | j + 1 => exact k2 j p r (by simpa using hp) (by simpa using hr')

theorem parts1_rel (hh : Heap w O ρ B L) {nt : Nat} {val : Operand → Value} {g : Look} : ∀ (ps : List (Nat × Operand)) (qs : List (Nat × Opd)) (rs : List (Nat × FV)),
    (∀ x y, x ∈ ps.map (·.2) → trOpd nt x = some y → SvRel w (Av O ρ B L) ρ B L (val x) (g y)) → trParts1 nt ps = some qs → parts1 B L g qs = some rs →
    ps.length = rs.length ∧ ∀ (j : Nat) (p : Nat × Operand) (r : Nat × FV), ps[j]? = some p → rs[j]? = some r → p.1 = r.1 ∧ Rd w (Av O ρ B L) (val p.2) r.2
  | [], qs, rs, hg, h1, h2 => by
    simp only [trParts1, Option.some.injEq] at h1; subst h1
    simp only [parts1, Option.some.injEq] at h2; subst h2
    simp
  | (i, x) :: ps, qs, rs, hg, h1, h2 => by
    simp only [trParts1, Option.bind_eq_some_iff, Option.map_eq_some_iff] at h1
    obtain ⟨y, hy, qs', hq, rfl⟩ := h1
    simp only [parts1, Option.bind_eq_some_iff, Option.map_eq_some_iff] at h2
    obtain ⟨v, hv, rs', hr, rfl⟩ := h2
    obtain ⟨k1, k2⟩ := parts1_rel hh ps qs' rs' (fun x y hx => hg x y (by simp [hx])) hq hr
    refine ⟨by simp [k1], fun j p r hp hr' => ?_⟩
    match j with
    | 0 =>
      simp at hp hr'; subst hp; subst hr'
      exact ⟨rfl, toFV_rd hh hv (hg x y (by simp) hy)⟩
    | j + 1 => exact k2 j p r (by simpa using hp) (by simpa using hr')

theorem toFVs_rel (hh : Heap w O ρ B L) : ∀ (ss : List SV) (vs : List Value) (xs : List FV), toFVs B L ss = some xs → vs.length = ss.length →
    (∀ (j : Nat) (v : Value) (s : SV), vs[j]? = some v → ss[j]? = some s → SvRel w (Av O ρ B L) ρ B L v s) →
    xs.length = ss.length ∧ ∀ (j : Nat) (v : Value) (x : FV), vs[j]? = some v → xs[j]? = some x → Rd w (Av O ρ B L) v x
  | [], vs, xs, h, hl, hr => by simp only [toFVs, Option.some.injEq] at h; subst h; simp
  | s :: ss, [], xs, h, hl, hr => by simp at hl
  | s :: ss, v :: vs, xs, h, hl, hr => by
    simp only [toFVs, Option.bind_eq_some_iff, Option.map_eq_some_iff] at h
    obtain ⟨x, hx, ys, hy, rfl⟩ := h
    obtain ⟨k1, k2⟩ := toFVs_rel hh ss vs ys hy (by simpa using hl) (fun j v s hv hs => hr (j + 1) v s (by simpa using hv) (by simpa using hs))
    refine ⟨by simp [k1], fun j u z hu hz => ?_⟩
    match j with
    | 0 => simp at hu hz; subst hu; subst hz; exact toFV_rd hh hx (hr 0 _ _ rfl rfl)
    | j + 1 => exact k2 j u z (by simpa using hu) (by simpa using hz)

theorem mkCaps_rel (hh : Heap w O ρ B L) : ∀ (ss : List SV) (vs : List Value) (cs : List Cap), mkCaps B L ss = some cs → vs.length = ss.length →
    (∀ (j : Nat) (v : Value) (s : SV), vs[j]? = some v → ss[j]? = some s → SvRel w (Av O ρ B L) ρ B L v s) →
    cs.length = ss.length ∧ ∀ (j : Nat) (v : Value) (c : Cap), vs[j]? = some v → cs[j]? = some c → CapRel w (Av O ρ B L) ρ B L v c
  | [], vs, xs, h, hl, hr => by simp only [mkCaps, Option.some.injEq] at h; subst h; simp
  | s :: ss, [], xs, h, hl, hr => by simp at hl
  | s :: ss, v :: vs, xs, h, hl, hr => by
    simp only [mkCaps, Option.bind_eq_some_iff, Option.map_eq_some_iff] at h
    obtain ⟨c, hc, ys, hy, rfl⟩ := h
    obtain ⟨k1, k2⟩ := mkCaps_rel hh ss vs ys hy (by simpa using hl) (fun j v s hv hs => hr (j + 1) v s (by simpa using hv) (by simpa using hs))
    refine ⟨by simp [k1], fun j u z hu hz => ?_⟩
    match j with
    | 0 =>
      simp at hu hz; subst hu; subst hz
      have h0 := hr 0 _ _ rfl rfl
      unfold mkCap at hc
      split at hc
      · rename_i id sz
        split at hc
        · split at hc
          · injection hc with hc; subst hc
            obtain ⟨h1, h2⟩ := h0
            exact ⟨h1, by simpa using h2⟩
          · cases hc
        · rename_i sz' x he
          split at hc
          · rename_i hs
            injection hc with hc; subst hc; subst hs
            obtain ⟨k1, k2, k3, k4, k5⟩ := hh.frz _ _ _ he
            obtain ⟨_, rfl⟩ := h0
            have := rd_elem (i := 0) k1 k2 k3 k5 (x := x) rfl
            exact this
          · cases hc
        · cases hc
      · obtain ⟨x, hx, rfl⟩ := Option.map_eq_some_iff.1 hc
        exact toFV_rd hh hx h0
    | j + 1 => exact k2 j u z (by simpa using hu) (by simpa using hz)
end
end Go.Ab
