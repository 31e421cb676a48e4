/- A part of the proof: an evaluator of programs, its soundness, and what it says of the functions in hand. It holds without further conditions. -/
import Derived.Test.YtpfbgpclhkjgaaaGreatAb19
set_option linter.unusedVariables false
set_option linter.unusedSimpArgs false
namespace Go.Ab

section
variable {w w' : World} {O : Nat → Prop} {ρ ρ' : Rho} {B L B' L' : List Ent}

theorem getD_maskL (h : Nat → Bool) (L : List Ent) (p : Nat) : (maskL h L).getD p .dead = if h p then .dead else L.getD p .dead := by
  simp only [maskL, List.getD_eq_getElem?_getD, List.getElem?_mapIdx]
  cases L[p]? with
  | none => simp
  | some e => simp

theorem maskL_length (h : Nat → Bool) (L : List Ent) : (maskL h L).length = L.length := by simp [maskL]
theorem restL_length (h : Nat → Bool) (L L' : List Ent) : (restL h L L').length = L'.length := by simp [restL]

theorem getD_restL (h : Nat → Bool) (L L' : List Ent) (p : Nat) : (restL h L L').getD p .dead = if p < L'.length ∧ h p = true then L.getD p .dead else L'.getD p .dead := by
  simp only [restL, List.getD_eq_getElem?_getD, List.getElem?_mapIdx]
  cases hp : L'[p]? with
  | none =>
    have : ¬ p < L'.length := by
      intro hlt; rw [List.getElem?_eq_getElem hlt] at hp; cases hp
    simp [this]
  | some e =>
    have : p < L'.length := (List.getElem?_eq_some_iff.1 hp).1
    simp only [Option.map_some, Option.getD_some, this, true_and]

def hid (h : Nat → Bool) : Id → Bool
  | .b _ => false
  | .l p => h p

theorem ent_maskL (h : Nat → Bool) (B L : List Ent) (i : Id) : ent B (maskL h L) i = if hid h i then .dead else ent B L i := by
  cases i with
  | b j => simp [ent, hid]
  | l p => simp only [ent, hid]; exact getD_maskL h L p

theorem ent_restL (h : Nat → Bool) (hl : L.length ≤ L'.length) (i : Id) : ent B' (restL h L L') i = if hid h i then ent B L i else ent B' L' i := by
  cases i with
  | b j => simp [ent, hid]
  | l p =>
    have e1 : hid h (.l p) = h p := rfl
    have e2 : ent B' (restL h L L') (.l p) = (restL h L L').getD p .dead := rfl
    rw [e1, e2, getD_restL]
    by_cases hp : h p = true
    · rw [if_pos hp]
      split
      · rfl
      · rename_i hn
        have : ¬ p < L'.length := fun h' => hn ⟨h', hp⟩
        simp only [ent]
        rw [List.getD_eq_getElem?_getD, List.getD_eq_getElem?_getD, List.getElem?_eq_none (by omega), List.getElem?_eq_none (by omega)]
    · rw [if_neg hp, if_neg (fun h' => hp h'.2)]; rfl

theorem maskL_weak (h : Nat → Bool) (B L : List Ent) : Weak B L B (maskL h L) := fun i => by
  rw [ent_maskL]
  split
  · exact .inr (.inr rfl)
  · exact .inl rfl

/-- The blocks that are shunned while some rows are hidden. -/
def MO (O : Nat → Prop) (ρ : Rho) (B L : List Ent) (h : Nat → Bool) (b : Nat) : Prop := O b ∨ ∃ i, hid h i = true ∧ (ent B L i).isOwn = true ∧ (ρ i).1 = b

theorem av_mask (h : Nat → Bool) : Av (MO O ρ B L h) ρ B (maskL h L) = Av O ρ B L := by
  funext b
  refine propext ⟨?_, ?_⟩
  · rintro ((hb | ⟨i, _, h2, h3⟩) | ⟨i, h2, h3⟩)
    · exact .inl hb
    · exact .inr ⟨i, h2, h3⟩
    · rw [ent_maskL] at h2
      split at h2
      · simp [Ent.isOwn] at h2
      · exact .inr ⟨i, h2, h3⟩
  · rintro (hb | ⟨i, h2, h3⟩)
    · exact .inl (.inl hb)
    · by_cases hi : hid h i = true
      · exact .inl (.inr ⟨i, hi, h2, h3⟩)
      · exact .inr ⟨i, by rw [ent_maskL, if_neg hi]; exact h2, h3⟩

theorem Heap.avLt' (hh : Heap w O ρ B L) (i : Id) (hi : (ent B L i).isOwn = true) : (ρ i).1 < w.heap.size := by
  cases he : ent B L i with
  | own sz xs =>
    obtain ⟨_, _, _, _, cur, t, h5, _⟩ := hh.own i sz xs he
    exact (Array.getElem?_eq_some_iff.1 h5).1
  | dead => rw [he] at hi; simp [Ent.isOwn] at hi
  | frz sz xs => rw [he] at hi; simp [Ent.isOwn] at hi

theorem heap_mask (hh : Heap w O ρ B L) (h : Nat → Bool) : Heap w (MO O ρ B L h) ρ B (maskL h L) := by
  have hm : ∀ i e, e ≠ .dead → ent B (maskL h L) i = e → ent B L i = e ∧ hid h i = false := by
    intro i e hd he
    rw [ent_maskL] at he
    split at he
    · exact absurd he.symm hd
    · rename_i hf; exact ⟨he, by simpa using hf⟩
  have ho : ∀ i, (ent B (maskL h L) i).isOwn = true → (ent B L i).isOwn = true ∧ hid h i = false := by
    intro i hi
    obtain ⟨h1, h2⟩ := hm i (ent B (maskL h L) i) (by intro hd; rw [hd] at hi; simp [Ent.isOwn] at hi) rfl
    exact ⟨by rw [h1]; exact hi, h2⟩
  refine ⟨fun i j hi hj e => hh.inj i j (ho i hi).1 (ho j hj).1 e, fun i hi => ?_, fun b hb => ?_, fun i sz xs he => ?_, fun i sz xs he => ?_⟩
  · rintro (hb | ⟨k, k1, k2, k3⟩)
    · exact hh.notO i (ho i hi).1 hb
    · have := hh.inj i k (ho i hi).1 k2 k3.symm
      subst this
      rw [(ho i hi).2] at k1; cases k1
  · rcases hb with hb | ⟨k, k1, k2, k3⟩
    · exact hh.oLt b hb
    · rw [← k3]; exact hh.avLt' k k2
  · rw [av_mask]; exact hh.own i sz xs (hm i _ (by simp) he).1
  · rw [av_mask]; exact hh.frz i sz xs (hm i _ (by simp) he).1

theorem sv_mask {v : Value} {s : SV} (h : Nat → Bool) (hr : SvRel w (Av O ρ B L) ρ B L v s) : SvRel w (Av (MO O ρ B L h) ρ B (maskL h L)) ρ B (maskL h L) v s := by
  rw [av_mask]
  have hv : ∀ id : Id, id.valid B L → id.valid B (maskL h L) := fun id hv => by cases id <;> simp only [Id.valid, maskL_length] at hv ⊢ <;> exact hv
  cases s with
  | unk => trivial
  | fv x => exact hr
  | ref id sz off len ap => exact ⟨hv _ hr.1, hr.2⟩
  | ptr id sz i c => exact ⟨hv _ hr.1, hr.2⟩
  | clo f nf caps =>
    obtain ⟨fs, cs, e, h1, h2, h4⟩ := hr
    refine ⟨fs, cs, e, h1, h2, fun j u x hu hx => ?_⟩
    have := h4 j u x hu hx
    cases x with
    | fz x => exact this
    | own id sz => exact ⟨hv _ this.1, this.2⟩

/-- What was hidden comes back as it was. -/
theorem unmask_ext (hh : Heap w O ρ B L) (h : Nat → Bool) (hx : Ext w (MO O ρ B L h) ρ B (maskL h L) w' ρ' B' L') : Ext w O ρ B L w' ρ' B' (restL h L L') := by
  have hl : L.length ≤ L'.length := by have := hx.lenL; rw [maskL_length] at this; exact this
  have hmo : ∀ i, (ent B (maskL h L) i).isOwn = true → (ent B L i).isOwn = true ∧ hid h i = false := by
    intro i hi
    rw [ent_maskL] at hi
    split at hi
    · simp [Ent.isOwn] at hi
    · rename_i hf; exact ⟨hi, by simpa using hf⟩
  have hvo : ∀ i, (ent B L i).isOwn = true → ρ' i = ρ i := fun i hi => hx.rho i (by
    have := own_valid hi
    cases i <;> simp only [Id.valid, maskL_length] at this ⊢ <;> exact this)
  have hval : ∀ i e, e ≠ .dead → ent B L i = e → ρ' i = ρ i := fun i e hd he => hx.rho i (by
    cases i with
    | b j =>
      simp only [Id.valid]
      apply Classical.byContradiction; intro hn
      simp only [ent] at he
      rw [List.getD_eq_getElem?_getD, List.getElem?_eq_none (by omega)] at he
      exact hd he.symm
    | l j =>
      simp only [Id.valid, maskL_length]
      apply Classical.byContradiction; intro hn
      simp only [ent] at he
      rw [List.getD_eq_getElem?_getD, List.getElem?_eq_none (by omega)] at he
      exact hd he.symm)
  have he2 : ∀ i, ent B' (restL h L L') i = if hid h i then ent B L i else ent B' L' i := ent_restL h hl
  have hav : ∀ b, Av O ρ' B' (restL h L L') b → Av (MO O ρ B L h) ρ' B' L' b := by
    rintro b (hb | ⟨i, hi, e⟩)
    · exact .inl (.inl hb)
    · rw [he2] at hi
      split at hi
      · rename_i hf
        exact .inl (.inr ⟨i, hf, hi, by rw [← hvo i hi]; exact e⟩)
      · exact .inr ⟨i, hi, e⟩
  have hav2 : ∀ b, b < w.heap.size → Av O ρ' B' (restL h L L') b → Av O ρ B L b := by
    intro b hb hA
    have := hx.av b hb (hav b hA)
    rw [av_mask] at this; exact this
  have hchg : Chg (fun b => ∃ i, (ent B L i).isOwn = true ∧ (ρ i).1 = b) w w' := hx.chg.mono fun b hb ⟨i, hi, e⟩ => ⟨i, (hmo i hi).1, e⟩
  have hnew : ∀ {v x}, Rd w' (Av (MO O ρ B L h) ρ' B' L') v x → Rd w' (Av O ρ' B' (restL h L L')) v x := fun hr => Rd.congrA hav hr
  have hold : ∀ {v x}, Rd w (Av O ρ B L) v x → Rd w' (Av O ρ' B' (restL h L L')) v x := fun hr => Rd.mono hchg (fun b ⟨i, hi, e⟩ => .inr ⟨i, hi, e⟩) hav2 hr
  refine ⟨hchg, ⟨fun i j hi hj e => ?_, fun i hi => ?_, fun b hb => Nat.lt_of_lt_of_le (hh.oLt b hb) hx.chg.size, fun i sz xs he => ?_, fun i sz xs he => ?_⟩,
    fun id hv => hx.rho id (by cases id <;> simp only [Id.valid, maskL_length] at hv ⊢ <;> exact hv), hav2, hx.lenB, by rw [restL_length]; exact hl⟩
  · rw [he2] at hi hj
    split at hi
    · rename_i h1
      split at hj
      · rw [hvo i hi, hvo j hj] at e
        exact hh.inj i j hi hj e
      · rw [hvo i hi] at e
        exact absurd (.inr ⟨i, h1, hi, e⟩) (hx.heap.notO j hj)
    · split at hj
      · rename_i h1
        rw [hvo j hj] at e
        exact absurd (.inr ⟨j, h1, hj, e.symm⟩) (hx.heap.notO i hi)
      · exact hx.heap.inj i j hi hj e
  · rw [he2] at hi
    split at hi
    · rw [hvo i hi]; exact hh.notO i hi
    · exact fun hb => hx.heap.notO i hi (.inl hb)
  · rw [he2] at he
    split at he
    · rename_i h1
      obtain ⟨k1, k2, k3, k4, cur, t, k5, k6, k7⟩ := hh.own i sz xs he
      rw [hvo i (by rw [he]; rfl)]
      refine ⟨k1, k2, k3, k4, cur, t, ?_, k6, fun j x hj => ?_⟩
      · rw [hx.chg.block _ (Array.getElem?_eq_some_iff.1 k5).1]
        · exact k5
        · rintro ⟨k, hk, e⟩
          have := hh.inj k i (hmo k hk).1 (by rw [he]; rfl) e
          subst this
          rw [(hmo k hk).2] at h1; cases h1
      · obtain ⟨v, hv, hr⟩ := k7 j x hj
        exact ⟨v, hv, hold hr⟩
    · obtain ⟨k1, k2, k3, k4, cur, t, k5, k6, k7⟩ := hx.heap.own i sz xs he
      refine ⟨k1, k2, k3, k4, cur, t, k5, k6, fun j x hj => ?_⟩
      obtain ⟨v, hv, hr⟩ := k7 j x hj
      exact ⟨v, hv, hnew hr⟩
  · rw [he2] at he
    split at he
    · obtain ⟨k1, k2, k3, k4, k5⟩ := hh.frz i sz xs he
      rw [hval i _ (by simp) he]
      refine ⟨k1, k2, fun hA => k3 (hav2 _ k4 hA), Nat.lt_of_lt_of_le k4 hx.chg.size, fun j x hj => ?_⟩
      obtain ⟨v, hv, hr⟩ := k5 j x hj
      exact ⟨v, hchg.cell (fun ⟨k, hk, e⟩ => k3 (.inr ⟨k, hk, e⟩)) hv, hold hr⟩
    · obtain ⟨k1, k2, k3, k4, k5⟩ := hx.heap.frz i sz xs he
      refine ⟨k1, k2, fun hA => k3 (hav _ hA), k4, fun j x hj => ?_⟩
      obtain ⟨v, hv, hr⟩ := k5 j x hj
      exact ⟨v, hv, hnew hr⟩

theorem unmask_sv (hh : Heap w O ρ B L) (h : Nat → Bool) (hx : Ext w (MO O ρ B L h) ρ B (maskL h L) w' ρ' B' L') {v : Value} {s : SV} (hr : SvRel w' (Av (MO O ρ B L h) ρ' B' L') ρ' B' L' v s) :
    SvRel w' (Av O ρ' B' (restL h L L')) ρ' B' (restL h L L') v s := by
  have hl : L.length ≤ L'.length := by have := hx.lenL; rw [maskL_length] at this; exact this
  have hav : ∀ b, Av O ρ' B' (restL h L L') b → Av (MO O ρ B L h) ρ' B' L' b := by
    rintro b (hb | ⟨i, hi, e⟩)
    · exact .inl (.inl hb)
    · rw [ent_restL h hl (B := B)] at hi
      split at hi
      · rename_i hf
        exact .inl (.inr ⟨i, hf, hi, by rw [← hx.rho i (by have := own_valid hi; cases i <;> simp only [Id.valid, maskL_length] at this ⊢ <;> exact this)]; exact e⟩)
      · exact .inr ⟨i, hi, e⟩
  have hv : ∀ id : Id, id.valid B' L' → id.valid B' (restL h L L') := fun id hv => by cases id <;> simp only [Id.valid, restL_length] at hv ⊢ <;> exact hv
  cases s with
  | unk => trivial
  | fv x => exact Rd.congrA hav hr
  | ref id sz off len ap => exact ⟨hv _ hr.1, hr.2⟩
  | ptr id sz i c => exact ⟨hv _ hr.1, hr.2⟩
  | clo f nf caps =>
    obtain ⟨fs, cs, e, h1, h2, h4⟩ := hr
    refine ⟨fs, cs, e, h1, h2, fun j u x hu hx => ?_⟩
    have := h4 j u x hu hx
    cases x with
    | fz x => exact Rd.congrA hav this
    | own id sz => exact ⟨hv _ this.1, this.2⟩

theorem frz1_other {i id : Id} (hne : i ≠ id) (B L : List Ent) : ent (frz1 i B L).1 (frz1 i B L).2 id = ent B L id := by
  cases i <;> cases id <;> simp only [frz1, ent]
  · rename_i a b
    rw [getD_modify, if_neg (fun h => hne (by rw [h.1]))]
  · rename_i a b
    rw [getD_modify, if_neg (fun h => hne (by rw [h.1]))]

theorem frzs_other {id : Id} : ∀ (ids : List Id) (B L : List Ent), id ∉ ids → ent (frzs ids B L).1 (frzs ids B L).2 id = ent B L id
  | [], B, L, _ => rfl
  | i :: r, B, L, h => by
    simp only [frzs]
    rw [frzs_other r _ _ (fun h' => h (List.mem_cons_of_mem _ h')), frz1_other (fun e => h (by simp [e]))]

theorem frzNew_weak (steps : List IStep) (s : IStep) (n : Nat) (v : SV) (B L : List Ent) : Weak B L (frzNew steps s n v B L).1 (frzNew steps s n v B L).2 ∧ (frzNew steps s n v B L).1.length = B.length ∧ (frzNew steps s n v B L).2.length = L.length := by
  unfold frzNew
  split
  · exact frzs_weak _ _ _
  · exact ⟨Weak.refl _ _, rfl, rfl⟩

theorem frzNew_old {steps : List IStep} {s : IStep} {n : Nat} {v : SV} {B L : List Ent} {id : Id} (h : ∀ p, id = .l p → p < n) : ent (frzNew steps s n v B L).1 (frzNew steps s n v B L).2 id = ent B L id := by
  unfold frzNew
  split
  · rename_i hc
    simp only [Bool.and_eq_true, List.all_eq_true] at hc
    refine frzs_other _ _ _ fun hm => ?_
    have := hc.2 id hm
    cases id with
    | b j => simp at this
    | l p =>
      have hp := h p rfl
      simp at this
      omega
  · rfl

/-! ### A row takes another's place -/
theorem Heap.swap {τ : Id → Id} (hτ : ∀ i, τ (τ i) = i) {ρ2 : Rho} {B2 L2 : List Ent} (hh : Heap w O ρ B L) (he : ∀ i, ent B2 L2 i = ent B L (τ i)) (hr : ∀ i, (ent B L (τ i)) ≠ .dead → ρ2 i = ρ (τ i)) :
    Heap w O ρ2 B2 L2 ∧ Av O ρ2 B2 L2 = Av O ρ B L := by
  have hro : ∀ i, (ent B L (τ i)).isOwn = true → ρ2 i = ρ (τ i) := fun i hi => hr i (by intro hd; rw [hd] at hi; simp [Ent.isOwn] at hi)
  have hav : Av O ρ2 B2 L2 = Av O ρ B L := by
    funext b
    refine propext ⟨?_, ?_⟩
    · rintro (hb | ⟨i, hi, e⟩)
      · exact .inl hb
      · rw [he] at hi
        exact .inr ⟨τ i, hi, by rw [← hro i hi]; exact e⟩
    · rintro (hb | ⟨i, hi, e⟩)
      · exact .inl hb
      · refine .inr ⟨τ i, by rw [he, hτ]; exact hi, ?_⟩
        rw [hro (τ i) (by rw [hτ]; exact hi), hτ]; exact e
  refine ⟨⟨fun i j hi hj e => ?_, fun i hi => ?_, hh.oLt, fun i sz xs h => ?_, fun i sz xs h => ?_⟩, hav⟩
  · rw [he] at hi hj
    rw [hro i hi, hro j hj] at e
    have := hh.inj _ _ hi hj e
    rw [← hτ i, this, hτ]
  · rw [he] at hi
    rw [hro i hi]; exact hh.notO _ hi
  · rw [he] at h
    rw [hav, hr i (by rw [h]; simp)]
    exact hh.own _ sz xs h
  · rw [he] at h
    rw [hav, hr i (by rw [h]; simp)]
    exact hh.frz _ sz xs h

theorem getD_set (L : List Ent) (p q : Nat) (e : Ent) (hp : p < L.length) : (L.set p e).getD q .dead = if q = p then e else L.getD q .dead := by
  simp only [List.getD_eq_getElem?_getD, List.getElem?_set]
  by_cases h : p = q
  · subst h; simp [hp]
  · rw [if_neg h, if_neg (fun e => h e.symm)]

/-- A dead row comes to life in a new block. -/
theorem fill_ext {sz : Nat} {z : FV} {zv : Value} {p : Nat} (hh : Heap w O ρ B L) (t : TypeId) (hz : 0 < sz) (hzl : z.cells.length = sz) (hr : CellsRel w (Av O ρ B L) zv.cells z.cells)
    (hp : p < L.length) (hd : L.getD p .dead = .dead) :
    Heap (w.alloc (.cells zv.cells t)) O (upd ρ (.l p) (w.heap.size, 1)) B (L.set p (.own sz [z])) ∧
    (∀ b, b < w.heap.size → Av O (upd ρ (.l p) (w.heap.size, 1)) B (L.set p (.own sz [z])) b → Av O ρ B L b) ∧
    (∀ v s, (∀ i ∈ s.ids, i ≠ .l p) → SvRel w (Av O ρ B L) ρ B L v s → SvRel (w.alloc (.cells zv.cells t)) (Av O (upd ρ (.l p) (w.heap.size, 1)) B (L.set p (.own sz [z]))) (upd ρ (.l p) (w.heap.size, 1)) B (L.set p (.own sz [z])) v s) := by
  have hx := new_one hh t hz hzl hr
  let τ : Id → Id := fun i => if i = .l p then .l L.length else if i = .l L.length then .l p else i
  have hne : p ≠ L.length := by omega
  have hτ : ∀ i, τ (τ i) = i := by
    intro i
    simp only [τ]
    by_cases h1 : i = .l p
    · subst h1; simp [Ne.symm hne]
    · rw [if_neg h1]
      by_cases h2 : i = .l L.length
      · subst h2; simp
      · rw [if_neg h2, if_neg h1, if_neg h2]
  have he : ∀ i, ent B (L.set p (.own sz [z])) i = ent B (L ++ [.own sz [z]]) (τ i) := by
    intro i
    simp only [τ]
    by_cases h1 : i = .l p
    · subst h1
      rw [if_pos rfl, ent_push, if_pos rfl]
      simp only [ent]
      rw [getD_set _ _ _ _ hp, if_pos rfl]
    · rw [if_neg h1]
      by_cases h2 : i = .l L.length
      · subst h2
        rw [if_pos rfl, ent_push, if_neg (by simpa using hne)]
        simp only [ent]
        rw [getD_set _ _ _ _ hp, if_neg (Ne.symm hne), hd, List.getD_eq_getElem?_getD, List.getElem?_eq_none (by omega)]; rfl
      · rw [if_neg h2, ent_push, if_neg h2]
        cases i with
        | b j => rfl
        | l q =>
          simp only [ent]
          rw [getD_set _ _ _ _ hp, if_neg (fun e => h1 (by rw [e]))]
  have hrho : ∀ i, ent B (L ++ [.own sz [z]]) (τ i) ≠ .dead → upd ρ (.l p) (w.heap.size, 1) i = upd ρ (.l L.length) (w.heap.size, 1) (τ i) := by
    intro i hi
    simp only [τ] at hi ⊢
    by_cases h1 : i = .l p
    · subst h1; simp [upd]
    · rw [if_neg h1] at hi ⊢
      by_cases h2 : i = .l L.length
      · subst h2
        rw [if_pos rfl, ent_push, if_neg (by simpa using hne)] at hi
        exact absurd hd hi
      · rw [if_neg h2]
        simp [upd, h1, h2]
  obtain ⟨k1, k2⟩ := hx.heap.swap hτ he hrho
  refine ⟨k1, fun b hb hA => hx.av b hb (by rw [← k2]; exact hA), fun v s hs hr => ?_⟩
  have hrd : ∀ {v x}, Rd w (Av O ρ B L) v x → Rd (w.alloc (.cells zv.cells t)) (Av O (upd ρ (.l p) (w.heap.size, 1)) B (L.set p (.own sz [z]))) v x := fun h => by rw [k2]; exact hx.rd h
  have hv : ∀ id : Id, id.valid B L → id.valid B (L.set p (.own sz [z])) := fun id hv => by cases id <;> simp only [Id.valid, List.length_set] at hv ⊢ <;> exact hv
  have hu : ∀ id : Id, id ≠ .l p → upd ρ (.l p) (w.heap.size, 1) id = ρ id := fun id h => by simp [upd, h]
  cases s with
  | unk => trivial
  | fv x => exact hrd hr
  | ref id sz off len ap => refine ⟨hv _ hr.1, ?_⟩; rw [hu id (hs id (by simp [SV.ids]))]; exact hr.2
  | ptr id sz i c => refine ⟨hv _ hr.1, ?_⟩; rw [hu id (hs id (by simp [SV.ids]))]; exact hr.2
  | clo f nf caps =>
    obtain ⟨fs, cs, e, h1, h2, h4⟩ := hr
    refine ⟨fs, cs, e, h1, h2, fun j u x hju hjx => ?_⟩
    have := h4 j u x hju hjx
    cases x with
    | fz x => exact hrd this
    | own id sz =>
      refine ⟨hv _ this.1, ?_⟩
      rw [hu id (hs id (by
        simp only [SV.ids, List.mem_flatMap]
        exact ⟨_, List.mem_of_getElem? hjx, by simp [Cap.ids]⟩))]
      exact this.2
end
end Go.Ab
