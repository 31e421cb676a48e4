/- A part of the proof: an evaluator of programs, its soundness, and what it says of the functions in hand. It holds without further conditions. -/
import Derived.Test.YtpfbgpclhkjgaaaGreatAb8
set_option linter.unusedVariables false
set_option linter.unusedSimpArgs false
namespace Go.Ab

section
variable {P : Program} {w w' : World} {O : Nat → Prop} {ρ : Rho} {B L B1 L1 : List Ent}

/-- Entries are frozen or dropped. -/
def Weak (B L B1 L1 : List Ent) : Prop := ∀ i, ent B1 L1 i = ent B L i ∨ ent B1 L1 i = (ent B L i).fz ∨ ent B1 L1 i = .dead

theorem Weak.refl (B L : List Ent) : Weak B L B L := fun _ => .inl rfl

theorem Weak.own (h : Weak B L B1 L1) {i : Id} (ho : (ent B1 L1 i).isOwn = true) : ent B1 L1 i = ent B L i ∧ (ent B L i).isOwn = true := by
  rcases h i with e | e | e
  · exact ⟨e, e ▸ ho⟩
  · rw [e] at ho; cases he : ent B L i <;> rw [he] at ho <;> simp [Ent.fz, Ent.isOwn] at ho
  · rw [e] at ho; simp [Ent.isOwn] at ho

theorem Weak.av (h : Weak B L B1 L1) {b : Nat} (hb : Av O ρ B1 L1 b) : Av O ρ B L b := by
  rcases hb with hb | ⟨i, hi, e⟩
  · exact .inl hb
  · exact .inr ⟨i, (h.own hi).2, e⟩

theorem Rd.weak (h : Weak B L B1 L1) {v : Value} {x : FV} (hr : Rd w (Av O ρ B L) v x) : Rd w (Av O ρ B1 L1) v x :=
  Rd.mono (Chg.refl (fun _ => False) w) (fun _ h => h.elim) (fun _ _ h' => h.av h') hr

theorem Heap.weaken (hh : Heap w O ρ B L) (h : Weak B L B1 L1) : Heap w O ρ B1 L1 := by
  refine ⟨fun i j hi hj e => hh.inj i j (h.own hi).2 (h.own hj).2 e, fun i hi => hh.notO i (h.own hi).2, hh.oLt, ?_, ?_⟩
  · intro i sz xs he
    have ho : (ent B1 L1 i).isOwn = true := by rw [he]; rfl
    obtain ⟨h1, h2, h3, h4, cur, t, h5, h6, h7⟩ := hh.own i sz xs ((h.own ho).1 ▸ he)
    refine ⟨h1, h2, h3, h4, cur, t, h5, h6, fun j x hx => ?_⟩
    obtain ⟨v, hv, hr⟩ := h7 j x hx
    exact ⟨v, hv, hr.weak h⟩
  · intro i sz xs he
    rcases h i with e | e | e
    · obtain ⟨h1, h2, h3, h4, h5⟩ := hh.frz i sz xs (e ▸ he)
      refine ⟨h1, h2, fun hA => h3 (h.av hA), h4, fun j x hx => ?_⟩
      obtain ⟨v, hv, hr⟩ := h5 j x hx
      exact ⟨v, hv, hr.weak h⟩
    · rw [e] at he
      cases h0 : ent B L i with
      | dead => rw [h0] at he; cases he
      | frz sz' xs' =>
        rw [h0] at he
        simp only [Ent.fz] at he
        injection he with e1 e2; subst e1; subst e2
        obtain ⟨h1, h2, h3, h4, h5⟩ := hh.frz i _ _ h0
        refine ⟨h1, h2, fun hA => h3 (h.av hA), h4, fun j x hx => ?_⟩
        obtain ⟨v, hv, hr⟩ := h5 j x hx
        exact ⟨v, hv, hr.weak h⟩
      | own sz' xs' =>
        rw [h0] at he
        simp only [Ent.fz] at he
        injection he with e1 e2; subst e1; subst e2
        obtain ⟨h1, h2, h3, h4, cur, t, h5, h6, h7⟩ := hh.own i _ _ h0
        refine ⟨h1, h2, fun hA => ?_, (Array.getElem?_eq_some_iff.1 h5).1, fun j x hx => ?_⟩
        · rcases hA with hA | ⟨k, hk, e'⟩
          · exact hh.notO i (by rw [h0]; rfl) hA
          · obtain ⟨k1, k2⟩ := h.own hk
            have := hh.inj k i k2 (by rw [h0]; rfl) e'
            subst this
            rw [e, h0] at hk
            simp [Ent.fz, Ent.isOwn] at hk
        · obtain ⟨v, hv, hr⟩ := h7 j x hx
          exact ⟨v, by simp only [World.cell?, h5]; exact hv, hr.weak h⟩
    · rw [e] at he; cases he

theorem SvRel.weak (h : Weak B L B1 L1) (hb : B1.length = B.length) (hl : L.length ≤ L1.length) {v : Value} {s : SV} (hr : SvRel w (Av O ρ B L) ρ B L v s) : SvRel w (Av O ρ B1 L1) ρ B1 L1 v s := by
  cases s with
  | unk => trivial
  | fv x => exact Rd.weak h hr
  | ref id sz off len ap => exact ⟨hr.1.ext hb hl, hr.2⟩
  | ptr id sz i c => exact ⟨hr.1.ext hb hl, hr.2⟩
  | clo f nf caps =>
    obtain ⟨fs, cs, e, h1, h2, h4⟩ := hr
    refine ⟨fs, cs, e, h1, h2, fun j u x hu hx => ?_⟩
    have := h4 j u x hu hx
    cases x with
    | fz y => exact Rd.weak h this
    | own id sz => exact ⟨this.1.ext hb hl, this.2⟩

theorem Ext.weaken (hh : Heap w O ρ B L) (h : Weak B L B1 L1) (hb : B1.length = B.length) (hl : L1.length = L.length) : Ext w O ρ B L w ρ B1 L1 :=
  ⟨Chg.refl _ _, hh.weaken h, fun _ _ => rfl, fun _ _ h' => h.av h', hb, by omega⟩

theorem getD_modify (l : List Ent) (i j : Nat) (f : Ent → Ent) : (l.modify i f).getD j .dead = if i = j ∧ j < l.length then f (l.getD j .dead) else l.getD j .dead := by
  simp only [List.getD_eq_getElem?_getD, List.getElem?_modify]
  by_cases hj : j < l.length
  · simp only [List.getElem?_eq_getElem hj]
    by_cases h : i = j <;> simp [h, hj]
  · simp [List.getElem?_eq_none (Nat.le_of_not_lt hj), hj]

theorem frz1_weak (id : Id) (B L : List Ent) : Weak B L (frz1 id B L).1 (frz1 id B L).2 ∧ (frz1 id B L).1.length = B.length ∧ (frz1 id B L).2.length = L.length := by
  refine ⟨fun i => ?_, ?_, ?_⟩
  · cases id with
    | b k => cases i with
      | b j =>
        simp only [frz1, ent, getD_modify]
        split
        · exact .inr (.inl rfl)
        · exact .inl rfl
      | l j => exact .inl rfl
    | l k => cases i with
      | b j => exact .inl rfl
      | l j =>
        simp only [frz1, ent, getD_modify]
        split
        · exact .inr (.inl rfl)
        · exact .inl rfl
  · cases id <;> simp [frz1]
  · cases id <;> simp [frz1]

theorem Weak.trans {B2 L2 : List Ent} (h : Weak B L B1 L1) (k : Weak B1 L1 B2 L2) : Weak B L B2 L2 := by
  intro i
  have ff : ∀ e : Ent, e.fz.fz = e.fz := by intro e; cases e <;> rfl
  rcases k i with e | e | e
  · rw [e]; exact h i
  · rcases h i with e' | e' | e'
    · rw [e, e']; exact .inr (.inl rfl)
    · rw [e, e', ff]; exact .inr (.inl rfl)
    · rw [e, e']; exact .inr (.inr rfl)
  · exact .inr (.inr e)

theorem frzs_weak : ∀ (ids : List Id) (B L : List Ent), Weak B L (frzs ids B L).1 (frzs ids B L).2 ∧ (frzs ids B L).1.length = B.length ∧ (frzs ids B L).2.length = L.length
  | [], B, L => ⟨Weak.refl _ _, rfl, rfl⟩
  | i :: r, B, L => by
    obtain ⟨h1, h2, h3⟩ := frz1_weak i B L
    obtain ⟨k1, k2, k3⟩ := frzs_weak r (frz1 i B L).1 (frz1 i B L).2
    exact ⟨h1.trans k1, k2.trans h2, k3.trans h3⟩

def upd (ρ : Rho) (i : Id) (p : Nat × Nat) : Rho := fun j => if j = i then p else ρ j

theorem ent_push (B1 L1 : List Ent) (e : Ent) (i : Id) : ent B1 (L1 ++ [e]) i = if i = .l L1.length then e else ent B1 L1 i := by
  cases i with
  | b j => simp [ent]
  | l j =>
    simp only [ent, List.getD_eq_getElem?_getD, Id.l.injEq]
    rcases Nat.lt_trichotomy j L1.length with h | h | h
    · rw [List.getElem?_append_left h, if_neg (by omega)]
    · subst h; simp
    · rw [if_neg (by omega), List.getElem?_eq_none (by simp; omega), List.getElem?_eq_none (by omega)]

/-- A new row of one's own: in a new block, or in that of a row that is dead from now on. -/
theorem Ext.insert (hh : Heap w O ρ B L) (hwk : Weak B L B1 L1) (hB : B1.length = B.length) (hL : L1.length = L.length) {b0 cap : Nat}
    (hb0 : w.heap.size ≤ b0 ∨ ∃ i, (ent B L i).isOwn = true ∧ (ρ i).1 = b0 ∧ ent B1 L1 i = .dead) (hc : Chg (fun b => b = b0) w w')
    {sz : Nat} {xs : List FV} {cur : Array Value} {t : TypeId} (hz : 0 < sz) (hw : ∀ x ∈ xs, x.cells.length = sz ∧ ∀ y ∈ x.cells, y.one = true) (hcap : xs.length ≤ cap) (hm : cap ≤ maxLen)
    (hcell : w'.heap[b0]? = some (.cells cur t (0, 0))) (hsz : cur.size = cap * sz) (hr : ∀ j x, (flat xs)[j]? = some x → ∃ v, At cur j = some v ∧ Rd w (Av O ρ B L) v x) :
    Ext w O ρ B L w' (upd ρ (.l L.length) (b0, cap)) B1 (L1 ++ [.own sz xs]) := by
  have hnO : ¬ O b0 := by
    rcases hb0 with h | ⟨i, hi, rfl, _⟩
    · intro h'; have := hh.oLt b0 h'; omega
    · exact hh.notO i hi
  have hne : ∀ i, (ent B1 L1 i).isOwn = true → (ρ i).1 ≠ b0 := by
    intro i hi e
    obtain ⟨h1, h2⟩ := hwk.own hi
    rcases hb0 with h | ⟨k, hk, e', hd⟩
    · have : Av O ρ B L (ρ i).1 := .inr ⟨i, h2, rfl⟩
      have := hh.avLt _ this
      omega
    · have := hh.inj i k h2 hk (e.trans e'.symm)
      subst this
      rw [hd] at hi
      simp [Ent.isOwn] at hi
  have hdead : ent B1 L1 (.l L1.length) = .dead := by simp [ent]
  have hav : ∀ b, Av O (upd ρ (.l L.length) (b0, cap)) B1 (L1 ++ [.own sz xs]) b → b = b0 ∨ Av O ρ B1 L1 b := by
    intro b hb
    rcases hb with hb | ⟨i, hi, e⟩
    · exact .inr (.inl hb)
    · rw [ent_push] at hi
      by_cases h : i = .l L1.length
      · subst h
        rw [hL] at e
        simp [upd] at e
        exact .inl e.symm
      · rw [if_neg h] at hi
        simp only [upd] at e
        rw [if_neg (by rw [← hL]; exact h)] at e
        exact .inr (.inr ⟨i, hi, e⟩)
  have hS : Chg (fun b => b = b0 ∧ b0 < w.heap.size) w w' := hc.mono fun k hk e => ⟨e, e ▸ hk⟩
  have havb0 : b0 < w.heap.size → Av O ρ B L b0 := by
    intro h
    rcases hb0 with h' | ⟨i, hi, e, _⟩
    · omega
    · exact .inr ⟨i, hi, e⟩
  have hrd : ∀ {v x}, Rd w (Av O ρ B L) v x → Rd w' (Av O (upd ρ (.l L.length) (b0, cap)) B1 (L1 ++ [.own sz xs])) v x := fun h =>
    Rd.mono hS (fun b ⟨e, hb⟩ => e ▸ havb0 hb) (fun b hb h' => by
      rcases hav b h' with rfl | h'
      · exact havb0 hb
      · exact hwk.av h') h
  have hup : ∀ i, i ≠ .l L.length → upd ρ (.l L.length) (b0, cap) i = ρ i := fun i h => by simp [upd, h]
  refine ⟨hc.mono fun k hk e => ?_, ⟨?_, ?_, fun b hb => Nat.lt_of_lt_of_le (hh.oLt b hb) hc.size, ?_, ?_⟩, fun id hv => hup id fun e => ?_, fun b hb h' => ?_, hB, by simp; omega⟩
  · rcases hb0 with h' | ⟨i, hi, e', _⟩
    · omega
    · exact ⟨i, hi, e'.trans e.symm⟩
  · intro i j hi hj e
    rw [ent_push] at hi hj
    by_cases h1 : i = .l L1.length
    · by_cases h2 : j = .l L1.length
      · rw [h1, h2]
      · rw [if_neg h2] at hj
        rw [h1, hL] at e
        rw [hup j (by rw [← hL]; exact h2)] at e
        simp [upd] at e
        exact absurd e.symm (hne j hj)
    · rw [if_neg h1] at hi
      rw [hup i (by rw [← hL]; exact h1)] at e
      by_cases h2 : j = .l L1.length
      · rw [h2, hL] at e
        simp [upd] at e
        exact absurd e (hne i hi)
      · rw [if_neg h2] at hj
        rw [hup j (by rw [← hL]; exact h2)] at e
        exact hh.inj i j (hwk.own hi).2 (hwk.own hj).2 e
  · intro i hi
    rw [ent_push] at hi
    by_cases h1 : i = .l L1.length
    · rw [h1, hL]; simp [upd]; exact hnO
    · rw [if_neg h1] at hi
      rw [hup i (by rw [← hL]; exact h1)]
      exact hh.notO i (hwk.own hi).2
  · intro i sz' xs' he
    rw [ent_push] at he
    by_cases h1 : i = .l L1.length
    · rw [if_pos h1] at he
      injection he with e1 e2; subst e1; subst e2
      rw [h1, hL]
      simp only [upd, if_true]
      refine ⟨hz, hw, hcap, hm, cur, t, hcell, hsz, fun j x hx => ?_⟩
      obtain ⟨v, hv, hr'⟩ := hr j x hx
      exact ⟨v, hv, hrd hr'⟩
    · rw [if_neg h1] at he
      rw [hup i (by rw [← hL]; exact h1)]
      have ho : (ent B1 L1 i).isOwn = true := by rw [he]; rfl
      obtain ⟨k1, k2, k3, k4, cur', t', k5, k6, k7⟩ := hh.own i sz' xs' ((hwk.own ho).1 ▸ he)
      refine ⟨k1, k2, k3, k4, cur', t', ?_, k6, fun j x hx => ?_⟩
      · rw [hc.block _ (Array.getElem?_eq_some_iff.1 k5).1 (hne i ho)]; exact k5
      · obtain ⟨v, hv, hr'⟩ := k7 j x hx
        exact ⟨v, hv, hrd hr'⟩
  · intro i sz' xs' he
    rw [ent_push] at he
    by_cases h1 : i = .l L1.length
    · rw [if_pos h1] at he; cases he
    · rw [if_neg h1] at he
      rw [hup i (by rw [← hL]; exact h1)]
      obtain ⟨k1, k2, k3, k4, k5⟩ := (hh.weaken hwk).frz i sz' xs' he
      have hnb : (ρ i).1 ≠ b0 := by
        intro e
        rcases hb0 with h' | ⟨k, hk, e', hd⟩
        · omega
        · -- the block of an own row is no frozen one
          rcases hwk i with e2 | e2 | e2
          · obtain ⟨_, _, q3, _⟩ := hh.frz i sz' xs' (e2 ▸ he)
            exact q3 (.inr ⟨k, hk, by rw [e', e]⟩)
          · cases h0 : ent B L i with
            | dead => rw [e2, h0] at he; cases he
            | frz s y =>
              obtain ⟨_, _, q3, _⟩ := hh.frz i _ _ h0
              exact q3 (.inr ⟨k, hk, by rw [e', e]⟩)
            | own s y =>
              have := hh.inj i k (by rw [h0]; rfl) hk (by rw [e', e])
              subst this
              rw [hd] at he; cases he
          · rw [e2] at he; cases he
      refine ⟨k1, k2, fun hA => ?_, Nat.lt_of_lt_of_le k4 hc.size, fun j x hx => ?_⟩
      · rcases hav _ hA with e | hA
        · exact hnb e
        · exact k3 hA
      · -- read in the old world
        have key : ∃ v, w.cell? ⟨(ρ i).1, j, none⟩ = some v ∧ Rd w (Av O ρ B L) v x := by
          rcases hwk i with e2 | e2 | e2
          · obtain ⟨_, _, _, _, q5⟩ := hh.frz i sz' xs' (e2 ▸ he)
            exact q5 j x hx
          · cases h0 : ent B L i with
            | dead => rw [e2, h0] at he; cases he
            | frz s y =>
              rw [e2, h0] at he
              simp only [Ent.fz] at he
              injection he with e1 e3; subst e1; subst e3
              exact (entRd hh (.inr h0)).2.2 j x hx
            | own s y =>
              rw [e2, h0] at he
              simp only [Ent.fz] at he
              injection he with e1 e3; subst e1; subst e3
              exact (entRd hh (.inl h0)).2.2 j x hx
          · rw [e2] at he; cases he
        obtain ⟨v, hv, hr'⟩ := key
        exact ⟨v, hc.cell hnb hv, hrd hr'⟩
  · subst e
    simp [Id.valid] at hv
  · rcases hav b h' with rfl | h'
    · exact havb0 hb
    · exact hwk.av h'
end
end Go.Ab
