/- A part of the proof: an evaluator of programs, its soundness, and what it says of the functions in hand. It holds without further conditions. -/
import Derived.Test.YtpfbgpclhkjgaaaGreatAb9
set_option linter.unusedVariables false
set_option linter.unusedSimpArgs false
namespace Go.Ab

theorem splice_list {α : Type} (A C Y D : List α) (c : Nat) (h : c + Y.length ≤ C.length) :
    A ++ (C.take c ++ Y ++ C.drop (c + Y.length)) ++ D = (A ++ C ++ D).take (A.length + c) ++ Y ++ (A ++ C ++ D).drop (A.length + c + Y.length) := by
  have e1 : (A ++ C ++ D).take (A.length + c) = A ++ C.take c := by
    rw [List.append_assoc, List.take_append, List.take_of_length_le (by omega), show A.length + c - A.length = c from by omega, List.take_append_of_le_length (by omega)]
  have e2 : (A ++ C ++ D).drop (A.length + c + Y.length) = C.drop (c + Y.length) ++ D := by
    rw [List.append_assoc, List.drop_append, List.drop_eq_nil_of_le (by omega), show A.length + c + Y.length - A.length = c + Y.length from by omega, List.drop_append_of_le_length (by omega)]
    simp
  rw [e1, e2]
  simp [List.append_assoc]

theorem agg_cells (cs : List FV) : (FV.agg cs).cells = cs := rfl

theorem stElem_cells {c : Nat} {e y e' : FV} (h : stElem c e y = some e') (hy : okPart y = true) (he : okPart e = true) (h1 : ∀ z ∈ e.cells, z.one = true) (h2 : ∀ z ∈ y.cells, z.one = true) :
    c + y.cells.length ≤ e.cells.length ∧ e'.cells = e.cells.take c ++ y.cells ++ e.cells.drop (c + y.cells.length) ∧ e'.cells.length = e.cells.length ∧ (∀ z ∈ e'.cells, z.one = true) ∧ okPart e' = true := by
  unfold stElem at h
  split at h
  · rename_i cs
    split at h
    · rename_i hl
      injection h with h; subst h
      simp only [agg_cells] at h1 ⊢
      refine ⟨hl, trivial, by simp; omega, fun z hz => ?_, rfl⟩
      simp only [List.mem_append] at hz
      rcases hz with (hz | hz) | hz
      · exact h1 z (List.mem_of_mem_take hz)
      · exact h2 z hz
      · exact h1 z (List.mem_of_mem_drop hz)
    · cases h
  · rename_i hna
    split at h
    · rename_i hc
      obtain ⟨rfl, ho⟩ := hc
      injection h with h; subst h
      have hyc : y.cells = [y] := by cases y <;> first | rfl | (simp [FV.one] at ho)
      have hec : e.cells = [e] := by cases e <;> first | rfl | (exact absurd rfl (hna _))
      rw [hyc, hec]
      refine ⟨by simp, by simp, by simp, by simpa using ho, hy⟩
    · cases h

section
variable {P : Program} {w w' : World} {O : Nat → Prop} {ρ : Rho} {B L : List Ent}

theorem ent_setE (id : Id) (e : Ent) (B L : List Ent) (hv : id.valid B L) (i : Id) : ent (setE id e B L).1 (setE id e B L).2 i = if i = id then e else ent B L i := by
  cases id with
  | b k => cases i with
    | b j =>
      simp only [setE, ent, List.getD_eq_getElem?_getD, List.getElem?_set, Id.b.injEq]
      simp only [Id.valid] at hv
      by_cases h : k = j
      · subst h; simp [hv]
      · rw [if_neg h, if_neg (fun e => h e.symm)]
    | l j => simp [setE, ent]
  | l k => cases i with
    | b j => simp [setE, ent]
    | l j =>
      simp only [setE, ent, List.getD_eq_getElem?_getD, List.getElem?_set, Id.l.injEq]
      simp only [Id.valid] at hv
      by_cases h : k = j
      · subst h; simp [hv]
      · rw [if_neg h, if_neg (fun e => h e.symm)]

theorem setE_length (id : Id) (e : Ent) (B L : List Ent) : (setE id e B L).1.length = B.length ∧ (setE id e B L).2.length = L.length := by
  cases id <;> simp [setE]

theorem own_valid {id : Id} (h : (ent B L id).isOwn = true) : id.valid B L := by
  cases id with
  | b i =>
    simp only [Id.valid]
    rcases Nat.lt_or_ge i B.length with h' | h'
    · exact h'
    · simp [ent, List.getD_eq_getElem?_getD, List.getElem?_eq_none h', Ent.isOwn] at h
  | l i =>
    simp only [Id.valid]
    rcases Nat.lt_or_ge i L.length with h' | h'
    · exact h'
    · simp [ent, List.getD_eq_getElem?_getD, List.getElem?_eq_none h', Ent.isOwn] at h

theorem cells_ok {e : FV} (h1 : ∀ z ∈ e.cells, z.one = true) : okPart e = true := by
  cases e <;> first | rfl | (have := h1 _ (List.mem_singleton.2 rfl); simp [FV.one] at this)

/-- A part of an own element is written. -/
theorem Ext.store (hh : Heap w O ρ B L) {id : Id} {sz i c n : Nat} {xs : List FV} {e y e' : FV} {v : Value} {t : TypeId} (he : ent B L id = .own sz xs) (hi : xs[i]? = some e) (hs : stElem c e y = some e')
    (hy : Rd w (Av O ρ B L) v y) (hok : okPart y = true) (hn : szOf P t = some n) (hyn : y.cells.length = n) :
    ∃ w', (storeVar t ⟨(ρ id).1, i * sz + c, none⟩ v).run P w = .ok () w' ∧ Ext w O ρ B L w' ρ (setE id (.own sz (xs.set i e')) B L).1 (setE id (.own sz (xs.set i e')) B L).2 := by
  obtain ⟨h1, h2, h3, h4, cur, t', h5, h6, h7⟩ := hh.own _ _ _ he
  have hiOwn : (ent B L id).isOwn = true := by rw [he]; rfl
  have hv := own_valid hiOwn
  have hilt : i < xs.length := (List.getElem?_eq_some_iff.1 hi).1
  have hem := h2 e (List.mem_of_getElem? hi)
  have hyc := Rd.cellsRel hy hok
  obtain ⟨s1, s2, s3, s4, s5⟩ := stElem_cells hs hok (cells_ok hem.2) hem.2 hyc.2.1
  have hw1 : ∀ x ∈ xs, x.cells.length = sz := fun x hx => (h2 x hx).1
  have hfl : (flat xs).length = xs.length * sz := flat_length _ hw1
  have hle : i * sz + sz ≤ xs.length * sz := by rw [← Nat.succ_mul]; exact Nat.mul_le_mul_right _ hilt
  have hle2 : xs.length * sz ≤ cur.size := by rw [h6]; exact Nat.mul_le_mul_right _ h3
  have hflat : flat (xs.set i e') = (flat xs).take (i * sz + c) ++ y.cells ++ (flat xs).drop (i * sz + c + y.cells.length) := by
    have e0 : flat xs = (flat xs).take (i * sz) ++ e.cells ++ (flat xs).drop (i * sz + sz) := by
      have := flat_set xs i e hw1 hilt hem.1
      have e2 : xs.set i e = xs := by
        apply List.ext_getElem?
        intro j
        rw [List.getElem?_set]
        by_cases h : i = j
        · subst h; rw [if_pos rfl, if_pos hilt, hi]
        · rw [if_neg h]
      rw [e2] at this
      exact this
    have hA : ((flat xs).take (i * sz)).length = i * sz := by simp; omega
    rw [flat_set xs i e' hw1 hilt (by rw [s3]; exact hem.1), s2, splice_list _ _ _ _ c s1, hA, ← e0]
  have hvs : v.cells.toList.length = y.cells.length := by rw [Array.length_toList]; exact hyc.1
  have hone : ∀ u ∈ v.cells.toList, u.oneCell' = true := by
    intro u hu
    obtain ⟨j, hj⟩ := List.mem_iff_getElem?.1 hu
    have hjl : j < y.cells.length := by have := (List.getElem?_eq_some_iff.1 hj).1; omega
    have hr := hyc.2.2 j u _ (by simpa [At] using hj) (List.getElem?_eq_getElem hjl)
    exact Rd.one hr (hyc.2.1 _ (List.getElem_mem hjl))
  have hst := run_storeCells_at P (ρ id).1 (i * sz + c) t' v.cells.toList 0 cur w h5 (by rw [hvs]; have := hem.1; omega) hone
  simp only [Nat.add_zero, hvs] at hst
  refine ⟨w.setRow (ρ id).1 (List.take (i * sz + c) cur.toList ++ v.cells.toList ++ List.drop (i * sz + c + y.cells.length) cur.toList).toArray, ?_, ?_⟩
  · unfold storeVar
    simp only [Sem.run_bind, run_sizeOf hn, Result.andThen_ok]
    rw [if_neg (by rw [hyc.1, hyn]; simp), hst]
  · generalize hcur' : (List.take (i * sz + c) cur.toList ++ v.cells.toList ++ List.drop (i * sz + c + y.cells.length) cur.toList).toArray = cur'
    have hcs : cur'.size = cur.size := by rw [← hcur']; simp; have := hem.1; have := hyc.1; omega
    have hcg : Chg (fun b => b = (ρ id).1) w (w.setRow (ρ id).1 cur') := Chg.setRow w _ _
    obtain ⟨hl1, hl2⟩ := setE_length id (.own sz (xs.set i e')) B L
    have hent := ent_setE id (.own sz (xs.set i e')) B L hv
    have hown : ∀ k, (ent (setE id (.own sz (xs.set i e')) B L).1 (setE id (.own sz (xs.set i e')) B L).2 k).isOwn = (ent B L k).isOwn := by
      intro k; rw [hent]; split
      · rename_i h; subst h; rw [hiOwn]; rfl
      · rfl
    have hav : ∀ b, Av O ρ (setE id (.own sz (xs.set i e')) B L).1 (setE id (.own sz (xs.set i e')) B L).2 b ↔ Av O ρ B L b := by
      intro b; simp only [Av, hown]
    have hrd : ∀ {v x}, Rd w (Av O ρ B L) v x → Rd (w.setRow (ρ id).1 cur') (Av O ρ (setE id (.own sz (xs.set i e')) B L).1 (setE id (.own sz (xs.set i e')) B L).2) v x := fun h =>
      Rd.mono hcg (fun b e => .inr ⟨id, hiOwn, e.symm⟩) (fun b _ h' => (hav b).1 h') h
    refine ⟨hcg.mono fun k _ e => ⟨id, hiOwn, e.symm⟩, ⟨?_, ?_, fun b hb => by have := hh.oLt b hb; simpa using this, ?_, ?_⟩, fun _ _ => rfl, fun b _ h' => (hav b).1 h', hl1, by omega⟩
    · intro a b ha hb e; exact hh.inj a b (by rw [← hown]; exact ha) (by rw [← hown]; exact hb) e
    · intro a ha; exact hh.notO a (by rw [← hown]; exact ha)
    · intro k sz' xs' hk
      rw [hent] at hk
      by_cases hki : k = id
      · subst hki
        rw [if_pos rfl] at hk
        injection hk with e1 e2; subst e1; subst e2
        refine ⟨h1, fun x hx => ?_, by simpa using h3, h4, cur', t', setRow_heap w _ cur _ t' _ h5, by rw [hcs]; exact h6, fun j x hx => ?_⟩
        · rcases List.mem_or_eq_of_mem_set hx with hx | rfl
          · exact h2 x hx
          · exact ⟨by rw [s3]; exact hem.1, s4⟩
        · rw [hflat] at hx
          have hcurl : cur.toList.length = cur.size := Array.length_toList
          have hAt : At cur' j = (List.take (i * sz + c) cur.toList ++ v.cells.toList ++ List.drop (i * sz + c + y.cells.length) cur.toList)[j]? := by rw [← hcur']; simp [At]
          rw [hAt]
          have hL1 : (List.take (i * sz + c) (flat xs)).length = i * sz + c := by simp; have := hem.1; omega
          have hL2 : (List.take (i * sz + c) cur.toList).length = i * sz + c := by simp; have := hem.1; omega
          by_cases hj1 : j < i * sz + c
          · rw [List.append_assoc, List.getElem?_append_left (by omega)] at hx ⊢
            rw [List.getElem?_take_of_lt hj1] at hx ⊢
            obtain ⟨u, hu, hr⟩ := h7 j x hx
            exact ⟨u, by simpa [At] using hu, hrd hr⟩
          · by_cases hj2 : j < i * sz + c + y.cells.length
            · rw [List.append_assoc, List.getElem?_append_right (by omega)] at hx ⊢
              rw [List.getElem?_append_left (by omega)] at hx ⊢
              rw [hL1] at hx; rw [hL2]
              have hjl : j - (i * sz + c) < v.cells.toList.length := by omega
              refine ⟨_, List.getElem?_eq_getElem hjl, hrd (hyc.2.2 (j - (i * sz + c)) _ x ?_ hx)⟩
              have hjl' : j - (i * sz + c) < v.cells.size := by rw [Array.length_toList] at hjl; exact hjl
              simp [At, hjl']
            · rw [List.getElem?_append_right (by simp only [List.length_append, hL1, hL2, hvs]; omega)] at hx ⊢
              rw [List.getElem?_drop] at hx ⊢
              simp only [List.length_append, hL1, hL2, hvs] at hx ⊢
              rw [show i * sz + c + y.cells.length + (j - (i * sz + c + y.cells.length)) = j from by omega] at hx ⊢
              obtain ⟨u, hu, hr⟩ := h7 j x hx
              exact ⟨u, by simpa [At] using hu, hrd hr⟩
      · rw [if_neg hki] at hk
        obtain ⟨k1, k2, k3, k4, cur2, t2, k5, k6, k7⟩ := hh.own _ _ _ hk
        refine ⟨k1, k2, k3, k4, cur2, t2, ?_, k6, fun j x hx => ?_⟩
        · rw [setRow_other]
          · exact k5
          · intro e; exact hki (hh.inj k id (by rw [hk]; rfl) hiOwn e)
        · obtain ⟨u, hu, hr⟩ := k7 j x hx; exact ⟨u, hu, hrd hr⟩
    · intro k sz' xs' hk
      rw [hent] at hk
      by_cases hki : k = id
      · rw [if_pos hki] at hk; cases hk
      · rw [if_neg hki] at hk
        obtain ⟨k1, k2, k3, k4, k5⟩ := hh.frz _ _ _ hk
        refine ⟨k1, k2, fun h' => k3 ((hav _).1 h'), by simpa using k4, fun j x hx => ?_⟩
        obtain ⟨u, hu, hr⟩ := k5 j x hx
        exact ⟨u, hcg.cell (fun e => k3 (.inr ⟨id, hiOwn, e.symm⟩)) hu, hrd hr⟩
end
end Go.Ab
