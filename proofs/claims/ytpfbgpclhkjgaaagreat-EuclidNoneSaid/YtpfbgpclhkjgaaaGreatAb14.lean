/- A part of the proof: an evaluator of programs, its soundness, and what it says of the functions in hand. It holds without further conditions. -/
import Derived.Test.YtpfbgpclhkjgaaaGreatAb13
set_option linter.unusedVariables false
set_option linter.unusedSimpArgs false
namespace Go.Ab

/-! ### More is known of the arena: the same is read -/
def Less (B L B2 L2 : List Ent) : Prop := ∀ id, ent B L id ≠ .dead → ent B2 L2 id = ent B L id

section
variable {B L B2 L2 : List Ent}

theorem Less.eq (h : Less B L B2 L2) {id : Id} {e : Ent} (he : ent B L id = e) (hd : e ≠ .dead) : ent B2 L2 id = e := by
  rw [h id (by rw [he]; exact hd), he]

theorem capFV_mono (h : Less B L B2 L2) {c : Cap} {x : FV} (hc : capFV B L c = some x) : capFV B2 L2 c = some x := by
  cases c with
  | fz y => exact hc
  | own id sz =>
    simp only [capFV] at hc ⊢
    cases he : ent B L id with
    | dead => rw [he] at hc; cases hc
    | own s y => rw [he] at hc; cases hc
    | frz s y => rw [he] at hc; rw [h.eq he (by simp)]; exact hc

theorem capsFV_mono (h : Less B L B2 L2) : ∀ {cs : List Cap} {xs : List FV}, capsFV B L cs = some xs → capsFV B2 L2 cs = some xs
  | [], xs, hc => hc
  | c :: cs, xs, hc => by
    simp only [capsFV, Option.bind_eq_some_iff, Option.map_eq_some_iff] at hc ⊢
    obtain ⟨x, hx, ys, hy, rfl⟩ := hc
    exact ⟨x, capFV_mono h hx, ys, capsFV_mono h hy, rfl⟩

theorem toFV_mono (h : Less B L B2 L2) {s : SV} {x : FV} (hs : toFV B L s = some x) : toFV B2 L2 s = some x := by
  cases s with
  | unk => exact hs
  | fv y => exact hs
  | ref id sz off len ap =>
    simp only [toFV] at hs ⊢
    cases he : ent B L id with
    | dead => rw [he] at hs; cases hs
    | own s y => rw [he] at hs; cases hs
    | frz s y => rw [he] at hs; rw [h.eq he (by simp)]; exact hs
  | ptr id sz i c =>
    simp only [toFV] at hs ⊢
    cases he : ent B L id with
    | dead => rw [he] at hs; cases hs
    | own s y => rw [he] at hs; cases hs
    | frz s y => rw [he] at hs; rw [h.eq he (by simp)]; exact hs
  | clo f nf caps =>
    simp only [toFV, Option.map_eq_some_iff] at hs ⊢
    obtain ⟨xs, hx, rfl⟩ := hs
    exact ⟨xs, capsFV_mono h hx, rfl⟩
end

/-! ### Calls that are handed what is own -/
theorem mem_dedup : ∀ (l : List Id) (i : Id), i ∈ dedup l ↔ i ∈ l
  | [], i => by simp [dedup]
  | a :: l, i => by
    have ih := mem_dedup l
    simp only [dedup]
    split
    · rename_i h
      rw [ih i]
      constructor
      · exact fun h' => List.mem_cons_of_mem _ h'
      · intro h'
        rcases List.mem_cons.1 h' with rfl | h'
        · exact (ih i).1 h
        · exact h'
    · simp [ih i]

theorem nodup_dedup : ∀ (l : List Id), (dedup l).Nodup
  | [] => List.nodup_nil
  | a :: l => by
    simp only [dedup]
    split
    · exact nodup_dedup l
    · rename_i h
      exact List.nodup_cons.2 ⟨h, nodup_dedup l⟩

section
variable {P : Program} {w w' : World} {O : Nat → Prop} {ρ : Rho} {B L : List Ent}

/-- The callers' blocks, as a callee that is handed 'sel' has them. -/
def OutO (O : Nat → Prop) (ρ : Rho) (B L : List Ent) (sel : List Id) (b : Nat) : Prop := O b ∨ ∃ i, (ent B L i).isOwn = true ∧ i ∉ sel ∧ (ρ i).1 = b
def subR (ρ : Rho) (sel : List Id) : Rho
  | .b j => ρ (sel.getD j (.b 0))
  | .l _ => (0, 0)

theorem nodup_idx {sel : List Id} (hn : sel.Nodup) {a b : Nat} {k : Id} (ha : sel[a]? = some k) (hb : sel[b]? = some k) : a = b :=
  (List.getElem?_inj (List.getElem?_eq_some_iff.1 ha).1 hn).1 (ha.trans hb.symm)

theorem ent_sub (sel : List Id) (i : Id) : ent (sel.map (ent B L)) [] i = match i with | .b j => (match sel[j]? with | some k => ent B L k | none => .dead) | .l _ => .dead := by
  cases i with
  | b j => simp only [ent, List.getD_eq_getElem?_getD, List.getElem?_map]; cases sel[j]? <;> rfl
  | l j => simp [ent]

theorem sub_own {sel : List Id} {i : Id} (h : (ent (sel.map (ent B L)) [] i).isOwn = true) : ∃ j k, i = .b j ∧ sel[j]? = some k ∧ (ent B L k).isOwn = true ∧ subR ρ sel i = ρ k := by
  rw [ent_sub] at h
  cases i with
  | b j =>
    simp only at h
    cases hk : sel[j]? with
    | none => rw [hk] at h; simp [Ent.isOwn] at h
    | some k => rw [hk] at h; exact ⟨j, k, rfl, hk, h, by simp [subR, List.getD_eq_getElem?_getD, hk]⟩
  | l j => simp [Ent.isOwn] at h

theorem av_sub {sel : List Id} (b : Nat) : Av (OutO O ρ B L sel) (subR ρ sel) (sel.map (ent B L)) [] b ↔ Av O ρ B L b := by
  constructor
  · rintro ((h | ⟨i, hi, _, e⟩) | ⟨i, hi, e⟩)
    · exact .inl h
    · exact .inr ⟨i, hi, e⟩
    · obtain ⟨j, k, rfl, hk, ho, hr⟩ := sub_own (ρ := ρ) hi
      exact .inr ⟨k, ho, by rw [← hr]; exact e⟩
  · rintro (h | ⟨i, hi, e⟩)
    · exact .inl (.inl h)
    · by_cases hs : i ∈ sel
      · obtain ⟨j, hj⟩ := List.mem_iff_getElem?.1 hs
        refine .inr ⟨.b j, ?_, ?_⟩
        · rw [ent_sub]; simp only [hj]; exact hi
        · simp [subR, List.getD_eq_getElem?_getD, hj, e]
      · exact .inl (.inr ⟨i, hi, hs, e⟩)

theorem heap_sub (hh : Heap w O ρ B L) {sel : List Id} (hn : sel.Nodup) : Heap w (OutO O ρ B L sel) (subR ρ sel) (sel.map (ent B L)) [] := by
  refine ⟨?_, ?_, ?_, ?_, ?_⟩
  · intro i j hi hj e
    obtain ⟨a, k, rfl, hk, ho, hr⟩ := sub_own (ρ := ρ) hi
    obtain ⟨a', k', rfl, hk', ho', hr'⟩ := sub_own (ρ := ρ) hj
    rw [hr, hr'] at e
    have := hh.inj k k' ho ho' e
    subst this
    rw [nodup_idx hn hk hk']
  · intro i hi
    obtain ⟨a, k, rfl, hk, ho, hr⟩ := sub_own (ρ := ρ) hi
    rw [hr]
    rintro (h | ⟨i', hi', hs, e⟩)
    · exact hh.notO k ho h
    · have := hh.inj i' k hi' ho e
      subst this
      exact hs (List.mem_of_getElem? hk)
  · rintro b (h | ⟨i, hi, _, rfl⟩)
    · exact hh.oLt b h
    · exact hh.avLt _ (.inr ⟨i, hi, rfl⟩)
  · intro i sz xs he
    have ho : (ent (sel.map (ent B L)) [] i).isOwn = true := by rw [he]; rfl
    obtain ⟨a, k, rfl, hk, _, hr⟩ := sub_own (ρ := ρ) ho
    rw [ent_sub] at he
    simp only [hk] at he
    rw [hr]
    obtain ⟨h1, h2, h3, h4, cur, t, h5, h6, h7⟩ := hh.own k sz xs he
    refine ⟨h1, h2, h3, h4, cur, t, h5, h6, fun j x hx => ?_⟩
    obtain ⟨v, hv, hrd⟩ := h7 j x hx
    exact ⟨v, hv, Rd.congrA (fun b h => (av_sub b).1 h) hrd⟩
  · intro i sz xs he
    rw [ent_sub] at he
    cases i with
    | l j => cases he
    | b j =>
      simp only at he
      cases hk : sel[j]? with
      | none => rw [hk] at he; cases he
      | some k =>
        rw [hk] at he
        simp only at he
        obtain ⟨h1, h2, h3, h4, h5⟩ := hh.frz k sz xs he
        have hr : subR ρ sel (.b j) = ρ k := by simp [subR, List.getD_eq_getElem?_getD, hk]
        rw [hr]
        refine ⟨h1, h2, fun h => h3 ((av_sub _).1 h), h4, fun j x hx => ?_⟩
        obtain ⟨v, hv, hrd⟩ := h5 j x hx
        exact ⟨v, hv, Rd.congrA (fun b h => (av_sub b).1 h) hrd⟩

theorem idxOf_get {sel : List Id} {i : Id} (h : i ∈ sel) : sel[sel.idxOf i]? = some i ∧ sel.idxOf i < sel.length := by
  have hl := List.idxOf_lt_length_iff.2 h
  exact ⟨by rw [List.getElem?_eq_getElem hl]; simp, hl⟩

theorem sub_rho {sel : List Id} {i : Id} (h : i ∈ sel) : subR ρ sel (downTo sel i) = ρ i ∧ (downTo sel i).valid (sel.map (ent B L)) [] := by
  obtain ⟨h1, h2⟩ := idxOf_get h
  refine ⟨?_, by simpa [downTo, Id.valid] using h2⟩
  simp only [downTo, subR, List.getD_eq_getElem?_getD, h1]
  rfl

theorem sv_down {sel : List Id} {v : Value} {s : SV} (hr : SvRel w (Av O ρ B L) ρ B L v s) (hs : ∀ i ∈ s.ids, i ∈ sel) :
    SvRel w (Av (OutO O ρ B L sel) (subR ρ sel) (sel.map (ent B L)) []) (subR ρ sel) (sel.map (ent B L)) [] v (s.ren (downTo sel)) := by
  have hrd : ∀ {v x}, Rd w (Av O ρ B L) v x → Rd w (Av (OutO O ρ B L sel) (subR ρ sel) (sel.map (ent B L)) []) v x := fun h => Rd.congrA (fun b h => (av_sub b).1 h) h
  cases s with
  | unk => trivial
  | fv x => exact hrd hr
  | ref id sz off len ap =>
    obtain ⟨h1, h2⟩ := sub_rho (ρ := ρ) (B := B) (L := L) (hs id (by simp [SV.ids]))
    refine ⟨h2, ?_⟩
    rw [h1]; exact hr.2
  | ptr id sz i c =>
    obtain ⟨h1, h2⟩ := sub_rho (ρ := ρ) (B := B) (L := L) (hs id (by simp [SV.ids]))
    refine ⟨h2, ?_⟩
    rw [h1]; exact hr.2
  | clo f nf caps =>
    obtain ⟨fs, cs, e, h1, h2, h4⟩ := hr
    refine ⟨fs, cs, e, h1, by simpa using h2, fun j u x hu hx => ?_⟩
    simp only [List.getElem?_map, Option.map_eq_some_iff] at hx
    obtain ⟨c, hc, rfl⟩ := hx
    have := h4 j u c hu hc
    cases c with
    | fz y => exact hrd this
    | own id sz =>
      obtain ⟨k1, k2⟩ := sub_rho (ρ := ρ) (B := B) (L := L) (hs id (by
        simp only [SV.ids, List.mem_flatMap]
        exact ⟨_, List.mem_of_getElem? hc, by simp [Cap.ids]⟩))
      exact ⟨k2, by rw [k1]; exact this.2⟩

theorem writeBack_ent : ∀ (sel : List Id) (es : List Ent) (B L : List Ent), sel.Nodup → es.length = sel.length → (∀ i ∈ sel, i.valid B L) →
    (writeBack sel es B L).1.length = B.length ∧ (writeBack sel es B L).2.length = L.length ∧
    (∀ (j : Nat) (k : Id), sel[j]? = some k → ent (writeBack sel es B L).1 (writeBack sel es B L).2 k = es.getD j .dead) ∧ ∀ i, i ∉ sel → ent (writeBack sel es B L).1 (writeBack sel es B L).2 i = ent B L i
  | [], es, B, L, hn, hl, hv => by cases es <;> simp [writeBack]
  | k :: sel, [], B, L, hn, hl, hv => by simp at hl
  | k :: sel, e :: es, B, L, hn, hl, hv => by
    obtain ⟨hk, hn'⟩ := List.nodup_cons.1 hn
    obtain ⟨l1, l2⟩ := setE_length k e B L
    obtain ⟨h1, h2, h3, h4⟩ := writeBack_ent sel es (setE k e B L).1 (setE k e B L).2 hn' (by simpa using hl) (fun i hi => by
      have := hv i (List.mem_cons_of_mem _ hi)
      cases i <;> simp only [Id.valid] at this ⊢ <;> omega)
    simp only [writeBack]
    refine ⟨h1.trans l1, h2.trans l2, fun j i hj => ?_, fun i hi => ?_⟩
    · match j with
      | 0 =>
        simp at hj; subst hj
        rw [h4 k hk, ent_setE k e B L (hv k (by simp))]
        simp
      | j + 1 =>
        rw [h3 j i (by simpa using hj)]
        simp
    · have hik : i ≠ k := fun e => hi (by simp [e])
      rw [h4 i (fun h => hi (List.mem_cons_of_mem _ h)), ent_setE k e B L (hv k (by simp)), if_neg hik]

/-- Where things lie behind a call. -/
def upR (ρ ρ' : Rho) (n : Nat) : Rho
  | .b i => ρ (.b i)
  | .l i => if i < n then ρ (.l i) else ρ' (.l (i - n))

theorem upR_old {ρ' : Rho} {i : Id} (h : i.valid B L) : upR ρ ρ' L.length i = ρ i := by
  cases i with
  | b i => rfl
  | l i => simp only [Id.valid] at h; simp [upR, h]

theorem ent_app (B1 L1 L' : List Ent) (i : Id) : ent B1 (L1 ++ L') i = match i with | .b j => ent B1 L1 (.b j) | .l j => if j < L1.length then ent B1 L1 (.l j) else ent [] L' (.l (j - L1.length)) := by
  cases i with
  | b j => rfl
  | l j =>
    simp only [ent, List.getD_eq_getElem?_getD]
    split
    · rename_i h; rw [List.getElem?_append_left h]
    · rename_i h; rw [List.getElem?_append_right (by omega)]

/-- The whole arena behind a call that was handed 'sel'. -/
theorem back_ext (hh : Heap w O ρ B L) {sel : List Id} (hn : sel.Nodup) (hv : ∀ i ∈ sel, i.valid B L) {ρ' : Rho} {B' L' : List Ent}
    (hx : Ext w (OutO O ρ B L sel) (subR ρ sel) (sel.map (ent B L)) [] w' ρ' B' L') :
    Ext w O ρ B L w' (upR ρ ρ' L.length) (writeBack sel B' B L).1 ((writeBack sel B' B L).2 ++ L') ∧
    (∀ b, Av O (upR ρ ρ' L.length) (writeBack sel B' B L).1 ((writeBack sel B' B L).2 ++ L') b ↔ Av (OutO O ρ B L sel) ρ' B' L' b) := by
  have hBl : B'.length = sel.length := by simpa using hx.lenB
  obtain ⟨l1, l2, w1, w2⟩ := writeBack_ent sel B' B L hn hBl hv
  generalize hB1 : (writeBack sel B' B L).1 = B1 at *
  generalize hL1 : (writeBack sel B' B L).2 = L1 at *
  -- an entry of the whole: one of 'sel', an old one, or a new one
  have hrho : ∀ (j : Nat) (k : Id), sel[j]? = some k → ρ' (.b j) = ρ k := by
    intro j k hk
    have hj := (List.getElem?_eq_some_iff.1 hk).1
    rw [hx.rho (.b j) (by simpa [Id.valid] using hj)]
    simp [subR, List.getD_eq_getElem?_getD, hk]
  have cases3 : ∀ i, (∃ j, sel[j]? = some i ∧ ent B1 (L1 ++ L') i = ent B' L' (.b j) ∧ upR ρ ρ' L.length i = ρ' (.b j)) ∨
      (i ∉ sel ∧ i.valid B L ∧ ent B1 (L1 ++ L') i = ent B L i ∧ upR ρ ρ' L.length i = ρ i) ∨
      (∃ k, i = .l (L.length + k) ∧ ent B1 (L1 ++ L') i = ent B' L' (.l k) ∧ upR ρ ρ' L.length i = ρ' (.l k)) ∨
      (ent B1 (L1 ++ L') i = .dead ∧ ent B L i = .dead ∧ i ∉ sel) := by
    intro i
    by_cases hs : i ∈ sel
    · obtain ⟨j, hj⟩ := List.mem_iff_getElem?.1 hs
      refine .inl ⟨j, hj, ?_, by rw [upR_old (hv i hs), hrho j i hj]⟩
      have hiv := hv i hs
      have := w1 j i hj
      rw [ent_app]
      cases i with
      | b n => show ent B1 L1 (.b n) = ent B' L' (.b j); rw [this]; rfl
      | l n =>
        simp only [Id.valid] at hiv
        simp only
        rw [if_pos (by omega), this]; rfl
    · by_cases hiv : i.valid B L
      · refine .inr (.inl ⟨hs, hiv, ?_, upR_old hiv⟩)
        rw [ent_app]
        cases i with
        | b n => exact w2 _ hs
        | l n =>
          simp only [Id.valid] at hiv
          simp only
          rw [if_pos (by omega)]; exact w2 _ hs
      · cases i with
        | b n =>
          refine .inr (.inr (.inr ⟨?_, ?_, hs⟩))
          · rw [ent_app]
            simp only [Id.valid] at hiv
            simp [ent, List.getD_eq_getElem?_getD, List.getElem?_eq_none (show B1.length ≤ n by omega)]
          · simp only [Id.valid] at hiv
            simp [ent, List.getD_eq_getElem?_getD, List.getElem?_eq_none (show B.length ≤ n by omega)]
        | l n =>
          simp only [Id.valid] at hiv
          refine .inr (.inr (.inl ⟨n - L.length, by congr 1; omega, ?_, ?_⟩))
          · rw [ent_app]
            simp only
            rw [if_neg (by omega), l2]
            rfl
          · simp only [upR]; rw [if_neg (by omega)]
  have hav : ∀ b, Av O (upR ρ ρ' L.length) B1 (L1 ++ L') b ↔ Av (OutO O ρ B L sel) ρ' B' L' b := by
    intro b
    constructor
    · rintro (h | ⟨i, hi, e⟩)
      · exact .inl (.inl h)
      · rcases cases3 i with ⟨j, hj, h1, h2⟩ | ⟨h0, _, h1, h2⟩ | ⟨k, rfl, h1, h2⟩ | ⟨h1, _⟩
        · exact .inr ⟨.b j, by rw [← h1]; exact hi, by rw [← h2]; exact e⟩
        · exact .inl (.inr ⟨i, by rw [← h1]; exact hi, h0, by rw [← h2]; exact e⟩)
        · exact .inr ⟨.l k, by rw [← h1]; exact hi, by rw [← h2]; exact e⟩
        · rw [h1] at hi; simp [Ent.isOwn] at hi
    · rintro ((h | ⟨i, hi, hs, e⟩) | ⟨i, hi, e⟩)
      · exact .inl h
      · rcases cases3 i with ⟨j, hj, h1, h2⟩ | ⟨h0, _, h1, h2⟩ | ⟨k, rfl, h1, h2⟩ | ⟨h1, h3, _⟩
        · exact absurd (List.mem_of_getElem? hj) hs
        · exact .inr ⟨i, by rw [h1]; exact hi, by rw [h2]; exact e⟩
        · have := own_valid hi
          simp only [Id.valid] at this; omega
        · rw [h3] at hi; simp [Ent.isOwn] at hi
      · cases i with
        | b j =>
          have hj : j < sel.length := by have := own_valid hi; simp only [Id.valid] at this; omega
          have hk : sel[j]? = some sel[j] := List.getElem?_eq_getElem hj
          rcases cases3 sel[j] with ⟨j', hj', h1, h2⟩ | ⟨h0, _⟩ | ⟨k, hk', _⟩ | ⟨_, _, h0⟩
          · have : j' = j := nodup_idx hn hj' hk
            subst this
            exact .inr ⟨sel[j'], by rw [h1]; exact hi, by rw [h2]; exact e⟩
          · exact absurd (List.getElem_mem hj) h0
          · have := hv _ (List.getElem_mem hj)
            rw [hk'] at this
            simp only [Id.valid] at this; omega
          · exact absurd (List.getElem_mem hj) h0
        | l k =>
          rcases cases3 (.l (L.length + k)) with ⟨j', hj', _⟩ | ⟨_, h0, _⟩ | ⟨k', hk', h1, h2⟩ | ⟨h1, _⟩
          · have := hv _ (List.mem_of_getElem? hj')
            simp only [Id.valid] at this; omega
          · simp only [Id.valid] at h0; omega
          · injection hk' with hk'
            have : k' = k := by omega
            subst this
            exact .inr ⟨_, by rw [h1]; exact hi, by rw [h2]; exact e⟩
          · have : ent B1 (L1 ++ L') (.l (L.length + k)) = ent B' L' (.l k) := by
              rw [ent_app]; simp only; rw [if_neg (by omega), l2, Nat.add_sub_cancel_left]; rfl
            rw [← this, h1] at hi; simp [Ent.isOwn] at hi
  have hrd : ∀ {v x}, Rd w (Av O ρ B L) v x → Rd w' (Av O (upR ρ ρ' L.length) B1 (L1 ++ L')) v x := fun h =>
    Rd.congrA (fun b hb => (hav b).1 hb) (hx.rd (Rd.congrA (fun b hb => (av_sub b).1 hb) h))
  have hrd' : ∀ {v x}, Rd w' (Av (OutO O ρ B L sel) ρ' B' L') v x → Rd w' (Av O (upR ρ ρ' L.length) B1 (L1 ++ L')) v x := fun h => Rd.congrA (fun b hb => (hav b).1 hb) h
  have havOld : ∀ b, b < w.heap.size → Av O (upR ρ ρ' L.length) B1 (L1 ++ L') b → Av O ρ B L b := fun b hb h => (av_sub b).1 (hx.av b hb ((hav b).1 h))
  refine ⟨⟨hx.chg.mono fun k _ ⟨i, hi, e⟩ => ?_, ⟨?_, ?_, fun b hb => Nat.lt_of_lt_of_le (hh.oLt b hb) hx.chg.size, ?_, ?_⟩, fun id hid => upR_old hid, havOld, l1, by simp; omega⟩, hav⟩
  · obtain ⟨j, k', rfl, hk, ho, hr⟩ := sub_own (ρ := ρ) hi
    exact ⟨k', ho, by rw [← hr]; exact e⟩
  · intro i j hi hj e
    have key : ∀ i, (ent B1 (L1 ++ L') i).isOwn = true → (∃ c, (ent B' L' c).isOwn = true ∧ upR ρ ρ' L.length i = ρ' c ∧ ((∃ n, c = .b n ∧ sel[n]? = some i) ∨ ∃ k, c = .l k ∧ i = .l (L.length + k))) ∨ (i ∉ sel ∧ (ent B L i).isOwn = true ∧ upR ρ ρ' L.length i = ρ i) := by
      intro i hi
      rcases cases3 i with ⟨j, hj, h1, h2⟩ | ⟨h0, _, h1, h2⟩ | ⟨k, rfl, h1, h2⟩ | ⟨h1, _⟩
      · exact .inl ⟨.b j, by rw [← h1]; exact hi, h2, .inl ⟨j, rfl, hj⟩⟩
      · exact .inr ⟨h0, by rw [← h1]; exact hi, h2⟩
      · exact .inl ⟨.l k, by rw [← h1]; exact hi, h2, .inr ⟨k, rfl, rfl⟩⟩
      · rw [h1] at hi; simp [Ent.isOwn] at hi
    rcases key i hi with ⟨c, hc1, hc2, hc3⟩ | ⟨h0, h1, h2⟩
    · rcases key j hj with ⟨d, hd1, hd2, hd3⟩ | ⟨k0, k1, k2⟩
      · have hcd := hx.heap.inj c d hc1 hd1 (by rw [← hc2, ← hd2]; exact e)
        subst hcd
        rcases hc3 with ⟨n, rfl, hn1⟩ | ⟨n, rfl, rfl⟩
        · rcases hd3 with ⟨m, hm, hm1⟩ | ⟨m, hm, _⟩
          · injection hm with hm; subst hm; rw [hn1] at hm1; injection hm1
          · cases hm
        · rcases hd3 with ⟨m, hm, hm1⟩ | ⟨m, hm, rfl⟩
          · cases hm
          · injection hm with hm; rw [hm]
      · exfalso
        refine hx.heap.notO c hc1 (.inr ⟨j, k1, k0, ?_⟩)
        rw [← k2, ← hc2]; exact e.symm
    · rcases key j hj with ⟨d, hd1, hd2, hd3⟩ | ⟨k0, k1, k2⟩
      · exfalso
        refine hx.heap.notO d hd1 (.inr ⟨i, h1, h0, ?_⟩)
        rw [← h2, ← hd2]; exact e
      · exact hh.inj i j h1 k1 (by rw [← h2, ← k2]; exact e)
  · intro i hi
    rcases cases3 i with ⟨j, hj, h1, h2⟩ | ⟨h0, _, h1, h2⟩ | ⟨k, rfl, h1, h2⟩ | ⟨h1, _⟩
    · rw [h2]; intro ho; exact hx.heap.notO _ (by rw [← h1]; exact hi) (.inl ho)
    · rw [h2]; exact hh.notO i (by rw [← h1]; exact hi)
    · rw [h2]; intro ho; exact hx.heap.notO _ (by rw [← h1]; exact hi) (.inl ho)
    · rw [h1] at hi; simp [Ent.isOwn] at hi
  · intro i sz xs he
    have fromC : ∀ c, ent B' L' c = .own sz xs → upR ρ ρ' L.length i = ρ' c → 0 < sz ∧ (∀ x ∈ xs, x.cells.length = sz ∧ ∀ y ∈ x.cells, y.one = true) ∧ xs.length ≤ (upR ρ ρ' L.length i).2 ∧ (upR ρ ρ' L.length i).2 ≤ maxLen ∧
          ∃ cur t, w'.heap[(upR ρ ρ' L.length i).1]? = some (.cells cur t (0, 0)) ∧ cur.size = (upR ρ ρ' L.length i).2 * sz ∧
            ∀ j x, (flat xs)[j]? = some x → ∃ v, At cur j = some v ∧ Rd w' (Av O (upR ρ ρ' L.length) B1 (L1 ++ L')) v x := fun c hc h2 => by
      obtain ⟨k1, k2, k3, k4, cur, t, k5, k6, k7⟩ := hx.heap.own c sz xs hc
      rw [← h2] at k3 k4 k5 k6
      exact ⟨k1, k2, k3, k4, cur, t, k5, k6, fun j x hx => by
        obtain ⟨v, hv, hr⟩ := k7 j x hx
        exact ⟨v, hv, hrd' hr⟩⟩
    rcases cases3 i with ⟨j, hj, h1, h2⟩ | ⟨h0, _, h1, h2⟩ | ⟨k, rfl, h1, h2⟩ | ⟨h1, _⟩
    · exact fromC _ (by rw [← h1]; exact he) h2
    · rw [h1] at he
      obtain ⟨k1, k2, k3, k4, cur, t, k5, k6, k7⟩ := hh.own i sz xs he
      rw [h2]
      refine ⟨k1, k2, k3, k4, cur, t, ?_, k6, fun j x hx => ?_⟩
      · rw [hx.chg.block _ (Array.getElem?_eq_some_iff.1 k5).1 ?_]
        · exact k5
        · rintro ⟨c, hc, e⟩
          obtain ⟨j, k', rfl, hk, ho, hr⟩ := sub_own (ρ := ρ) hc
          rw [hr] at e
          have := hh.inj k' i ho (by rw [he]; rfl) e
          subst this
          exact h0 (List.mem_of_getElem? hk)
      · obtain ⟨v, hv, hr⟩ := k7 j x hx
        exact ⟨v, hv, hrd hr⟩
    · exact fromC _ (by rw [← h1]; exact he) h2
    · rw [h1] at he; cases he
  · intro i sz xs he
    have fromC : ∀ c, ent B' L' c = .frz sz xs → upR ρ ρ' L.length i = ρ' c → 0 < sz ∧ (∀ x ∈ xs, x.cells.length = sz ∧ ∀ y ∈ x.cells, y.one = true) ∧ ¬ Av O (upR ρ ρ' L.length) B1 (L1 ++ L') (upR ρ ρ' L.length i).1 ∧ (upR ρ ρ' L.length i).1 < w'.heap.size ∧
          ∀ j x, (flat xs)[j]? = some x → ∃ v, w'.cell? ⟨(upR ρ ρ' L.length i).1, j, none⟩ = some v ∧ Rd w' (Av O (upR ρ ρ' L.length) B1 (L1 ++ L')) v x := fun c hc h2 => by
      obtain ⟨k1, k2, k3, k4, k5⟩ := hx.heap.frz c sz xs hc
      rw [← h2] at k3 k4 k5
      exact ⟨k1, k2, fun h => k3 ((hav _).1 h), k4, fun j x hx => by
        obtain ⟨v, hv, hr⟩ := k5 j x hx
        exact ⟨v, hv, hrd' hr⟩⟩
    rcases cases3 i with ⟨j, hj, h1, h2⟩ | ⟨h0, _, h1, h2⟩ | ⟨k, rfl, h1, h2⟩ | ⟨h1, _⟩
    · exact fromC _ (by rw [← h1]; exact he) h2
    · rw [h1] at he
      obtain ⟨k1, k2, k3, k4, k5⟩ := hh.frz i sz xs he
      rw [h2]
      refine ⟨k1, k2, fun h => k3 (havOld _ k4 h), Nat.lt_of_lt_of_le k4 hx.chg.size, fun j x hx' => ?_⟩
      obtain ⟨v, hv, hr⟩ := k5 j x hx'
      refine ⟨v, hx.chg.cell ?_ hv, hrd hr⟩
      rintro ⟨c, hc, e⟩
      obtain ⟨j, k', rfl, hk, ho, hr⟩ := sub_own (ρ := ρ) hc
      rw [hr] at e
      exact k3 (.inr ⟨k', ho, e⟩)
    · exact fromC _ (by rw [← h1]; exact he) h2
    · rw [h1] at he; cases he
end
end Go.Ab
