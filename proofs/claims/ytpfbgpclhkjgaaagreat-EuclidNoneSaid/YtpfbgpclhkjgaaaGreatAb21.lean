/- A part of the proof: an evaluator of programs, its soundness, and what it says of the functions in hand. It holds without further conditions. -/
import Derived.Test.YtpfbgpclhkjgaaaGreatAb20
set_option linter.unusedVariables false
set_option linter.unusedSimpArgs false
namespace Go.Ab

/-! ### What a step waits for -/
def closF (acc : List (List Nat)) (s : IStep) : List (List Nat) := acc ++ [s.after ++ s.after.flatMap fun j => acc.getD j []]
theorem clos_eq (steps : List IStep) : clos steps = steps.foldl closF [] := rfl

theorem clos_old : ∀ (l : List IStep) (acc : List (List Nat)) (j : Nat), j < acc.length → (l.foldl closF acc).getD j [] = acc.getD j []
  | [], acc, j, h => rfl
  | s :: l, acc, j, h => by
    rw [List.foldl_cons, clos_old l _ j (by simp [closF]; omega)]
    simp only [closF, List.getD_eq_getElem?_getD]
    rw [List.getElem?_append_left h]

theorem clos_at : ∀ (l : List IStep) (acc : List (List Nat)) (k : Nat) (s : IStep), l[k]? = some s → (∀ j ∈ s.after, j < acc.length + k) →
    (l.foldl closF acc).getD (acc.length + k) [] = s.after ++ s.after.flatMap fun j => (l.foldl closF acc).getD j []
  | [], acc, k, s, h, _ => by simp at h
  | x :: l, acc, 0, s, h, ha => by
    simp only [List.getElem?_cons_zero, Option.some.injEq] at h
    subst h
    rw [List.foldl_cons, clos_old l _ _ (by simp [closF])]
    have e : (closF acc x).getD (acc.length + 0) [] = x.after ++ x.after.flatMap fun j => acc.getD j [] := by simp [closF]
    rw [e]
    congr 1
    rw [List.flatMap_def, List.flatMap_def]
    congr 1
    refine List.map_congr_left fun j hj => ?_
    have hj' : j < acc.length := ha j hj
    rw [clos_old l _ j (by simp [closF]; omega)]
    simp only [closF, List.getD_eq_getElem?_getD]
    rw [List.getElem?_append_left hj']
  | x :: l, acc, k + 1, s, h, ha => by
    simp only [List.getElem?_cons_succ] at h
    have hl : (closF acc x).length = acc.length + 1 := by simp [closF]
    have := clos_at l (closF acc x) k s h (fun j hj => by have := ha j hj; omega)
    rw [hl] at this
    rw [List.foldl_cons, show acc.length + (k + 1) = acc.length + 1 + k by omega]
    exact this

theorem waits_iff {steps : List IStep} {i j : Nat} {s : IStep} (hs : steps[i]? = some s) (ha : ∀ j ∈ s.after, j < i) : waits (clos steps) i j = true ↔ j ∈ s.after ∨ ∃ k ∈ s.after, waits (clos steps) k j = true := by
  have := clos_at steps [] i s hs (by simpa using ha)
  simp only [List.length_nil, Nat.zero_add] at this
  unfold waits
  rw [clos_eq, this]
  simp only [List.contains_iff_mem, List.mem_append, List.mem_flatMap]

theorem waits_lt {steps : List IStep} (ha : ∀ (i : Nat) (s : IStep), steps[i]? = some s → ∀ j ∈ s.after, j < i) : ∀ (i j : Nat) (s : IStep), steps[i]? = some s → waits (clos steps) i j = true → j < i := by
  intro i
  induction i using Nat.strongRecOn with
  | _ i ih =>
    intro j s hs hw
    rcases (waits_iff hs (ha i s hs)).1 hw with h | ⟨k, hk, h⟩
    · exact ha i s hs j h
    · have hlt := ha i s hs k hk
      have hi := (List.getElem?_eq_some_iff.1 hs).1
      have := ih k hlt j _ (List.getElem?_eq_getElem (by omega)) h
      omega

theorem waits_D {steps : List IStep} (ha : ∀ (i : Nat) (s : IStep), steps[i]? = some s → ∀ j ∈ s.after, j < i) {D : Nat → Prop} (hD : ∀ (i : Nat) (s : IStep), steps[i]? = some s → D i → ∀ j ∈ s.after, D j) :
    ∀ (i j : Nat) (s : IStep), steps[i]? = some s → (∀ k ∈ s.after, D k) → waits (clos steps) i j = true → D j := by
  intro i
  induction i using Nat.strongRecOn with
  | _ i ih =>
    intro j s hs hk hw
    rcases (waits_iff hs (ha i s hs)).1 hw with h | ⟨k, hk', h⟩
    · exact hk j h
    · have hlt := ha i s hs k hk'
      have hi := (List.getElem?_eq_some_iff.1 hs).1
      have hs' := List.getElem?_eq_getElem (l := steps) (i := k) (by omega)
      exact ih k hlt j _ hs' (hD k _ hs' (hk k hk')) h

theorem waits_trans {steps : List IStep} (ha : ∀ (i : Nat) (s : IStep), steps[i]? = some s → ∀ j ∈ s.after, j < i) : ∀ (i k j : Nat) (s : IStep), steps[i]? = some s → waits (clos steps) i k = true → waits (clos steps) k j = true → waits (clos steps) i j = true := by
  intro i
  induction i using Nat.strongRecOn with
  | _ i ih =>
    intro k j s hs hw hk
    rw [waits_iff hs (ha i s hs)]
    rcases (waits_iff hs (ha i s hs)).1 hw with h | ⟨m, hm, h⟩
    · exact .inr ⟨k, h, hk⟩
    · have hlt := ha i s hs m hm
      have hi := (List.getElem?_eq_some_iff.1 hs).1
      exact .inr ⟨m, hm, ih m hlt k j _ (List.getElem?_eq_getElem (by omega)) h hk⟩

theorem late_iff {cl : List (List Nat)} {steps : List IStep} {i : Nat} : late cl steps i = true ↔ ∃ j s, j < i ∧ steps[j]? = some s ∧ s.isS = true ∧ waits cl i j = true := by
  unfold late
  simp only [List.any_eq_true, List.mem_range]
  constructor
  · rintro ⟨j, hj, h⟩
    cases hs : steps[j]? with
    | none => rw [hs] at h; cases h
    | some s => rw [hs] at h; simp only [Bool.and_eq_true] at h; exact ⟨j, s, hj, hs, h.1, h.2⟩
  · rintro ⟨j, s, hj, hs, h1, h2⟩
    exact ⟨j, hj, by rw [hs]; simp [h1, h2]⟩

structure OkD (steps : List IStep) : Prop where
  lt : ∀ (i : Nat) (s : IStep), steps[i]? = some s → ∀ j ∈ s.after, j < i
  sord : ∀ (i j : Nat) (s q : IStep), steps[i]? = some s → steps[j]? = some q → s.isS = true → q.isS = true → j < i → waits (clos steps) i j = true
  self : ∀ (i : Nat) (s : IStep), steps[i]? = some s → s.isS = false → ∀ d, s.dst = some d → d ∉ s.reads
  dst : ∀ (i j : Nat) (s q : IStep) (d : Nat), steps[i]? = some s → steps[j]? = some q → i ≠ j → q.dst = some d → (s.isS = false ∨ q.isS = false) → s.dst ≠ some d
  rd : ∀ (i j : Nat) (s q : IStep) (d : Nat), steps[i]? = some s → steps[j]? = some q → i ≠ j → q.dst = some d → d ∈ s.reads → if q.isS = true then s.isS = true ∨ waits (clos steps) j i = true ∨ waits (clos steps) i j = true else waits (clos steps) i j = true
  lat : ∀ (i j : Nat) (s q : IStep), steps[i]? = some s → s.isS = false → late (clos steps) steps i = true → steps[j]? = some q → q.isS = true → j < i → waits (clos steps) i j = true

theorem okD {steps : List IStep} (h : okDraw steps = true) : OkD steps := by
  unfold okDraw at h
  simp only [List.all_eq_true, List.mem_range] at h
  have get : ∀ i s, steps[i]? = some s → i < steps.length := fun i s hs => (List.getElem?_eq_some_iff.1 hs).1
  have at_ : ∀ i s, steps[i]? = some s → _ := fun i s hs => by
    have := h i (get i s hs)
    rw [hs] at this
    simp only [Bool.and_eq_true, List.all_eq_true, decide_eq_true_eq, List.mem_range] at this
    exact this
  refine ⟨fun i s hs => (at_ i s hs).1.1, fun i j s q hs hq h1 h2 hlt => ?_, fun i s hs h1 d hd => ?_, fun i j s q d hs hq hne hd hS => ?_, fun i j s q d hs hq hne hd hr => ?_, fun i j s q hs h1 hl hq h2 hlt => ?_⟩
  · have := (at_ i s hs).1.2
    rw [if_pos h1] at this
    simp only [List.all_eq_true, List.mem_range] at this
    have := this j hlt
    rw [hq] at this
    simpa [h2] using this
  · have := (at_ i s hs).1.2
    rw [if_neg (by simp [h1]), hd] at this
    simp only [Bool.and_eq_true] at this
    simpa using this.1
  · have := (at_ i s hs).2 j (get j q hq)
    rw [hq] at this
    simp only [hd, Bool.or_eq_true, Bool.and_eq_true, beq_iff_eq] at this
    rcases this with h' | ⟨h', _⟩
    · exact absurd h' hne
    · rw [if_neg (by rcases hS with h | h <;> simp [h])] at h'
      simpa using h'
  · have := (at_ i s hs).2 j (get j q hq)
    rw [hq] at this
    simp only [hd, Bool.or_eq_true, Bool.and_eq_true, beq_iff_eq] at this
    rcases this with h' | ⟨_, h'⟩
    · exact absurd h' hne
    · rcases h' with h' | h'
      · simp at h'; exact absurd hr h'
      · cases hqs : q.isS <;> simp [hqs, or_assoc] at h' ⊢ <;> exact h'
  · have := (at_ i s hs).1.2
    rw [if_neg (by simp [h1])] at this
    simp only [Bool.and_eq_true, Bool.or_eq_true, Bool.not_eq_true', hl, Bool.true_eq_false, false_or, List.all_eq_true, List.mem_range] at this
    have := this.2 j hlt
    rw [hq] at this
    simpa [h2] using this

/-! ### New variables -/
theorem isA_of {s : IStep} (h : s.isA = true) : ∃ sz z, s.op = .alloc sz z ∧ s.guard = none := by
  unfold IStep.isA at h
  simp only [Bool.and_eq_true, Option.isNone_iff_eq_none] at h
  obtain ⟨h1, h2⟩ := h
  cases ho : s.op <;> simp [ho, IOp.isAlloc] at h1
  exact ⟨_, _, rfl, h2⟩

theorem drawA_other : ∀ (l : List IStep) (n : Nat) (e : Env) (t : Nat), (∀ s ∈ l, s.isA = true → s.dst ≠ some t) → (drawA n l e).get t = e.get t
  | [], n, e, t, h => rfl
  | s :: l, n, e, t, h => by
    simp only [drawA]
    split
    · rename_i ha
      rw [drawA_other l _ _ t fun s' hs' => h s' (by simp [hs']), get_putO, if_neg (h s (by simp) ha)]
    · exact drawA_other l _ _ t fun s' hs' => h s' (by simp [hs'])

theorem drawA_at : ∀ (l : List IStep) (n i0 k : Nat) (e : Env) (s : IStep) (sz : Nat) (z : FV), l[k]? = some s → s.op = .alloc sz z → s.guard = none →
    (∀ k' s', k < k' → l[k']? = some s' → s'.isA = true → ∀ d, s.dst = some d → s'.dst ≠ some d) →
    ∃ p, (i0 + k, p) ∈ allocsAt i0 n l ∧ n ≤ p ∧ p < n + (drawEnts l).length ∧ (drawEnts l).getD (p - n) .dead = .own sz [z] ∧ ∀ d, s.dst = some d → (drawA n l e).get d = .ptr (.l p) sz 0 0
  | [], n, i0, k, e, s, sz, z, h, _, _, _ => by simp at h
  | x :: l, n, i0, 0, e, s, sz, z, h, ho, hg, hd => by
    simp only [List.getElem?_cons_zero, Option.some.injEq] at h
    subst h
    have ha : x.isA = true := by simp [IStep.isA, ho, hg, IOp.isAlloc]
    refine ⟨n, by simp [allocsAt, ha], Nat.le_refl _, by simp [drawEnts, ha], by simp [drawEnts, ha, ho], fun d hdd => ?_⟩
    simp only [drawA, ha, if_true, ho]
    rw [drawA_other l _ _ d fun s' hs' ha' => ?_, get_putO, if_pos hdd]
    obtain ⟨k', hk'⟩ := List.getElem?_of_mem hs'
    exact hd (k' + 1) s' (by omega) (by simpa using hk') ha' d hdd
  | x :: l, n, i0, k + 1, e, s, sz, z, h, ho, hg, hd => by
    simp only [List.getElem?_cons_succ] at h
    have hd' : ∀ k' s', k < k' → l[k']? = some s' → s'.isA = true → ∀ d, s.dst = some d → s'.dst ≠ some d := fun k' s' hk hs ha d hdd => hd (k' + 1) s' (by omega) (by simpa using hs) ha d hdd
    have hi : i0 + (k + 1) = i0 + 1 + k := by omega
    rw [hi]
    cases ha : x.isA with
    | true =>
      obtain ⟨p, h1, h2, h3, h4, h5⟩ := drawA_at l (n + 1) (i0 + 1) k (putO e x.dst (match x.op with | .alloc sz _ => .ptr (.l n) sz 0 0 | _ => .unk)) s sz z h ho hg hd'
      refine ⟨p, by simp only [allocsAt, ha, if_true]; exact List.mem_cons_of_mem _ h1, by omega, by simp only [drawEnts, ha, if_true, List.length_cons]; omega, ?_, fun d hdd => ?_⟩
      · simp only [drawEnts, ha, if_true]
        rw [show p - n = (p - (n + 1)) + 1 by omega, List.getD_cons_succ]; exact h4
      · simp only [drawA, ha, if_true]; exact h5 d hdd
    | false =>
      obtain ⟨p, h1, h2, h3, h4, h5⟩ := drawA_at l n (i0 + 1) k e s sz z h ho hg hd'
      exact ⟨p, by simpa [allocsAt, ha] using h1, h2, by simpa [drawEnts, ha] using h3, by simpa [drawEnts, ha] using h4, fun d hdd => by simpa [drawA, ha] using h5 d hdd⟩

theorem allocs_mem : ∀ (l : List IStep) (i0 n i p : Nat), (i, p) ∈ allocsAt i0 n l → n ≤ p ∧ p < n + (drawEnts l).length ∧ i0 ≤ i ∧ ∃ s, l[i - i0]? = some s ∧ s.isA = true
  | [], i0, n, i, p, h => by simp [allocsAt] at h
  | x :: l, i0, n, i, p, h => by
    cases ha : x.isA with
    | true =>
      simp only [allocsAt, ha, if_true, List.mem_cons, Prod.mk.injEq] at h
      simp only [drawEnts, ha, if_true, List.length_cons]
      rcases h with ⟨rfl, rfl⟩ | h
      · exact ⟨Nat.le_refl _, by omega, Nat.le_refl _, x, by simp, ha⟩
      · obtain ⟨h1, h2, h3, s, h4, h5⟩ := allocs_mem l _ _ _ _ h
        exact ⟨by omega, by omega, by omega, s, by rw [show i - i0 = (i - (i0 + 1)) + 1 by omega]; simpa using h4, h5⟩
    | false =>
      simp only [allocsAt, ha, Bool.false_eq_true, if_false] at h
      simp only [drawEnts, ha, Bool.false_eq_true, if_false]
      obtain ⟨h1, h2, h3, s, h4, h5⟩ := allocs_mem l _ _ _ _ h
      exact ⟨h1, h2, by omega, s, by rw [show i - i0 = (i - (i0 + 1)) + 1 by omega]; simpa using h4, h5⟩

theorem allocs_inj : ∀ (l : List IStep) (i0 n i i' p p' : Nat), (i, p) ∈ allocsAt i0 n l → (i', p') ∈ allocsAt i0 n l → (i = i' ↔ p = p')
  | [], i0, n, i, i', p, p', h, _ => by simp [allocsAt] at h
  | x :: l, i0, n, i, i', p, p', h, k => by
    cases ha : x.isA with
    | true =>
      simp only [allocsAt, ha, if_true, List.mem_cons, Prod.mk.injEq] at h k
      rcases h with ⟨rfl, rfl⟩ | h
      · rcases k with ⟨rfl, rfl⟩ | k
        · simp
        · have := allocs_mem l _ _ _ _ k
          constructor <;> intro h <;> omega
      · rcases k with ⟨rfl, rfl⟩ | k
        · have := allocs_mem l _ _ _ _ h
          constructor <;> intro h <;> omega
        · exact allocs_inj l _ _ _ _ _ _ h k
    | false =>
      simp only [allocsAt, ha, Bool.false_eq_true, if_false] at h k
      exact allocs_inj l _ _ _ _ _ _ h k

/-! ### What only reads -/
def QVal (call : Disp) (B L : List Ent) (cl : List (List Nat)) (al : List (Nat × Nat)) (all : List IStep) (e0 : Env) (E : Env) (i : Nat) (s : IStep) (v : SV) : Prop :=
  evQ2 call (mayTurn cl all e0 i) s.op (opd E) B L = some v ∧ okIds cl al i v = true ∧ ∀ d, s.dst = some d → E.get d = v

def QSpec (call : Disp) (B L : List Ent) (cl : List (List Nat)) (al : List (Nat × Nat)) (all : List IStep) (e0 : Env) (E : Env) (i : Nat) (s : IStep) : Prop :=
  match s.guard with
  | none => ∃ v, QVal call B L cl al all e0 E i s v
  | some (t, want) => ∃ b, E.get t = .fv (.bool b) ∧ ((b = want ∧ ∃ v, QVal call B L cl al all e0 E i s v) ∨ (b ≠ want ∧ ∀ d, s.dst = some d → E.get d = .unk))

section
variable {call : Disp} {B L : List Ent} {cl : List (List Nat)} {al : List (Nat × Nat)} {all : List IStep} {e0 : Env}

theorem chk_some {b : Bool} {v u : SV} (h : chk b v = some u) : b = true ∧ u = v := by
  unfold chk at h
  split at h
  · rename_i hb; injection h with h; exact ⟨hb, h.symm⟩
  · cases h

def IStep.isQ (s : IStep) : Bool := !(s.isA || s.isS)
/-- It only reads, and waits for no store. -/
def isE (cl : List (List Nat)) (all : List IStep) (i : Nat) (s : IStep) : Bool := !(s.isA || s.isS || late cl all i)

theorem drawQ_cons {i : Nat} {s : IStep} {r : List IStep} {e E : Env} (h : drawQ call B L cl al all e0 i (s :: r) e = some E) :
    (isE cl all i s = false ∧ drawQ call B L cl al all e0 (i + 1) r e = some E) ∨
    (isE cl all i s = true ∧ ∃ v, drawQ call B L cl al all e0 (i + 1) r (putO e s.dst v) = some E ∧ match s.guard with
      | none => evQ2 call (mayTurn cl all e0 i) s.op (opd e) B L = some v ∧ okIds cl al i v = true
      | some (t, want) => ∃ b, e.get t = .fv (.bool b) ∧ ((b = want ∧ evQ2 call (mayTurn cl all e0 i) s.op (opd e) B L = some v ∧ okIds cl al i v = true) ∨ (b ≠ want ∧ v = .unk))) := by
  simp only [drawQ] at h
  split at h
  · rename_i hc; exact .inl ⟨by simp [isE, hc], h⟩
  · rename_i hc
    refine .inr ⟨by simp [isE, hc], ?_⟩
    split at h
    · rename_i hg
      obtain ⟨v, hv, h'⟩ := Option.bind_eq_some_iff.1 h
      obtain ⟨u, hu, h2⟩ := Option.bind_eq_some_iff.1 h'
      obtain ⟨h1, e⟩ := chk_some hu
      rw [e] at h2
      exact ⟨v, h2, by rw [hg]; exact ⟨hv, h1⟩⟩
    · rename_i t want hg
      split at h
      · rename_i b hb
        split at h
        · rename_i hbw
          obtain ⟨v, hv, h'⟩ := Option.bind_eq_some_iff.1 h
          obtain ⟨u, hu, h2⟩ := Option.bind_eq_some_iff.1 h'
          obtain ⟨h1, e⟩ := chk_some hu
          rw [e] at h2
          exact ⟨v, h2, by rw [hg]; exact ⟨b, hb, .inl ⟨hbw, hv, h1⟩⟩⟩
        · rename_i hbw
          exact ⟨.unk, h, by rw [hg]; exact ⟨b, hb, .inr ⟨hbw, rfl⟩⟩⟩
      · cases h

theorem drawQ_other : ∀ (l : List IStep) (i : Nat) (e E : Env) (t : Nat), drawQ call B L cl al all e0 i l e = some E → (∀ (k : Nat) (s : IStep), l[k]? = some s → isE cl all (i + k) s = true → s.dst ≠ some t) → E.get t = e.get t
  | [], i, e, E, t, h, _ => by simp only [drawQ, Option.some.injEq] at h; rw [h]
  | s :: l, i, e, E, t, h, hn => by
    rcases drawQ_cons h with ⟨_, h⟩ | ⟨hq, v, h, _⟩
    · exact drawQ_other l _ _ _ t h fun k s' hs' hq' => hn (k + 1) s' (by simpa using hs') (by rw [show i + (k + 1) = i + 1 + k by omega]; exact hq')
    · rw [drawQ_other l _ _ _ t h fun k s' hs' hq' => hn (k + 1) s' (by simpa using hs') (by rw [show i + (k + 1) = i + 1 + k by omega]; exact hq'), get_putO, if_neg (hn 0 s (by simp) hq)]

theorem drawQ_spec : ∀ (l : List IStep) (i0 : Nat) (e E : Env), drawQ call B L cl al all e0 i0 l e = some E →
    (∀ (a b : Nat) (s q : IStep) (d : Nat), l[a]? = some s → l[b]? = some q → a ≤ b → isE cl all (i0 + a) s = true → isE cl all (i0 + b) q = true → q.dst = some d → d ∉ s.reads) →
    (∀ (a b : Nat) (s q : IStep) (d : Nat), l[a]? = some s → l[b]? = some q → a < b → isE cl all (i0 + a) s = true → isE cl all (i0 + b) q = true → q.dst = some d → s.dst ≠ some d) →
    ∀ k s, l[k]? = some s → isE cl all (i0 + k) s = true → QSpec call B L cl al all e0 E (i0 + k) s
  | [], i0, e, E, h, _, _, k, s, hs, _ => by simp at hs
  | x :: l, i0, e, E, h, hR, hD, k + 1, s, hs, hq => by
    have hR' : ∀ (a b : Nat) (s q : IStep) (d : Nat), l[a]? = some s → l[b]? = some q → a ≤ b → isE cl all (i0 + 1 + a) s = true → isE cl all (i0 + 1 + b) q = true → q.dst = some d → d ∉ s.reads := fun a b s q d h1 h2 h3 h4 h5 => hR (a + 1) (b + 1) s q d (by simpa using h1) (by simpa using h2) (by omega) (by rw [show i0 + (a + 1) = i0 + 1 + a by omega]; exact h4) (by rw [show i0 + (b + 1) = i0 + 1 + b by omega]; exact h5)
    have hD' : ∀ (a b : Nat) (s q : IStep) (d : Nat), l[a]? = some s → l[b]? = some q → a < b → isE cl all (i0 + 1 + a) s = true → isE cl all (i0 + 1 + b) q = true → q.dst = some d → s.dst ≠ some d := fun a b s q d h1 h2 h3 h4 h5 => hD (a + 1) (b + 1) s q d (by simpa using h1) (by simpa using h2) (by omega) (by rw [show i0 + (a + 1) = i0 + 1 + a by omega]; exact h4) (by rw [show i0 + (b + 1) = i0 + 1 + b by omega]; exact h5)
    rw [show i0 + (k + 1) = i0 + 1 + k by omega] at hq ⊢
    rcases drawQ_cons h with ⟨_, h⟩ | ⟨_, v, h, _⟩
    · exact drawQ_spec l _ _ _ h hR' hD' k s (by simpa using hs) hq
    · exact drawQ_spec l _ _ _ h hR' hD' k s (by simpa using hs) hq
  | x :: l, i0, e, E, h, hR, hD, 0, s, hs, hq => by
    simp only [List.getElem?_cons_zero, Option.some.injEq] at hs
    subst hs
    rw [Nat.add_zero] at hq ⊢
    rcases drawQ_cons h with ⟨hf, _⟩ | ⟨_, v, h, hm⟩
    · rw [hq] at hf; cases hf
    · have hrd : ∀ t ∈ x.reads, E.get t = e.get t := by
        intro t ht
        rw [drawQ_other l _ _ _ t h, get_putO, if_neg]
        · intro hd
          exact hR 0 0 x x t (by simp) (by simp) (by omega) hq hq hd ht
        · intro k' s' hk' hq' hd
          exact hR 0 (k' + 1) x s' t (by simp) (by simpa using hk') (by omega) hq (by rw [show i0 + (k' + 1) = i0 + 1 + k' by omega]; exact hq') hd ht
      have hev : ∀ st, evQ2 call st x.op (opd E) B L = evQ2 call st x.op (opd e) B L := by
        intro st
        have hsl : ∀ t ∈ x.op.slots, E.get t = e.get t := fun t ht => hrd t (by unfold IStep.reads; exact List.mem_append_left _ ht)
        unfold evQ2
        rw [evQ_congr x.op hsl]
      have hdst : ∀ d, x.dst = some d → E.get d = v := by
        intro d hd
        rw [drawQ_other l _ _ _ d h, get_putO, if_pos hd]
        intro k' s' hk' hq' hd'
        exact hD 0 (k' + 1) x s' d (by simp) (by simpa using hk') (by omega) hq (by rw [show i0 + (k' + 1) = i0 + 1 + k' by omega]; exact hq') hd' hd
      unfold QSpec
      cases hg : x.guard with
      | none =>
        rw [hg] at hm
        exact ⟨v, by rw [hev]; exact hm.1, hm.2, hdst⟩
      | some tw =>
        obtain ⟨t, want⟩ := tw
        rw [hg] at hm
        obtain ⟨b, hb, hc⟩ := hm
        refine ⟨b, by rw [hrd t (by unfold IStep.reads; rw [hg]; simp)]; exact hb, ?_⟩
        rcases hc with ⟨h1, h2, h3⟩ | ⟨h1, h2⟩
        · exact .inl ⟨h1, v, by rw [hev]; exact h2, h3, hdst⟩
        · exact .inr ⟨h1, fun d hd => by rw [hdst d hd, h2]⟩

theorem ent_hideBy (h : Id → Bool) (B L : List Ent) (id : Id) : ent (hideBy h B L).1 (hideBy h B L).2 id = if h id then (ent B L id).hide else ent B L id := by
  cases id <;> simp only [ent, hideBy, List.getD_eq_getElem?_getD, List.getElem?_mapIdx]
  · rename_i j
    cases B[j]? with
    | none => simp [Ent.hide]
    | some e => simp
  · rename_i j
    cases L[j]? with
    | none => simp [Ent.hide]
    | some e => simp

theorem evQ2_use {hd : Id → Bool} {o : IOp} {g : Look} {v : SV} {B2 L2 : List Ent} (h : evQ2 call hd o g B L = some v) (h1 : Less (hideBy hd B L).1 (hideBy hd B L).2 B2 L2) : evQ call o g B2 L2 = some v :=
  evQ_mono h1 h

/-- What is left to see is frozen, or no unordered step turns it. -/
theorem hideBy_seen {hd : Id → Bool} {B L : List Ent} {id : Id} (h : ent (hideBy hd B L).1 (hideBy hd B L).2 id ≠ .dead) :
    ent (hideBy hd B L).1 (hideBy hd B L).2 id = ent B L id ∧ ent B L id ≠ .dead ∧ ((ent B L id).isOwn = false ∨ hd id = false) := by
  rw [ent_hideBy] at h ⊢
  split at h
  · rename_i hh
    rw [if_pos hh]
    cases hc : ent B L id <;> rw [hc] at h <;> simp [Ent.hide, Ent.isOwn] at h ⊢
  · rename_i hh
    rw [if_neg hh]
    exact ⟨rfl, h, .inr (by simpa using hh)⟩

/-! ### Stores and assignments, and what waits for them -/
theorem stepS_cases {j : Nat} {s : IStep} {st st' : St} (h : stepS call cl al all e0 j s st = some st') :
    (s.isS = false ∧ (s.isA = true ∨ late cl all j = false) ∧ st' = st) ∨
    (s.isS = true ∧ ∃ v B' L', evA call s.op (opd st.env) st.B (maskL (hidFor cl al j) st.L) = some (v, B', L') ∧ okIds cl al j v = true ∧ (turnsS all s = true ∨ quietAt s.op (opd st.env) = true) ∧ st' = ⟨putO st.env s.dst v, (frzNew all s st.L.length v B' L').1, restL (hidFor cl al j) st.L (frzNew all s st.L.length v B' L').2⟩) ∨
    (s.isS = false ∧ s.isA = false ∧ late cl all j = true ∧ ∃ v, st' = ⟨putO st.env s.dst v, st.B, st.L⟩ ∧ match s.guard with
      | none => evQ2 call (mayTurn cl all e0 j) s.op (opd st.env) st.B (maskL (hidFor cl al j) st.L) = some v ∧ okIds cl al j v = true
      | some (t, want) => ∃ b, st.env.get t = .fv (.bool b) ∧ ((b = want ∧ evQ2 call (mayTurn cl all e0 j) s.op (opd st.env) st.B (maskL (hidFor cl al j) st.L) = some v ∧ okIds cl al j v = true) ∨ (b ≠ want ∧ v = .unk))) := by
  unfold stepS at h
  split at h
  · rename_i hs
    obtain ⟨⟨v, B', L'⟩, h1, h'⟩ := Option.bind_eq_some_iff.1 h
    obtain ⟨u, hu, h3⟩ := Option.map_eq_some_iff.1 h'
    obtain ⟨h2, e⟩ := chk_some hu
    rw [e] at h3
    simp only [Bool.and_eq_true, Bool.or_eq_true] at h2
    exact .inr (.inl ⟨hs, v, B', L', h1, h2.1, h2.2, h3.symm⟩)
  · rename_i hs
    split at h
    · rename_i hc
      simp only [Bool.and_eq_true, Bool.not_eq_true'] at hc
      refine .inr (.inr ⟨by simpa using hs, hc.1, hc.2, ?_⟩)
      split at h
      · rename_i hg
        obtain ⟨v, h1, h'⟩ := Option.bind_eq_some_iff.1 h
        obtain ⟨u, hu, h3⟩ := Option.map_eq_some_iff.1 h'
        obtain ⟨h2, e⟩ := chk_some hu
        rw [e] at h3
        exact ⟨v, h3.symm, by rw [hg]; exact ⟨h1, h2⟩⟩
      · rename_i t want hg
        split at h
        · rename_i b hb
          split at h
          · rename_i hbw
            obtain ⟨v, h1, h'⟩ := Option.bind_eq_some_iff.1 h
            obtain ⟨u, hu, h3⟩ := Option.map_eq_some_iff.1 h'
            obtain ⟨h2, e⟩ := chk_some hu
            rw [e] at h3
            exact ⟨v, h3.symm, by rw [hg]; exact ⟨b, hb, .inl ⟨hbw, h1, h2⟩⟩⟩
          · rename_i hbw
            injection h with h
            exact ⟨.unk, h.symm, by rw [hg]; exact ⟨b, hb, .inr ⟨hbw, rfl⟩⟩⟩
        · cases h
    · rename_i hc
      injection h with h
      refine .inl ⟨by simpa using hs, ?_, h.symm⟩
      cases hA : s.isA with
      | true => exact .inl rfl
      | false => rw [hA] at hc; exact .inr (by simpa using hc)

theorem drawS_append : ∀ (l1 l2 : List IStep) (k : Nat) (st : St), drawS call cl al all e0 k (l1 ++ l2) st = (drawS call cl al all e0 k l1 st).bind (drawS call cl al all e0 (k + l1.length) l2)
  | [], l2, k, st => by simp [drawS]
  | s :: l1, l2, k, st => by
    simp only [List.cons_append, drawS, List.length_cons]
    cases stepS call cl al all e0 k s st with
    | none => rfl
    | some st1 =>
      simp only [Option.bind_some]
      rw [drawS_append l1 l2 (k + 1) st1, show k + 1 + l1.length = k + (l1.length + 1) by omega]

def pre (call : Disp) (cl : List (List Nat)) (al : List (Nat × Nat)) (steps : List IStep) (e0 : Env) (c : Nat) (st : St) : Option St := drawS call cl al steps e0 0 (steps.take c) st

theorem pre_zero (steps : List IStep) (st : St) : pre call cl al steps e0 0 st = some st := by simp [pre, drawS]
theorem pre_all (steps : List IStep) (st : St) : pre call cl al steps e0 steps.length st = drawS call cl al steps e0 0 steps st := by simp [pre]

theorem pre_succ {steps : List IStep} {c : Nat} {s : IStep} (hs : steps[c]? = some s) (st : St) : pre call cl al steps e0 (c + 1) st = (pre call cl al steps e0 c st).bind (stepS call cl al steps e0 c s) := by
  obtain ⟨hlt, e⟩ := List.getElem?_eq_some_iff.1 hs
  unfold pre
  rw [List.take_add_one, hs, drawS_append]
  have : (steps.take c).length = c := by simp; omega
  rw [this]
  simp only [Option.toList_some, Nat.zero_add]
  congr 1
  funext st'
  simp only [drawS]
  cases stepS call cl al steps e0 c s st' <;> rfl

theorem pre_some {steps : List IStep} {st0 st' : St} (h : drawS call cl al steps e0 0 steps st0 = some st') (c : Nat) : ∃ st, pre call cl al steps e0 c st0 = some st := by
  rw [← List.take_append_drop c steps, drawS_append] at h
  obtain ⟨st, h1, _⟩ := Option.bind_eq_some_iff.1 h
  refine ⟨st, ?_⟩
  unfold pre
  rw [List.take_append_drop] at h1; exact h1

/-- It writes: a store, or what waits for one. -/
def writes (cl : List (List Nat)) (steps : List IStep) (i : Nat) (s : IStep) : Bool := s.isS || (!s.isA && late cl steps i)

/-- What the steps from c0 to c have left as it was. -/
structure PF (cl : List (List Nat)) (al : List (Nat × Nat)) (steps : List IStep) (e0 : Env) (st0 st : St) (c0 c : Nat) : Prop where
  lenB : st.B.length = st0.B.length
  lenL : st0.L.length ≤ st.L.length
  env : ∀ t, (∀ i s, c0 ≤ i → i < c → steps[i]? = some s → writes cl steps i s = true → s.dst ≠ some t) → st.env.get t = st0.env.get t
  frz : ∀ id, id.valid st0.B st0.L → (ent st0.B st0.L id).isOwn = false → ent st.B st.L id = ent st0.B st0.L id
  quiet : ∀ id, id.valid st0.B st0.L → (∀ i s, c0 ≤ i → i < c → steps[i]? = some s → s.isS = true → ∃ ids, tgt steps e0 s = some ids ∧ id ∉ ids) → ent st.B st.L id = ent st0.B st0.L id
  hid : ∀ p, p < st0.L.length → (∀ i s, c0 ≤ i → i < c → steps[i]? = some s → s.isS = true → hidFor cl al i p = true) → st.L.getD p .dead = st0.L.getD p .dead
  noS : (∀ i s, c0 ≤ i → i < c → steps[i]? = some s → s.isS = false) → st.B = st0.B ∧ st.L = st0.L

theorem unwritten_dst {steps : List IStep} {t i : Nat} {s : IStep} (h : unwritten steps t = true) (hs : steps[i]? = some s) : s.dst ≠ some t := by
  unfold unwritten at h
  rw [List.all_eq_true] at h
  simpa using h s (List.mem_of_getElem? hs)

theorem pf {steps : List IStep} {st00 st0 : St} (he : ∀ t, unwritten steps t = true → st0.env.get t = e0.get t) (c0 : Nat) (h0 : pre call cl al steps e0 c0 st00 = some st0) : ∀ (d : Nat) (st : St), c0 + d ≤ steps.length → pre call cl al steps e0 (c0 + d) st00 = some st → PF cl al steps e0 st0 st c0 (c0 + d)
  | 0, st, _, h => by
    rw [Nat.add_zero, h0] at h; injection h with h; subst h
    exact ⟨rfl, Nat.le_refl _, fun _ _ => rfl, fun _ _ _ => rfl, fun _ _ _ => rfl, fun _ _ _ => rfl, fun _ => ⟨rfl, rfl⟩⟩
  | d + 1, st, hc, h => by
    have hs := List.getElem?_eq_getElem (l := steps) (i := c0 + d) (by omega)
    rw [← Nat.add_assoc, pre_succ hs] at h
    rw [← Nat.add_assoc]
    obtain ⟨st1, h1, h2⟩ := Option.bind_eq_some_iff.1 h
    have ih := pf he c0 h0 d st1 (by omega) h1
    rcases stepS_cases h2 with ⟨hf, hl, rfl⟩ | ⟨ht, v, B', L', h3, h4, h5, rfl⟩ | ⟨hf, hA, hl, v, rfl, _⟩
    · exact ⟨ih.lenB, ih.lenL, fun t ht => ih.env t fun i s hi hi' => ht i s hi (by omega), ih.frz, fun id hv hq => ih.quiet id hv fun i s hi hi' => hq i s hi (by omega), fun p hp hh => ih.hid p hp fun i s hi hi' => hh i s hi (by omega), fun hn => ih.noS fun i s hi hi' => hn i s hi (by omega)⟩
    · obtain ⟨e1, e2, e3⟩ := evA_ents h3
      rw [maskL_length] at e2
      obtain ⟨_, f1, f2⟩ := frzNew_weak steps steps[c0 + d] st1.L.length v B' L'
      have e2' : st1.L.length ≤ (frzNew steps steps[c0 + d] st1.L.length v B' L').2.length := by rw [f2]; exact e2
      have step : ∀ id, id.valid st1.B st1.L → (ent st1.B st1.L id).isOwn = false ∨ (∃ ids, tgt steps e0 steps[c0 + d] = some ids ∧ id ∉ ids) → ent (frzNew steps steps[c0 + d] st1.L.length v B' L').1 (restL (hidFor cl al (c0 + d)) st1.L (frzNew steps steps[c0 + d] st1.L.length v B' L').2) id = ent st1.B st1.L id := by
        intro id hv ho
        rw [ent_restL (L := st1.L) (B := st1.B) _ e2']
        split
        · rfl
        · rename_i hh
          have em : ent st1.B (maskL (hidFor cl al (c0 + d)) st1.L) id = ent st1.B st1.L id := by rw [ent_maskL, if_neg hh]
          rw [frzNew_old (fun p e => by subst e; exact hv)]
          have hv' : id.valid st1.B (maskL (hidFor cl al (c0 + d)) st1.L) := by cases id <;> simp only [Id.valid, maskL_length] at hv ⊢ <;> exact hv
          rcases ho with ho | ⟨ids, ht1, ht2⟩
          · rw [e3 id hv' (by rw [em]; exact .inl ho), em]
          · unfold tgt at ht1
            have heq : ∀ t, unwritten steps t = true → st1.env.get t = e0.get t := fun t hu => by
              rw [ih.env t fun i s _ _ hs _ => unwritten_dst hu hs]; exact he t hu
            split at ht1
            · split at ht1
              · rename_i n t x ho
                split at ht1
                · rename_i hu
                  injection ht1 with ht1
                  rw [evA_tgt h3 hv' (by rw [ho]; simp only [tgtOf, opd]; rw [heq t hu, ht1]; exact ht2), em]
                · cases ht1
              · rename_i n b t x ho
                split at ht1
                · rename_i hu
                  injection ht1 with ht1
                  rw [evA_tgt h3 hv' (by rw [ho]; simp only [tgtOf, opd]; rw [heq t hu, ht1]; exact ht2), em]
                · cases ht1
              · cases ht1
            · rename_i htn
              rw [evA_quiet h3 (by rcases h5 with h | h
                                   · exact absurd h htn
                                   · exact h) id hv', em]
      have hv1 : ∀ id : Id, id.valid st0.B st0.L → id.valid st1.B st1.L := fun id hv => hv.ext ih.lenB ih.lenL
      refine ⟨f1.trans (e1.trans ih.lenB), by rw [restL_length]; exact Nat.le_trans ih.lenL e2', fun t hn => ?_, fun id hv ho => ?_, fun id hv hq => ?_, fun p hp hh => ?_, fun hn => ?_⟩
      · simp only
        rw [get_putO, if_neg (hn _ _ (by omega) (by omega) hs (by simp [writes, ht]))]
        exact ih.env t fun i s hi hi' => hn i s hi (by omega)
      · have := ih.frz id hv ho
        rw [← this]
        exact step id (hv1 id hv) (.inl (by rw [this]; exact ho))
      · rw [← ih.quiet id hv fun i s hi hi' => hq i s hi (by omega)]
        exact step id (hv1 id hv) (.inr (hq _ _ (by omega) (by omega) hs ht))
      · simp only
        rw [getD_restL, if_pos ⟨by have := ih.lenL; omega, hh _ _ (by omega) (by omega) hs ht⟩]
        exact ih.hid p hp fun i s hi hi' => hh i s hi (by omega)
      · have := hn _ _ (by omega) (by omega) hs
        rw [ht] at this; cases this
    · refine ⟨ih.lenB, ih.lenL, fun t hn => ?_, ih.frz, fun id hv hq => ih.quiet id hv fun i s hi hi' => hq i s hi (by omega), fun p hp hh => ih.hid p hp fun i s hi hi' => hh i s hi (by omega), fun hn => ih.noS fun i s hi hi' => hn i s hi (by omega)⟩
      simp only
      rw [get_putO, if_neg (hn _ _ (by omega) (by omega) hs (by simp [writes, hA, hl]))]
      exact ih.env t fun i s hi hi' => hn i s hi (by omega)

theorem pf_le {steps : List IStep} {st00 st0 st : St} {c0 c : Nat} (he : ∀ t, unwritten steps t = true → st0.env.get t = e0.get t) (h0 : pre call cl al steps e0 c0 st00 = some st0) (hle : c0 ≤ c) (hc : c ≤ steps.length) (h : pre call cl al steps e0 c st00 = some st) : PF cl al steps e0 st0 st c0 c := by
  have := pf he c0 h0 (c - c0) st (by omega) (by rw [show c0 + (c - c0) = c by omega]; exact h)
  rw [show c0 + (c - c0) = c by omega] at this
  exact this
end
end Go.Ab
