/- A part of the proof: an evaluator of programs, its soundness, and what it says of the functions in hand. It holds without further conditions. -/
import Derived.Test.YtpfbgpclhkjgaaaGreatAb21
set_option linter.unusedVariables false
set_option linter.unusedSimpArgs false
namespace Go.Ab

section
variable {P : Program} {w w' : World} {O : Nat → Prop} {ρ : Rho} {B L : List Ent}

theorem trSteps_get {nt : Nat} {ops : List Oper} : ∀ (l : List Oper) (ss : List IStep), trSteps P nt ops l = some ss → l.length = ss.length ∧ ∀ (i : Nat) (o : Oper), l[i]? = some o → ∃ s, ss[i]? = some s ∧ trStep P nt ops o = some s
  | [], ss, h => by simp only [trSteps, Option.some.injEq] at h; subst h; simp
  | o :: l, ss, h => by
    simp only [trSteps, Option.bind_eq_some_iff, Option.map_eq_some_iff] at h
    obtain ⟨s, h1, ss', h2, rfl⟩ := h
    obtain ⟨k1, k2⟩ := trSteps_get l ss' h2
    refine ⟨by simp [k1], fun i o' ho => ?_⟩
    cases i with
    | zero => simp at ho; subst ho; exact ⟨s, by simp, h1⟩
    | succ i => obtain ⟨s', h3, h4⟩ := k2 i o' (by simpa using ho); exact ⟨s', by simpa using h3, h4⟩

theorem trOp_alloc {nt : Nat} {o : Op} {sz : Nat} {z : FV} (h : trOp P nt o = some (.alloc sz z)) : ∃ e, o = .alloc e ∧ szOf P e = some sz ∧ zeroOf P e = some z := by
  cases o <;> simp only [trOp] at h
  case alloc e =>
    simp only [Option.bind_eq_some_iff, Option.map_eq_some_iff] at h
    obtain ⟨sz', h2, z', h3, e'⟩ := h
    injection e' with e1 e2; subst e1; subst e2
    exact ⟨e, rfl, h2, h3⟩
  case call c =>
    unfold trCall at h
    obtain ⟨callee, args, argTypes⟩ := c
    simp only at h
    split at h
    · split at h
      · split at h <;> first | (cases h; done) | (obtain ⟨x', hx, e⟩ := Option.map_eq_some_iff.1 h; cases e)
      · cases h
    · split at h
      · simp only [Option.bind_eq_some_iff] at h
        obtain ⟨e, _, e', _, sz, _, by', _, z, _, h⟩ := h
        split at h
        · simp only [Option.bind_eq_some_iff, Option.map_eq_some_iff] at h
          obtain ⟨_, _, _, _, e⟩ := h; cases e
        · cases h
      · cases h
    · obtain ⟨as, ha, e⟩ := Option.map_eq_some_iff.1 h; cases e
    · obtain ⟨as, ha, e⟩ := Option.map_eq_some_iff.1 h; cases e
    · simp only [Option.bind_eq_some_iff, Option.map_eq_some_iff] at h
      obtain ⟨f, hf, as', ha, e⟩ := h
      cases e
    · cases h
  case build t ps =>
    simp only [Option.bind_eq_some_iff] at h
    obtain ⟨fs, h1, z, h2, h⟩ := h
    split at h
    · obtain ⟨qs, h4, e⟩ := Option.map_eq_some_iff.1 h; cases e
    · cases h
  case convert a b x =>
    split at h
    · obtain ⟨x', hx, e⟩ := Option.map_eq_some_iff.1 h; cases e
    · cases h
  case fieldAddr t x i =>
    simp only [Option.bind_eq_some_iff] at h
    obtain ⟨fs, h1, f, h2, ag, h3, n, h4, x', hx, h⟩ := h
    split at h
    · injection h with h; cases h
    · cases h
  case index t x i =>
    split at h
    · simp only [Option.bind_eq_some_iff, Option.map_eq_some_iff] at h
      obtain ⟨x', hx, i', hi, e⟩ := h; cases e
    · cases h
  all_goals first
    | (cases h; done)
    | (obtain ⟨_, _, e⟩ := Option.map_eq_some_iff.1 h; cases e; done)
    | (simp only [Option.bind_eq_some_iff, Option.map_eq_some_iff] at h; obtain ⟨_, _, _, _, e⟩ := h; cases e; done)
    | (simp only [Option.bind_eq_some_iff, Option.map_eq_some_iff] at h; obtain ⟨_, _, _, _, _, _, e⟩ := h; cases e; done)
    | (simp only [Option.bind_eq_some_iff, Option.map_eq_some_iff] at h; obtain ⟨_, _, _, _, _, _, _, _, e⟩ := h; cases e; done)
    | (simp only [Option.bind_eq_some_iff, Option.map_eq_some_iff] at h; obtain ⟨_, _, _, _, _, _, _, _, _, _, e⟩ := h; cases e; done)
    | (simp only [Option.bind_eq_some_iff, Option.map_eq_some_iff] at h; obtain ⟨_, _, _, _, _, _, _, _, _, _, _, _, e⟩ := h; cases e; done)

theorem asg_mv {nt : Nat} {ops : List Oper} {o : Oper} {s : IStep} (h : trStep P nt ops o = some s) (ha : s.asg = true) : ∃ x, s.op = .mv x := by
  obtain ⟨t1, _, _, _, _, t6⟩ := trStep_parts h
  rw [t6] at ha
  split at ha
  · rename_i x ho
    rw [ho] at t1
    simp only [trOp, Option.map_eq_some_iff] at t1
    obtain ⟨y, _, e⟩ := t1
    exact ⟨y, e.symm⟩
  · cases ha

theorem isA_notS {nt : Nat} {ops : List Oper} {o : Oper} {s : IStep} (h : trStep P nt ops o = some s) (ha : s.isA = true) : s.isS = false := by
  obtain ⟨sz, z, h1, h2⟩ := isA_of ha
  cases hasg : s.asg with
  | false => simp [IStep.isS, h1, IOp.acts, hasg]
  | true =>
    obtain ⟨x, hx⟩ := asg_mv h hasg
    rw [hx] at h1; cases h1

theorem isS_notCall {nt : Nat} {ops : List Oper} {o : Oper} {s : IStep} (h : trStep P nt ops o = some s) (ha : s.isS = true) : s.guard = none ∧ ∀ f as, s.op ≠ .call f as := by
  unfold IStep.isS at ha
  simp only [Bool.and_eq_true, Bool.or_eq_true, Option.isNone_iff_eq_none] at ha
  refine ⟨ha.2, fun f as e => ?_⟩
  rcases ha.1 with h1 | h1
  · rw [e] at h1; simp [IOp.acts] at h1
  · obtain ⟨x, hx⟩ := asg_mv h h1
    rw [hx] at e; cases e

theorem evQ_wp {nt : Nat} {a : Act} {g : Look} {call : Disp} (good : Good P call) (o : Oper) {io : IOp} {s : SV} (hh : Heap w O ρ B L) (hg : Ops P nt w O ρ B L a.eval g o.op)
    (htr : trOp P nt o.op = some io) (h : evQ call io g B L = some s) {next : Act → World → Prop} {Q : Exit → Act → World → Prop}
    (hn : ∀ v w', Chg (fun _ => False) w w' → SvRel w' (Av O ρ B L) ρ B L v s → next (a.put o.dst v) w') : o.wp P a w next Q := by
  have other : (∀ f as, io ≠ .call f as) → o.wp P a w next Q := by
    intro hnc
    obtain ⟨v, w', h1, h2, h3⟩ := evQ_run o hh hg htr hnc h
    unfold Oper.wp
    rw [h1, Oper.upon_value]; exact hn v w' h2 h3
  cases io with
  | call f' as =>
    obtain ⟨dst, op, type, pos, after, guard⟩ := o
    obtain ⟨f, args, ts, rfl, hf, has⟩ := trOp_call htr
    exact evQ_call_wp good hh hg hf has h hn
  | _ => exact other (fun _ _ e => by cases e)

/-! ### The invariant -/
def hidD (al : List (Nat × Nat)) (D : Nat → Bool) (p : Nat) : Bool := al.any fun q => p == q.2 && !D q.1

theorem hidD_iff {al : List (Nat × Nat)} {D : Nat → Bool} {p : Nat} : hidD al D p = true ↔ ∃ k, (k, p) ∈ al ∧ D k = false := by
  simp only [hidD, List.any_eq_true, Bool.and_eq_true, beq_iff_eq, Bool.not_eq_true']
  constructor
  · rintro ⟨⟨k, q⟩, h1, rfl, h2⟩; exact ⟨k, h1, h2⟩
  · rintro ⟨k, h1, h2⟩; exact ⟨(k, p), h1, rfl, h2⟩

theorem hidFor_iff {cl : List (List Nat)} {al : List (Nat × Nat)} {j p : Nat} : hidFor cl al j p = true ↔ ∃ k, (k, p) ∈ al ∧ waits cl j k = false := by
  simp only [hidFor, List.any_eq_true, Bool.and_eq_true, beq_iff_eq, Bool.not_eq_true']
  constructor
  · rintro ⟨⟨k, q⟩, h1, rfl, h2⟩; exact ⟨k, h1, h2⟩
  · rintro ⟨k, h1, h2⟩; exact ⟨(k, p), h1, rfl, h2⟩

def add (D : Nat → Bool) (i k : Nat) : Bool := D k || k == i

theorem add_iff {D : Nat → Bool} {i k : Nat} : add D i k = true ↔ D k = true ∨ k = i := by simp [add]

structure Inv (nt : Nat) (w0 : World) (O : Nat → Prop) (ρ0 : Rho) (B0 : List Ent) (call : Disp) (al : List (Nat × Nat)) (steps : List IStep) (e0 : Env) (st0 : St) (D : Nat → Bool) (a : Act) (w : World) (c : Nat) (st : St) (ρ : Rho) : Prop where
  closed : ∀ (i : Nat) (s : IStep), steps[i]? = some s → D i = true → ∀ j ∈ s.after, D j = true
  le : c ≤ steps.length
  top : c = steps.length ∨ ∃ s, steps[c]? = some s ∧ s.isS = true
  sdone : ∀ (i : Nat) (s : IStep), steps[i]? = some s → s.isS = true → (D i = true ↔ i < c)
  at_ : pre call (clos steps) al steps e0 c st0 = some st
  sim : Sim nt w0 O ρ0 B0 ⟨[], st.B, maskL (hidD al D) st.L⟩ a w ρ
  env : ∀ t, (∀ (i : Nat) (s : IStep), steps[i]? = some s → s.isS = false → s.dst = some t → D i = true) →
    SvRel w (Av O ρ st.B (maskL (hidD al D) st.L)) ρ st.B (maskL (hidD al D) st.L) (a.tmps.getD t undef) (st.env.get t) ∧ ∀ p, .l p ∈ (st.env.get t).ids → hidD al D p = false

theorem Sim.noenv {nt : Nat} {w0 : World} {ρ0 : Rho} {B0 : List Ent} {e : Env} {a : Act} (h : Sim nt w0 O ρ0 B0 ⟨e, B, L⟩ a w ρ) : Sim nt w0 O ρ0 B0 ⟨[], B, L⟩ a w ρ :=
  ⟨h.heap, fun t => trivial, h.size, h.dfr, h.chg, h.rho, h.av, h.lenB, h.noO⟩

theorem get_keep_mem {ks : List Nat} {e : Env} {t : Nat} (h : t ∈ ks) : (e.keep ks).get t = e.get t := by
  unfold Env.keep
  induction ks with
  | nil => simp at h
  | cons k ks ih =>
    simp only [List.map_cons, Env.get]
    split
    · rename_i h'; subst h'; rfl
    · rename_i h'
      rcases List.mem_cons.1 h with h | h
      · exact absurd h.symm h'
      · exact ih h

theorem get_keep_not {ks : List Nat} {e : Env} {t : Nat} (h : t ∉ ks) : (e.keep ks).get t = .unk := by
  unfold Env.keep
  induction ks with
  | nil => rfl
  | cons k ks ih =>
    simp only [List.map_cons, Env.get]
    rw [if_neg (fun e => h (by simp [e]))]
    exact ih fun h' => h (List.mem_cons_of_mem _ h')

theorem maskL_ext {h h' : Nat → Bool} {L L' : List Ent} (hl : L.length = L'.length) (he : ∀ p, p < L.length → (if h p then Ent.dead else L.getD p .dead) = (if h' p then Ent.dead else L'.getD p .dead)) : maskL h L = maskL h' L' := by
  apply List.ext_getElem (by rw [maskL_length, maskL_length, hl])
  intro p h1 h2
  have := he p (by rw [maskL_length] at h1; exact h1)
  rw [← getD_maskL, ← getD_maskL] at this
  rw [List.getD_eq_getElem?_getD, List.getD_eq_getElem?_getD, List.getElem?_eq_getElem h1, List.getElem?_eq_getElem h2] at this
  exact this

theorem ext_getD {L L' : List Ent} (hl : L.length = L'.length) (he : ∀ p, L.getD p .dead = L'.getD p .dead) : L = L' := by
  apply List.ext_getElem hl
  intro p h1 h2
  have := he p
  rw [List.getD_eq_getElem?_getD, List.getD_eq_getElem?_getD, List.getElem?_eq_getElem h1, List.getElem?_eq_getElem h2] at this
  exact this

/-- What is given of a drawn region. -/
structure Region' (P : Program) (nt : Nat) (ops : Array Oper) (steps : List IStep) (call : Disp) (al : List (Nat × Nat)) (L0 : List Ent) (e0 : Env) (st0 st' : St) : Prop where
  tr : trSteps P nt ops.toList ops.toList = some steps
  ok : OkD steps
  hal : al = allocsAt 0 L0.length steps
  hL0 : st0.L = L0 ++ drawEnts steps
  qs : ∀ (i : Nat) (s : IStep), steps[i]? = some s → isE (clos steps) steps i s = true → QSpec call st0.B L0 (clos steps) al steps e0 st0.env i s
  as : ∀ (i : Nat) (s : IStep) (sz : Nat) (z : FV), steps[i]? = some s → s.op = .alloc sz z → s.guard = none → ∃ p, (i, p) ∈ al ∧ L0.length ≤ p ∧ p < st0.L.length ∧ st0.L.getD p .dead = .own sz [z] ∧ 0 < sz ∧ z.cells.length = sz ∧ ∀ d, s.dst = some d → st0.env.get d = .ptr (.l p) sz 0 0
  he : ∀ t, unwritten steps t = true → st0.env.get t = e0.get t
  run : drawS call (clos steps) al steps e0 0 steps st0 = some st'

section
variable {nt : Nat} {ops : Array Oper} {steps : List IStep} {call : Disp} {al : List (Nat × Nat)} {L0 : List Ent} {e0 : Env} {st0 st' st : St} {w0 : World} {ρ0 : Rho} {B0 : List Ent} {D : Nat → Bool} {a : Act} {c : Nat}

theorem Inv.waited (R : Region' P nt ops steps call al L0 e0 st0 st') (I : Inv nt w0 O ρ0 B0 call al steps e0 st0 D a w c st ρ) {i j : Nat} {s : IStep} (hs : steps[i]? = some s) (hk : ∀ k ∈ s.after, D k = true) (hw : waits (clos steps) i j = true) : D j = true :=
  waits_D (D := fun k => D k = true) R.ok.lt I.closed i j s hs hk hw

theorem Inv.pf (R : Region' P nt ops steps call al L0 e0 st0 st') (I : Inv nt w0 O ρ0 B0 call al steps e0 st0 D a w c st ρ) : PF (clos steps) al steps e0 st0 st 0 c := pf_le R.he (pre_zero _ _) (Nat.zero_le _) I.le I.at_

theorem Inv.s_lt (I : Inv nt w0 O ρ0 B0 call al steps e0 st0 D a w c st ρ) {k : Nat} {q : IStep} (hk : k < c) (hq : steps[k]? = some q) (hS : q.isS = true) : D k = true := (I.sdone k q hq hS).2 hk

/-- No store that is done waited for what is not done. -/
theorem Inv.not_waited (R : Region' P nt ops steps call al L0 e0 st0 st') (I : Inv nt w0 O ρ0 B0 call al steps e0 st0 D a w c st ρ) {i k : Nat} {q : IStep} (hD : D i = false) (hk : k < c) (hq : steps[k]? = some q) (hS : q.isS = true) : waits (clos steps) k i = false := by
  cases hw : Ab.waits (clos steps) k i with
  | false => rfl
  | true =>
    have := I.waited R hq (I.closed k q hq (I.s_lt hk hq hS)) hw
    rw [hD] at this; cases this

theorem al_isA (R : Region' P nt ops steps call al L0 e0 st0 st') {k p : Nat} (h : (k, p) ∈ al) : L0.length ≤ p ∧ ∃ s, steps[k]? = some s ∧ s.isA = true := by
  rw [R.hal] at h
  obtain ⟨h1, _, _, s, h2, h3⟩ := allocs_mem steps _ _ _ _ h
  exact ⟨h1, s, by simpa using h2, h3⟩

theorem hid_new (R : Region' P nt ops steps call al L0 e0 st0 st') {D : Nat → Bool} {p : Nat} (hp : p < L0.length) : hidD al D p = false := by
  cases h : hidD al D p with
  | false => rfl
  | true =>
    obtain ⟨k, h1, _⟩ := hidD_iff.1 h
    have := (al_isA R h1).1
    omega

theorem hid_add (R : Region' P nt ops steps call al L0 e0 st0 st') {i : Nat} {s : IStep} (hs : steps[i]? = some s) (ha : s.isA = false) : hidD al (add D i) = hidD al D := by
  funext p
  rw [Bool.eq_iff_iff, hidD_iff, hidD_iff]
  refine exists_congr fun k => and_congr_right fun h1 => ?_
  obtain ⟨_, s', h2, h3⟩ := al_isA R h1
  have : k ≠ i := by
    rintro rfl
    rw [hs] at h2; injection h2 with h2; subst h2
    rw [ha] at h3; cases h3
  simp [add, this]

theorem hid_sub (R : Region' P nt ops steps call al L0 e0 st0 st') (I : Inv nt w0 O ρ0 B0 call al steps e0 st0 D a w c st ρ) {i p : Nat} {s : IStep} (hs : steps[i]? = some s) (hk : ∀ k ∈ s.after, D k = true) (h : hidD al D p = true) : hidFor (clos steps) al i p = true := by
  obtain ⟨k, h1, h2⟩ := hidD_iff.1 h
  refine hidFor_iff.2 ⟨k, h1, ?_⟩
  cases hw : Ab.waits (clos steps) i k with
  | false => rfl
  | true =>
    have := I.waited R hs hk hw
    rw [h2] at this; cases this

/-- What a step reads is there. -/
theorem Inv.claim (R : Region' P nt ops steps call al L0 e0 st0 st') (I : Inv nt w0 O ρ0 B0 call al steps e0 st0 D a w c st ρ) {i : Nat} {s : IStep} (hs : steps[i]? = some s) (hk : ∀ k ∈ s.after, D k = true) {t : Nat} (ht : t ∈ s.reads) :
    ∀ (k : Nat) (q : IStep), steps[k]? = some q → q.isS = false → q.dst = some t → D k = true := by
  intro k q hq hS hd
  by_cases hki : k = i
  · subst hki
    rw [hs] at hq; injection hq with hq; subst hq
    exact absurd ht (R.ok.self k s hs hS t hd)
  · have := R.ok.rd i k s q t hs hq (fun e => hki e.symm) hd ht
    rw [if_neg (by simp [hS])] at this
    exact I.waited R hs hk this

theorem isE_iff {cl : List (List Nat)} {i : Nat} {s : IStep} : isE cl steps i s = true ↔ s.isA = false ∧ s.isS = false ∧ late cl steps i = false := by
  simp only [isE, Bool.not_eq_true', Bool.or_eq_false_iff, and_assoc]

/-- A step that waits for no store finds what the drawing found. -/
theorem Inv.same (R : Region' P nt ops steps call al L0 e0 st0 st') (I : Inv nt w0 O ρ0 B0 call al steps e0 st0 D a w c st ρ) {i : Nat} {s : IStep} (hs : steps[i]? = some s) (hE : isE (clos steps) steps i s = true) (hD : D i = false) {t : Nat} (ht : t ∈ s.reads) : st.env.get t = st0.env.get t := by
  obtain ⟨hA, hS, hL⟩ := isE_iff.1 hE
  refine (I.pf R).env t fun k q _ hk hq hw hd => ?_
  have hki : i ≠ k := by
    rintro rfl
    rw [hs] at hq; injection hq with hq; subst hq
    simp [writes, hS, hL] at hw
  have := R.ok.rd i k s q t hs hq hki hd ht
  split at this
  · rename_i hqS
    rcases this with h | h | h
    · rw [hS] at h; cases h
    · rw [I.not_waited R hD hk hq hqS] at h; cases h
    · have := late_iff.2 ⟨k, q, waits_lt R.ok.lt i k s hs h, hq, hqS, h⟩
      rw [hL] at this; cases this
  · rename_i hqS
    have hqf : q.isS = false := by simpa using hqS
    simp only [writes, hqf, Bool.false_or, Bool.and_eq_true] at hw
    obtain ⟨j, r, hj, hr, hrS, hwt⟩ := late_iff.1 hw.2
    have hij := waits_trans R.ok.lt i k j s hs this hwt
    have := late_iff.2 ⟨j, r, waits_lt R.ok.lt i j s hs hij, hr, hrS, hij⟩
    rw [hL] at this; cases this

theorem Inv.same_dst (R : Region' P nt ops steps call al L0 e0 st0 st') (I : Inv nt w0 O ρ0 B0 call al steps e0 st0 D a w c st ρ) {i : Nat} {s : IStep} (hs : steps[i]? = some s) (hS : s.isS = false) (hW : writes (clos steps) steps i s = false) {d : Nat} (hd : s.dst = some d) : st.env.get d = st0.env.get d := by
  refine (I.pf R).env d fun k q _ hk hq hw hqd => ?_
  have hki : k ≠ i := by
    rintro rfl
    rw [hs] at hq; injection hq with hq; subst hq
    rw [hW] at hw; cases hw
  exact R.ok.dst k i q s d hq hs hki hd (.inr hS) hqd

/-- A step that waits for stores finds what was there behind them. -/
theorem Inv.late_lt (R : Region' P nt ops steps call al L0 e0 st0 st') (I : Inv nt w0 O ρ0 B0 call al steps e0 st0 D a w c st ρ) {i : Nat} {s : IStep} (hs : steps[i]? = some s) (hS : s.isS = false) (hL : late (clos steps) steps i = true) (hk : ∀ k ∈ s.after, D k = true) : i < c := by
  have hlt := (List.getElem?_eq_some_iff.1 hs).1
  rcases I.top with h | ⟨q, hq, hqS⟩
  · omega
  · apply Classical.byContradiction; intro hn
    have hne : c ≠ i := by
      rintro rfl
      rw [hs] at hq; injection hq with hq; subst hq
      rw [hS] at hqS; cases hqS
    have := (I.sdone c q hq hqS).1 (I.waited R hs hk (R.ok.lat i c s q hs hS hL hq hqS (by omega)))
    omega

theorem pre_he (R : Region' P nt ops steps call al L0 e0 st0 st') {i : Nat} {stI : St} (hi : i ≤ steps.length) (hI : pre call (clos steps) al steps e0 i st0 = some stI) : ∀ t, unwritten steps t = true → stI.env.get t = e0.get t := fun t hu => by
  rw [(pf_le R.he (pre_zero _ _) (Nat.zero_le i) hi hI).env t fun k s _ _ hs _ => unwritten_dst hu hs]; exact R.he t hu

theorem Inv.same_late (R : Region' P nt ops steps call al L0 e0 st0 st') (I : Inv nt w0 O ρ0 B0 call al steps e0 st0 D a w c st ρ) {i : Nat} {s : IStep} {stI : St} (hs : steps[i]? = some s) (hS : s.isS = false) (hD : D i = false) (hI : pre call (clos steps) al steps e0 i st0 = some stI) (hic : i < c) {t : Nat} (ht : t ∈ s.reads) : st.env.get t = stI.env.get t := by
  refine (pf_le (pre_he R (by have := I.le; omega) hI) hI (Nat.le_of_lt hic) I.le I.at_).env t fun k q hik hk hq hw hd => ?_
  by_cases hki : i = k
  · subst hki
    rw [hs] at hq; injection hq with hq; subst hq
    exact R.ok.self i s hs hS t hd ht
  · have := R.ok.rd i k s q t hs hq hki hd ht
    split at this
    · rename_i hqS
      rcases this with h | h | h
      · rw [hS] at h; cases h
      · rw [I.not_waited R hD hk hq hqS] at h; cases h
      · have := waits_lt R.ok.lt i k s hs h; omega
    · have := waits_lt R.ok.lt i k s hs this; omega

theorem Inv.late_dst (R : Region' P nt ops steps call al L0 e0 st0 st') (I : Inv nt w0 O ρ0 B0 call al steps e0 st0 D a w c st ρ) {i : Nat} {s : IStep} {stI : St} (hs : steps[i]? = some s) (hS : s.isS = false) (hI : pre call (clos steps) al steps e0 (i + 1) st0 = some stI) (hic : i < c) {d : Nat} (hd : s.dst = some d) : st.env.get d = stI.env.get d := by
  refine (pf_le (pre_he R (by have := I.le; omega) hI) hI hic I.le I.at_).env d fun k q hik hk hq hw hqd => ?_
  exact R.ok.dst k i q s d hq hs (by omega) hd (.inr hS) hqd

theorem ent_valid {B L : List Ent} {id : Id} (h : ent B L id ≠ .dead) : id.valid B L := by
  cases id with
  | b j =>
    simp only [Id.valid]
    apply Classical.byContradiction; intro hn
    apply h
    simp only [ent]
    rw [List.getD_eq_getElem?_getD, List.getElem?_eq_none (by omega)]; rfl
  | l j =>
    simp only [Id.valid]
    apply Classical.byContradiction; intro hn
    apply h
    simp only [ent]
    rw [List.getD_eq_getElem?_getD, List.getElem?_eq_none (by omega)]; rfl

theorem ent_hide {B L : List Ent} {id : Id} (h : ent (B.map Ent.hide) (L.map Ent.hide) id ≠ .dead) : ent (B.map Ent.hide) (L.map Ent.hide) id = ent B L id ∧ (ent B L id).isOwn = false ∧ ent B L id ≠ .dead := by
  have he : ent (B.map Ent.hide) (L.map Ent.hide) id = (ent B L id).hide := by
    cases id <;> simp only [ent, List.getD_eq_getElem?_getD, List.getElem?_map]
    · rename_i j; cases B[j]? <;> rfl
    · rename_i j; cases L[j]? <;> rfl
  rw [he] at h ⊢
  cases hc : ent B L id <;> rw [hc] at h <;> simp [Ent.hide, Ent.isOwn] at h ⊢

theorem Inv.keep_env (R : Region' P nt ops steps call al L0 e0 st0 st') (I : Inv nt w0 O ρ0 B0 call al steps e0 st0 D a w c st ρ) {i : Nat} {s : IStep} (hs : steps[i]? = some s) (hk : ∀ k ∈ s.after, D k = true) {ks : List Nat} (hks : ∀ t ∈ ks, t ∈ s.reads) (t : Nat) :
    SvRel w (Av O ρ st.B (maskL (hidD al D) st.L)) ρ st.B (maskL (hidD al D) st.L) (a.tmps.getD t undef) ((st.env.keep ks).get t) := by
  by_cases h : t ∈ ks
  · rw [get_keep_mem h]; exact (I.env t (I.claim R hs hk (hks t h))).1
  · rw [get_keep_not h]; trivial

theorem closed_add (I : Inv nt w0 O ρ0 B0 call al steps e0 st0 D a w c st ρ) {i : Nat} {s : IStep} (hs : steps[i]? = some s) (hk : ∀ k ∈ s.after, D k = true) :
    ∀ (j : Nat) (q : IStep), steps[j]? = some q → add D i j = true → ∀ k ∈ q.after, add D i k = true := by
  intro j q hq hj k hkq
  rcases add_iff.1 hj with h | rfl
  · exact add_iff.2 (.inl (I.closed j q hq h k hkq))
  · rw [hs] at hq; injection hq with hq; subst hq
    exact add_iff.2 (.inl (hk k hkq))

theorem tgt_of {cl : List (List Nat)} {i k : Nat} {id : Id} {q : IStep} (h : mayTurn cl steps e0 i id = false) (hq : steps[k]? = some q) (hS : q.isS = true) (h1 : Ab.waits cl k i = false) (h2 : Ab.waits cl i k = false) : ∃ ids, tgt steps e0 q = some ids ∧ id ∉ ids := by
  have hlt := (List.getElem?_eq_some_iff.1 hq).1
  unfold mayTurn at h
  rw [List.any_eq_false] at h
  have := h k (List.mem_range.2 hlt)
  rw [hq] at this
  simp only [hS, h1, h2, Bool.not_false, Bool.and_true, Bool.true_and] at this
  cases ht : tgt steps e0 q with
  | none => rw [ht] at this; simp at this
  | some ids => rw [ht] at this; exact ⟨ids, rfl, by simpa using this⟩

/-- A reading step. -/
theorem step_Q (good : Good P call) (R : Region' P nt ops steps call al L0 e0 st0 st') (I : Inv nt w0 O ρ0 B0 call al steps e0 st0 D a w c st ρ) {i : Nat} {s : IStep} {o : Oper} (hs : steps[i]? = some s) (ho : ops[i]? = some o)
    (ht : trStep P nt ops.toList o = some s) (hD : D i = false) (hk : ∀ k ∈ s.after, D k = true) (hq : s.isQ = true) {K : Act → World → Prop} {Q : Exit → Act → World → Prop}
    (hK : ∀ a w c st ρ, Inv nt w0 O ρ0 B0 call al steps e0 st0 (add D i) a w c st ρ → K a w) : wpOp P ops Q i K a w := by
  have hA : s.isA = false := by simp only [IStep.isQ, Bool.not_eq_true', Bool.or_eq_false_iff] at hq; exact hq.1
  have hS : s.isS = false := by simp only [IStep.isQ, Bool.not_eq_true', Bool.or_eq_false_iff] at hq; exact hq.2
  obtain ⟨t1, t2, t3, t4, _, _⟩ := trStep_parts ht
  have hsl : ∀ t ∈ s.op.slots, t ∈ s.reads := fun t ht => by unfold IStep.reads; exact List.mem_append_left _ ht
  -- the invariant after the step
  have next : ∀ (v : Value) (w' : World) (sv : SV), Chg (fun _ => False) w w' → SvRel w' (Av O ρ st.B (maskL (hidD al D) st.L)) ρ st.B (maskL (hidD al D) st.L) v sv → (∀ d, s.dst = some d → st.env.get d = sv) →
      (∀ p, .l p ∈ sv.ids → hidD al D p = false) → K (a.put o.dst v) w' := by
    intro v w' sv hc hr hd hids
    have hx := I.sim.heap.grow hc
    refine hK _ _ c st ρ ⟨closed_add I hs hk, I.le, I.top, fun j q hj hjS => ?_, I.at_, ?_, fun t hcl => ?_⟩
    · rw [add_iff, I.sdone j q hj hjS]
      refine ⟨fun h => h.elim id fun e => ?_, .inl⟩
      subst e; rw [hs] at hj; injection hj with hj; subst hj; rw [hS] at hjS; cases hjS
    · rw [hid_add R hs hA]
      exact (I.sim.step hx (d := o.dst) (v := v) (s := sv) t3 hr).noenv
    · rw [hid_add R hs hA]
      rw [put_getD a o.dst v t (fun u hu => by rw [I.sim.size]; exact t3 u hu)]
      by_cases hdt : o.dst = some t
      · rw [if_pos hdt, hd t (t2.trans hdt)]
        exact ⟨hr, hids⟩
      · rw [if_neg hdt]
        obtain ⟨e1, e2⟩ := I.env t fun k q hk' hkS hkd => by
          rcases add_iff.1 (hcl k q hk' hkS hkd) with h | rfl
          · exact h
          · rw [hs] at hk'; injection hk' with hk'; subst hk'
            exact absurd (t2.symm.trans hkd) hdt
        exact ⟨hx.sv e1, e2⟩
  have run : ∀ v, evQ call s.op (opd st.env) st.B (maskL (hidD al D) st.L) = some v → okIds (clos steps) al i v = true → (∀ d, s.dst = some d → st.env.get d = v) → Region.wanted o (yielded ops a.tmps) = true → wpOp P ops Q i K a w := by
    intro v v1 v2 v3 hw
    have hidi : ∀ p, .l p ∈ v.ids → hidD al D p = false := by
      intro p hp
      cases hh : hidD al D p with
      | false => rfl
      | true =>
        have h1 := hid_sub R I hs hk hh
        unfold okIds at v2
        rw [List.all_eq_true] at v2
        have := v2 _ hp
        simp [h1] at this
    have hev : evQ call s.op (opd (st.env.keep s.op.slots)) st.B (maskL (hidD al D) st.L) = some v := by
      rw [evQ_congr s.op (e' := st.env) fun t ht => get_keep_mem ht]; exact v1
    unfold wpOp
    simp only [ho, hw, if_true]
    exact .inl (evQ_wp good o I.sim.heap (ops_of (I.keep_env R hs hk hsl) o.op) t1 hev fun u w' h1 h2 => next u w' v h1 h2 v3 hidi)
  have skip : (∀ d, s.dst = some d → st.env.get d = .unk) → Region.wanted o (yielded ops a.tmps) = false → wpOp P ops Q i K a w := by
    intro hu hw
    unfold wpOp
    simp only [ho]
    rw [if_neg (by rw [hw]; simp)]
    exact next undef w .unk (Chg.refl _ _) trivial hu (fun p hp => by simp [SV.ids] at hp)
  have guard : ∀ t want b, s.guard = some (t, want) → st.env.get t = .fv (.bool b) → Region.wanted o (yielded ops a.tmps) = (b == want) := by
    intro t want b hg hb
    have htr : t ∈ s.reads := by unfold IStep.reads; rw [hg]; simp
    have hwn := guard_wanted (ops := ops.toList) I.sim.size (I.keep_env R hs hk (ks := [t]) (fun u hu => by rw [List.mem_singleton.1 hu]; exact htr)) (by rw [t4, hg]) (b := b) (by rw [get_keep_mem (by simp)]; exact hb)
    rw [Array.toArray_toList] at hwn
    exact hwn
  have htr : ∀ t want, s.guard = some (t, want) → t ∈ s.reads := fun t want hg => by unfold IStep.reads; rw [hg]; simp
  cases hL : late (clos steps) steps i with
  | false =>
    have hE : isE (clos steps) steps i s = true := isE_iff.2 ⟨hA, hS, hL⟩
    have hW : writes (clos steps) steps i s = false := by simp [writes, hS, hL]
    have use : ∀ v, QVal call st0.B L0 (clos steps) al steps e0 st0.env i s v → Region.wanted o (yielded ops a.tmps) = true → wpOp P ops Q i K a w := by
      intro v hv hw
      obtain ⟨v1, v2, v3⟩ := hv
      have hvalid : ∀ id, ent st0.B L0 id ≠ .dead → id.valid st0.B st0.L ∧ ent st0.B st0.L id = ent st0.B L0 id ∧ hid (hidD al D) id = false := by
        intro id hne
        have hv := ent_valid hne
        cases id with
        | b j => exact ⟨hv, rfl, rfl⟩
        | l j =>
          have hj : j < L0.length := hv
          refine ⟨by simp only [Id.valid, R.hL0, List.length_append]; omega, ?_, hid_new R hj⟩
          simp only [ent, R.hL0, List.getD_eq_getElem?_getD]
          rw [List.getElem?_append_left hj]
      have hl1 : Less (hideBy (mayTurn (clos steps) steps e0 i) st0.B L0).1 (hideBy (mayTurn (clos steps) steps e0 i) st0.B L0).2 st.B (maskL (hidD al D) st.L) := by
        intro id hne
        obtain ⟨k1, k2, k3⟩ := hideBy_seen hne
        obtain ⟨h1, h2, h3⟩ := hvalid id k2
        rw [k1, ent_maskL, if_neg (by simp [h3]), ← h2]
        rcases k3 with k3 | k3
        · exact (I.pf R).frz id h1 (by rw [h2]; exact k3)
        · refine (I.pf R).quiet id h1 fun k q _ hkc hkq hkS => ?_
          exact tgt_of k3 hkq hkS (I.not_waited R hD hkc hkq hkS) (by
            cases hw : Ab.waits (clos steps) i k with
            | false => rfl
            | true =>
              have := late_iff.2 ⟨k, q, waits_lt R.ok.lt i k s hs hw, hkq, hkS, hw⟩
              rw [hL] at this; cases this)
      refine run v ?_ v2 (fun d hd => (I.same_dst R hs hS hW hd).trans (v3 d hd)) hw
      rw [evQ_congr s.op (e' := st0.env) fun t ht => I.same R hs hE hD (hsl t ht)]
      exact evQ2_use v1 hl1
    have spec := R.qs i s hs hE
    unfold QSpec at spec
    cases hg : s.guard with
    | none =>
      rw [hg] at spec
      obtain ⟨v, hv⟩ := spec
      exact use v hv (wanted_none (by rw [t4, hg]))
    | some tw =>
      obtain ⟨t, want⟩ := tw
      rw [hg] at spec
      obtain ⟨b, hb, spec⟩ := spec
      have hwn := guard t want b hg ((I.same R hs hE hD (htr t want hg)).trans hb)
      rcases spec with ⟨rfl, v, hv⟩ | ⟨hne, hu⟩
      · exact use v hv (by rw [hwn]; simp)
      · exact skip (fun d hd => (I.same_dst R hs hS hW hd).trans (hu d hd)) (by rw [hwn]; simpa using hne)
  | true =>
    have hic := I.late_lt R hs hS hL hk
    obtain ⟨stI, hI⟩ := pre_some R.run i
    obtain ⟨stJ, hJ⟩ := pre_some R.run (i + 1)
    have hJ' := hJ
    rw [pre_succ hs, hI, Option.bind_some] at hJ'
    rcases stepS_cases hJ' with ⟨_, h, _⟩ | ⟨h, _⟩ | ⟨_, _, _, v, rfl, hm⟩
    · rcases h with h | h
      · rw [hA] at h; cases h
      · rw [hL] at h; cases h
    · rw [hS] at h; cases h
    have hdst : ∀ d, s.dst = some d → st.env.get d = v := fun d hd => by
      rw [I.late_dst R hs hS hJ hic hd]
      simp only
      rw [get_putO, if_pos hd]
    have P' := pf_le (pre_he R (by have := I.le; omega) hI) hI (Nat.le_of_lt hic) I.le I.at_
    have use : evQ2 call (mayTurn (clos steps) steps e0 i) s.op (opd stI.env) stI.B (maskL (hidFor (clos steps) al i) stI.L) = some v → okIds (clos steps) al i v = true → Region.wanted o (yielded ops a.tmps) = true → wpOp P ops Q i K a w := by
      intro v1 v2 hw
      have hvalid : ∀ id, ent stI.B (maskL (hidFor (clos steps) al i) stI.L) id ≠ .dead → id.valid stI.B stI.L ∧ ent stI.B (maskL (hidFor (clos steps) al i) stI.L) id = ent stI.B stI.L id ∧ hid (hidD al D) id = false := by
        intro id hne
        rw [ent_maskL] at hne ⊢
        split at hne
        · exact absurd rfl hne
        · rename_i hf
          refine ⟨ent_valid hne, by rw [if_neg hf], ?_⟩
          cases id with
          | b j => rfl
          | l p =>
            cases hh : hidD al D p with
            | false => exact hh
            | true => exact absurd (hid_sub R I hs hk hh) hf
      have hl1 : Less (hideBy (mayTurn (clos steps) steps e0 i) stI.B (maskL (hidFor (clos steps) al i) stI.L)).1 (hideBy (mayTurn (clos steps) steps e0 i) stI.B (maskL (hidFor (clos steps) al i) stI.L)).2 st.B (maskL (hidD al D) st.L) := by
        intro id hne
        obtain ⟨k1, k2, k3⟩ := hideBy_seen hne
        obtain ⟨h1, h2, h3⟩ := hvalid id k2
        rw [k1, h2, ent_maskL, if_neg (by simp [h3])]
        rcases k3 with k3 | k3
        · exact P'.frz id h1 (by rw [← h2]; exact k3)
        · refine P'.quiet id h1 fun k q hik hkc hkq hkS => ?_
          exact tgt_of k3 hkq hkS (I.not_waited R hD hkc hkq hkS) (by
            cases hw : Ab.waits (clos steps) i k with
            | false => rfl
            | true => have := waits_lt R.ok.lt i k s hs hw; omega)
      refine run v ?_ v2 hdst hw
      rw [evQ_congr s.op (e' := stI.env) fun t ht => I.same_late R hs hS hD hI hic (hsl t ht)]
      exact evQ2_use v1 hl1
    cases hg : s.guard with
    | none =>
      rw [hg] at hm
      exact use hm.1 hm.2 (wanted_none (by rw [t4, hg]))
    | some tw =>
      obtain ⟨t, want⟩ := tw
      rw [hg] at hm
      obtain ⟨b, hb, hm⟩ := hm
      have hwn := guard t want b hg ((I.same_late R hs hS hD hI hic (htr t want hg)).trans hb)
      rcases hm with ⟨rfl, v1, v2⟩ | ⟨hne, hu⟩
      · exact use v1 v2 (by rw [hwn]; simp)
      · exact skip (fun d hd => (hdst d hd).trans hu) (by rw [hwn]; simpa using hne)
end
end
end Go.Ab
