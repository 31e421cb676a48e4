/- A part of the proof: an evaluator of programs, its soundness, and what it says of the functions in hand. It holds without further conditions. -/
import Derived.Test.YtpfbgpclhkjgaaaGreatAb22
set_option linter.unusedVariables false
set_option linter.unusedSimpArgs false
namespace Go.Ab
section
variable {P : Program} {w w' : World} {O : Nat → Prop} {ρ : Rho} {B L : List Ent}
section
variable {nt : Nat} {ops : Array Oper} {steps : List IStep} {call : Disp} {al : List (Nat × Nat)} {L0 : List Ent} {e0 : Env} {st0 st' st : St} {w0 : World} {ρ0 : Rho} {B0 : List Ent} {D : Nat → Bool} {a : Act} {c : Nat}

/-- The next store. -/
theorem nextS (steps : List IStep) : ∀ (d m : Nat), m + d = steps.length → ∃ c, m ≤ c ∧ c ≤ steps.length ∧ (∀ (k : Nat) (q : IStep), m ≤ k → k < c → steps[k]? = some q → q.isS = false) ∧ (c = steps.length ∨ ∃ s, steps[c]? = some s ∧ s.isS = true)
  | 0, m, h => ⟨m, Nat.le_refl _, by omega, fun k q h1 h2 => by omega, .inl (by omega)⟩
  | d + 1, m, h => by
    have hs := List.getElem?_eq_getElem (l := steps) (i := m) (by omega)
    cases hS : (steps[m]).isS with
    | true => exact ⟨m, Nat.le_refl _, by omega, fun k q h1 h2 => by omega, .inr ⟨_, hs, hS⟩⟩
    | false =>
      obtain ⟨c, h1, h2, h3, h4⟩ := nextS steps d (m + 1) (by omega)
      refine ⟨c, by omega, h2, fun k q k1 k2 hq => ?_, h4⟩
      by_cases hk : k = m
      · subst hk
        rw [hs] at hq; injection hq with hq; rw [← hq]; exact hS
      · exact h3 k q (by omega) k2 hq

/-- Before a store all stores before it are done. -/
theorem Inv.at_S (R : Region' P nt ops steps call al L0 e0 st0 st') (I : Inv nt w0 O ρ0 B0 call al steps e0 st0 D a w c st ρ) {i : Nat} {s : IStep} (hs : steps[i]? = some s) (hS : s.isS = true) (hD : D i = false) (hk : ∀ k ∈ s.after, D k = true) : c = i := by
  have hci : c ≤ i := by
    apply Classical.byContradiction; intro hn
    have := (I.sdone i s hs hS).2 (by omega)
    rw [hD] at this; cases this
  have hlt := (List.getElem?_eq_some_iff.1 hs).1
  rcases I.top with h | ⟨q, hq, hqS⟩
  · omega
  · apply Classical.byContradiction; intro hn
    have := (I.sdone c q hq hqS).1 (I.waited R hs hk (R.ok.sord i c s q hs hq hS hqS (by omega)))
    omega

theorem step_S (R : Region' P nt ops steps call al L0 e0 st0 st') (I : Inv nt w0 O ρ0 B0 call al steps e0 st0 D a w c st ρ) {i : Nat} {s : IStep} {o : Oper} (hs : steps[i]? = some s) (ho : ops[i]? = some o)
    (ht : trStep P nt ops.toList o = some s) (hD : D i = false) (hk : ∀ k ∈ s.after, D k = true) (hA : s.isA = false) (hS : s.isS = true) {K : Act → World → Prop} {Q : Exit → Act → World → Prop}
    (hK : ∀ a w c st ρ, Inv nt w0 O ρ0 B0 call al steps e0 st0 (add D i) a w c st ρ → K a w) : wpOp P ops Q i K a w := by
  have hci := (I.at_S R hs hS hD hk).symm
  subst hci
  obtain ⟨t1, t2, t3, t4, _, _⟩ := trStep_parts ht
  obtain ⟨hg, hnc⟩ := isS_notCall ht hS
  have hlt := (List.getElem?_eq_some_iff.1 hs).1
  have hsl : ∀ t ∈ s.op.slots, t ∈ s.reads := fun t ht => by unfold IStep.reads; exact List.mem_append_left _ ht
  obtain ⟨st1, hst1⟩ := pre_some R.run (i + 1)
  have hst1' := hst1
  rw [pre_succ hs, I.at_, Option.bind_some] at hst1'
  rcases stepS_cases hst1' with ⟨hf, _⟩ | ⟨_, v, B', L', h3, h4, _, rfl⟩ | ⟨hf, _⟩
  · rw [hS] at hf; cases hf
  case inr.inr => rw [hS] at hf; cases hf
  have hsub : ∀ p, hidD al D p = true → hidFor (clos steps) al i p = true := fun p h => hid_sub R I hs hk h
  have hmm : maskL (hidFor (clos steps) al i) (maskL (hidD al D) st.L) = maskL (hidFor (clos steps) al i) st.L := by
    refine maskL_ext (maskL_length _ _) fun p _ => ?_
    split
    · rfl
    · rename_i hf
      rw [getD_maskL, if_neg (fun h => hf (hsub p h))]
  rw [evA_congr s.op (e' := st.env.keep s.op.slots) fun t ht => (get_keep_mem ht).symm, ← hmm] at h3
  have hh := heap_mask I.sim.heap (hidFor (clos steps) al i)
  have acts := evA_run (P := P) o hh (ops_of (fun t => sv_mask _ (I.keep_env R hs hk hsl t)) o.op) t1 hnc h3
  have hel : st.L.length ≤ L'.length := by
    have := (evA_ents h3).2.1
    rw [maskL_length, maskL_length] at this; exact this
  obtain ⟨f0, f1, f2⟩ := frzNew_weak steps s st.L.length v B' L'
  generalize hB2 : (frzNew steps s st.L.length v B' L').1 = B2 at *
  generalize hL2 : (frzNew steps s st.L.length v B' L').2 = L2 at *
  have hrest : restL (hidFor (clos steps) al i) (maskL (hidD al D) st.L) L2 = maskL (hidD al D) (restL (hidFor (clos steps) al i) st.L L2) := by
    refine ext_getD (by rw [restL_length, maskL_length, restL_length]) fun p => ?_
    rw [getD_restL, getD_maskL, getD_maskL, getD_restL]
    by_cases h1 : hidD al D p = true
    · rw [if_pos h1, if_pos h1]
      by_cases h2 : p < L2.length
      · rw [if_pos ⟨h2, hsub p h1⟩]
      · rw [if_neg (fun h => h2 h.1), List.getD_eq_getElem?_getD, List.getElem?_eq_none (by omega)]; rfl
    · rw [if_neg h1, if_neg h1]
  unfold wpOp
  simp only [ho]
  rw [if_pos (wanted_none (by rw [t4, hg]))]
  refine .inl (acts.wp fun u w' ρ' hx0 hr0 => ?_)
  have hx := hx0.trans (Ext.weaken hx0.heap f0 f1 f2) hh
  have hr := SvRel.weak f0 f1 (Nat.le_of_eq f2.symm) hr0
  have hx2 := unmask_ext I.sim.heap _ hx
  have hr2 := unmask_sv I.sim.heap _ hx hr
  rw [hrest] at hx2 hr2
  have hadd : hidD al (add D i) = hidD al D := hid_add R hs hA
  obtain ⟨c', c1, c2, c3, c4⟩ := nextS steps (steps.length - (i + 1)) (i + 1) (by omega)
  obtain ⟨st2, hst2⟩ := pre_some R.run c'
  have P' := pf_le (pre_he R (by omega) hst1) hst1 c1 c2 hst2
  obtain ⟨e1, e2⟩ := P'.noS c3
  refine hK _ _ c' st2 ρ' ⟨closed_add I hs hk, c2, c4, fun k q hq hqS => ?_, hst2, ?_, fun t hcl => ?_⟩
  · rw [add_iff, I.sdone k q hq hqS]
    constructor
    · intro h; omega
    · intro h
      apply Classical.byContradiction; intro hn
      rw [c3 k q (by omega) h hq] at hqS; cases hqS
  · rw [hadd, e1, e2]
    exact (I.sim.step hx2 (d := o.dst) (v := u) (s := v) t3 hr2).noenv
  · have he : st2.env.get t = (putO st.env s.dst v).get t := by
      rw [P'.env t fun k q k1 k2 hq hw hd => ?_]
      have hqS := c3 k q k1 k2 hq
      simp only [writes, hqS, Bool.false_or, Bool.and_eq_true, Bool.not_eq_true'] at hw
      have hDk := hcl k q hq hqS hd
      rcases add_iff.1 hDk with h | h
      · have := I.waited R hq (I.closed k q hq h) (R.ok.lat k i q s hq hqS hw.2 hs hS (by omega))
        rw [hD] at this; cases this
      · omega
    rw [he, hadd, e1, e2, put_getD a o.dst u t (fun u hu => by rw [I.sim.size]; exact t3 u hu), get_putO, t2]
    split
    · refine ⟨hr2, fun p hp => ?_⟩
      cases hh : hidD al D p with
      | false => rfl
      | true =>
        unfold okIds at h4
        rw [List.all_eq_true] at h4
        have := h4 _ hp
        simp [hsub p hh] at this
    · obtain ⟨e1, e2⟩ := I.env t fun k q hq hqS hqd => by
        rcases add_iff.1 (hcl k q hq hqS hqd) with h | rfl
        · exact h
        · rw [hs] at hq; injection hq with hq; subst hq
          rw [hS] at hqS; cases hqS
      exact ⟨hx2.sv e1, e2⟩

theorem step_A (R : Region' P nt ops steps call al L0 e0 st0 st') (I : Inv nt w0 O ρ0 B0 call al steps e0 st0 D a w c st ρ) {i : Nat} {s : IStep} {o : Oper} (hs : steps[i]? = some s) (ho : ops[i]? = some o)
    (ht : trStep P nt ops.toList o = some s) (hD : D i = false) (hk : ∀ k ∈ s.after, D k = true) (hA : s.isA = true) {K : Act → World → Prop} {Q : Exit → Act → World → Prop}
    (hK : ∀ a w c st ρ, Inv nt w0 O ρ0 B0 call al steps e0 st0 (add D i) a w c st ρ → K a w) : wpOp P ops Q i K a w := by
  obtain ⟨t1, t2, t3, t4, _, _⟩ := trStep_parts ht
  have hS := isA_notS ht hA
  obtain ⟨sz, z, hop, hg⟩ := isA_of hA
  obtain ⟨p, p1, p2, p3, p4, p5, p6, p7⟩ := R.as i s sz z hs hop hg
  rw [hop] at t1
  obtain ⟨e, he, e1, e2⟩ := trOp_alloc t1
  obtain ⟨zv, z1, z2, z3, z4⟩ := zeroOf_run e2
  have hLp : st.L.getD p .dead = .own sz [z] := by
    rw [← p4]
    refine (I.pf R).hid p p3 fun k q _ hkc hq hqS => hidFor_iff.2 ⟨i, p1, I.not_waited R hD hkc hq hqS⟩
  have hpl : p < (maskL (hidD al D) st.L).length := by rw [maskL_length]; have := (I.pf R).lenL; omega
  have hhp : hidD al D p = true := hidD_iff.2 ⟨i, p1, hD⟩
  have hdead : (maskL (hidD al D) st.L).getD p .dead = .dead := by rw [getD_maskL, if_pos hhp]
  have hadd : ∀ q, hidD al (add D i) q = true ↔ hidD al D q = true ∧ q ≠ p := by
    intro q
    rw [hidD_iff, hidD_iff]
    constructor
    · rintro ⟨k, h1, h2⟩
      simp only [add, Bool.or_eq_false_iff, beq_eq_false_iff_ne] at h2
      refine ⟨⟨k, h1, h2.1⟩, fun e => h2.2 ?_⟩
      subst e
      have := p1
      rw [R.hal] at h1 this
      exact (allocs_inj steps _ _ _ _ _ _ h1 this).2 rfl
    · rintro ⟨⟨k, h1, h2⟩, hne⟩
      refine ⟨k, h1, ?_⟩
      simp only [add, Bool.or_eq_false_iff, beq_eq_false_iff_ne]
      refine ⟨h2, fun e => hne ?_⟩
      subst e
      have := p1
      rw [R.hal] at h1 this
      exact (allocs_inj steps _ _ _ _ _ _ h1 this).1 rfl
  have hset : (maskL (hidD al D) st.L).set p (.own sz [z]) = maskL (hidD al (add D i)) st.L := by
    refine ext_getD (by simp [maskL_length]) fun q => ?_
    rw [getD_set _ _ _ _ hpl, getD_maskL, getD_maskL]
    by_cases hq : q = p
    · subst hq
      rw [if_pos rfl, if_neg (fun h => ((hadd q).1 h).2 rfl), hLp]
    · rw [if_neg hq]
      by_cases h1 : hidD al D q = true
      · rw [if_pos h1, if_pos ((hadd q).2 ⟨h1, hq⟩)]
      · rw [if_neg h1, if_neg (fun h => h1 ((hadd q).1 h).1)]
  obtain ⟨f1, f2, f3⟩ := fill_ext I.sim.heap e p5 p6 (z4 w _) hpl hdead
  rw [hset] at f1 f2 f3
  unfold wpOp
  simp only [ho]
  rw [if_pos (wanted_none (by rw [t4, hg]))]
  refine .inl ?_
  have hrun : (execOp a.eval o).run P w = .ok (.value (.pointer (some ⟨w.heap.size, 0, none⟩))) (w.alloc (.cells zv.cells e)) := by
    obtain ⟨dst, op, type, pos, after, guard⟩ := o
    simp only at he
    subst he
    simp [execOp, Instr.alloc, z1, newVar, newRow]
  unfold Oper.wp
  rw [hrun, Oper.upon_value]
  refine hK _ _ c st (upd ρ (.l p) (w.heap.size, 1)) ⟨closed_add I hs hk, I.le, I.top, fun k q hq hqS => ?_, I.at_, ?_, fun t hcl => ?_⟩
  · rw [add_iff, I.sdone k q hq hqS]
    refine ⟨fun h => h.elim id fun e => ?_, .inl⟩
    subst e; rw [hs] at hq; injection hq with hq; subst hq; rw [hS] at hqS; cases hqS
  · refine ⟨f1, fun t => trivial, by rw [(put_size a o.dst _).1]; exact I.sim.size, by rw [(put_size a o.dst _).2]; exact I.sim.dfr, I.sim.chg.then (Chg.alloc (fun _ => False) _ _) (fun _ _ h => h.elim), fun j hj => ?_, fun b hb hAv => ?_, I.sim.lenB, I.sim.noO⟩
    · rw [← I.sim.rho j hj]; simp [upd]
    · exact I.sim.av b hb (f2 b (Nat.lt_of_lt_of_le hb I.sim.chg.size) hAv)
  · rw [put_getD a o.dst _ t (fun u hu => by rw [I.sim.size]; exact t3 u hu)]
    by_cases hdt : o.dst = some t
    · rw [if_pos hdt, I.same_dst R hs hS (by simp [writes, hS, hA]) (t2.trans hdt), p7 t (t2.trans hdt)]
      refine ⟨⟨?_, ?_⟩, fun q hq => ?_⟩
      · simp only [Id.valid, maskL_length]; rw [maskL_length] at hpl; exact hpl
      · simp [upd]
      · simp only [SV.ids, List.mem_singleton, Id.l.injEq] at hq
        subst hq
        cases hh : hidD al (add D i) q with
        | false => rfl
        | true => exact absurd rfl ((hadd q).1 hh).2
    · rw [if_neg hdt]
      obtain ⟨e1', e2'⟩ := I.env t fun k q hq hqS hqd => by
        rcases add_iff.1 (hcl k q hq hqS hqd) with h | rfl
        · exact h
        · rw [hs] at hq; injection hq with hq; subst hq
          exact absurd (t2.symm.trans hqd) hdt
      refine ⟨f3 _ _ (fun j hj e => ?_) e1', fun q hq => ?_⟩
      · subst e
        rw [e2' p hj] at hhp; cases hhp
      · cases hh : hidD al (add D i) q with
        | false => rfl
        | true =>
        have := ((hadd q).1 hh).1
        rw [e2' q hq] at this; cases this

theorem inv_any (good : Good P call) (R : Region' P nt ops steps call al L0 e0 st0 st') {Q : Exit → Act → World → Prop} (hQ : ∀ a w ρ, Sim nt w0 O ρ0 B0 st' a w ρ → Q .normal a w) :
    ∀ (fuel : Nat) (listed : Array Bool) (U : List Nat) (a : Act) (w : World) (c : Nat) (st : St) (ρ : Rho), Inv nt w0 O ρ0 B0 call al steps e0 st0 (fun i => listed.getD i false) a w c st ρ →
      listed.size = ops.size → U.length ≤ fuel → (∀ i, i < ops.size → listed.getD i false = false → i ∈ U) → wpAny P .any ops Q fuel listed a w := by
  obtain ⟨hlen, hget⟩ := trSteps_get _ _ R.tr
  simp only [Array.length_toList] at hlen
  have hget : ∀ (i : Nat) (o : Oper), ops[i]? = some o → ∃ s, steps[i]? = some s ∧ trStep P nt ops.toList o = some s := fun i o ho => hget i o (by simpa using ho)
  have hready : ∀ (listed : Array Bool) (i : Nat), listed.size = ops.size → (i ∈ Region.ready .any ops listed ↔ i < ops.size ∧ listed.getD i false = false ∧ ∃ s, steps[i]? = some s ∧ ∀ k ∈ s.after, listed.getD k false = true) := by
    intro listed i hsz
    unfold Region.ready
    simp only [List.mem_filter, List.mem_range, Bool.and_eq_true, Bool.not_eq_true']
    refine and_congr_right fun hi => and_congr ?_ ?_
    · simp [Array.getD_eq_getD_getElem?, hsz, hi]
    · have ho := Array.getElem?_eq_getElem hi
      rw [ho]
      obtain ⟨s, h1, h2⟩ := hget i _ ho
      obtain ⟨_, _, _, _, t5, _⟩ := trStep_parts h2
      simp only [Option.map_some, Option.getD_some, Array.all_eq_true', Bool.or_eq_true, Bool.not_eq_true']
      constructor
      · intro h
        refine ⟨s, h1, fun k hk => ?_⟩
        rw [t5] at hk
        simp only [List.mem_eraseDups, List.mem_filterMap, Array.mem_toList_iff] at hk
        obtain ⟨e, he, hk⟩ := hk
        split at hk
        · rename_i hb
          injection hk with hk; subst hk
          rcases h e he with h | h
          · rw [hb] at h; cases h
          · exact h
        · cases hk
      · rintro ⟨s', h1', h⟩ e he
        rw [h1] at h1'; injection h1' with h1'; subst h1'
        cases hb : Region.binds .any e with
        | false => exact .inl rfl
        | true =>
          refine .inr (h e.on ?_)
          rw [t5]
          simp only [List.mem_eraseDups, List.mem_filterMap, Array.mem_toList_iff]
          exact ⟨e, he, by rw [if_pos hb]⟩
  -- nothing is ready: all is done
  have done : ∀ (listed : Array Bool) (a : Act) (w : World) (c : Nat) (st : St) (ρ : Rho), Inv nt w0 O ρ0 B0 call al steps e0 st0 (fun i => listed.getD i false) a w c st ρ → listed.size = ops.size → Region.ready .any ops listed = [] → Q .normal a w := by
    intro listed a w c st ρ I hsz hr
    have all : ∀ i, i < ops.size → listed.getD i false = true := by
      intro i
      induction i using Nat.strongRecOn with
      | _ i ih =>
        intro hi
        cases hD : listed.getD i false with
        | true => rfl
        | false =>
          obtain ⟨s, h1, h2⟩ := hget i _ (Array.getElem?_eq_getElem hi)
          have : i ∈ Region.ready .any ops listed := (hready listed i hsz).2 ⟨hi, hD, s, h1, fun k hk => by
            have hlt := R.ok.lt i s h1 k hk
            exact ih k hlt (by omega)⟩
          rw [hr] at this; cases this
    have hcn : c = steps.length := by
      rcases I.top with h | ⟨q, hq, hqS⟩
      · exact h
      · have hk := (List.getElem?_eq_some_iff.1 hq).1
        have := (I.sdone c q hq hqS).1 (all c (by omega))
        omega
    have hpre : pre call (clos steps) al steps e0 steps.length st0 = some st := by rw [← hcn]; exact I.at_
    rw [pre_all, R.run] at hpre
    injection hpre with hpre; subst hpre
    have hm : maskL (hidD al fun i => listed.getD i false) st'.L = st'.L := by
      refine ext_getD (maskL_length _ _) fun p => ?_
      rw [getD_maskL, if_neg]
      intro h
      obtain ⟨k, h1, h2⟩ := hidD_iff.1 h
      obtain ⟨_, s, h3, _⟩ := al_isA R h1
      have hk := (List.getElem?_eq_some_iff.1 h3).1
      rw [all k (by omega)] at h2; cases h2
    have hs := I.sim
    have he := I.env
    rw [hm] at hs he
    refine hQ a w ρ ⟨hs.heap, fun t => (he t fun k q hq _ _ => ?_).1, hs.size, hs.dfr, hs.chg, hs.rho, hs.av, hs.lenB, hs.noO⟩
    have hk := (List.getElem?_eq_some_iff.1 hq).1
    exact all k (by omega)
  intro fuel
  induction fuel with
  | zero =>
    intro listed U a w c st ρ I hsz hU hall
    have hr : Region.ready .any ops listed = [] := by
      apply List.eq_nil_iff_forall_not_mem.2
      intro i hi
      obtain ⟨h1, h2, _⟩ := (hready listed i hsz).1 hi
      have := hall i h1 h2
      rw [List.eq_nil_of_length_eq_zero (by omega : U.length = 0)] at this
      cases this
    exact ⟨hr, done listed a w c st ρ I hsz hr⟩
  | succ fuel ih =>
    intro listed U a w c st ρ I hsz hU hall
    refine ⟨done listed a w c st ρ I hsz, fun i hi => ?_⟩
    obtain ⟨h1, h2, s, h3, h4⟩ := (hready listed i hsz).1 hi
    have ho := Array.getElem?_eq_getElem h1
    obtain ⟨s', h5, h6⟩ := hget i _ ho
    rw [h3] at h5; injection h5 with h5; subst h5
    have hadd : (fun k => (listed.setIfInBounds i true).getD k false) = add (fun k => listed.getD k false) i := by
      funext k
      simp only [add, Array.getD_eq_getD_getElem?, Array.getElem?_setIfInBounds]
      by_cases hki : i = k
      · subst hki; simp [hsz, h1]
      · rw [if_neg hki]
        have : (k == i) = false := by simpa using fun e => hki e.symm
        rw [this, Bool.or_false]
    have hK : ∀ a w c st ρ, Inv nt w0 O ρ0 B0 call al steps e0 st0 (add (fun k => listed.getD k false) i) a w c st ρ → wpAny P .any ops Q fuel (listed.setIfInBounds i true) a w := by
      intro a w c st ρ I'
      refine ih _ (U.erase i) a w c st ρ (by rw [hadd]; exact I') (by simp [hsz]) ?_ fun k hk1 hk2 => ?_
      · rw [List.length_erase_of_mem (hall i h1 h2)]; omega
      · have : (add (fun k => listed.getD k false) i) k = false := by rw [← hadd]; exact hk2
        simp only [add, Bool.or_eq_false_iff, beq_eq_false_iff_ne] at this
        exact (List.mem_erase_of_ne this.2).2 (hall k hk1 this.1)
    cases hA : s.isA with
    | true => exact step_A R I h3 ho h6 h2 h4 hA hK
    | false =>
      cases hS : s.isS with
      | true => exact step_S R I h3 ho h6 h2 h4 hA hS hK
      | false => exact step_Q good R I h3 ho h6 h2 h4 (by simp [IStep.isQ, hA, hS]) hK
end

theorem okAllocs_mem : ∀ (l : List IStep), okAllocs l = true → ∀ s ∈ l, s.isA = true → ∀ sz z, s.op = .alloc sz z → 0 < sz ∧ z.cells.length = sz
  | [], _, s, hs, _, _, _, _ => by simp at hs
  | x :: l, h, s, hs, ha, sz, z, ho => by
    simp only [okAllocs, Bool.and_eq_true] at h
    rcases List.mem_cons.1 hs with rfl | hs
    · have := h.1
      simpa [ha, ho] using this
    · exact okAllocs_mem l h.2 s hs ha sz z ho

theorem draw_wp {nt : Nat} {call : Disp} (good : Good P call) (hm : P.follows .mixedOrders = true) {w0 : World} {ρ0 : Rho} {B0 : List Ent} {ops : Array Oper} {id : Nat} {steps : List IStep} {st st' : St} {a : Act} {Q : Exit → Act → World → Prop}
    (ht : trSteps P nt ops.toList ops.toList = some steps) (hok : okDraw steps = true) (he : evDraw call steps st = some st') (hs : Sim nt w0 O ρ0 B0 st a w ρ)
    (hQ : ∀ a w ρ, Sim nt w0 O ρ0 B0 st' a w ρ → Q .normal a w) : (Code.region id ops true).wp P Q a w := by
  have ok := okD hok
  unfold evDraw at he
  simp only at he
  split at he
  case isFalse => cases he
  case isTrue hoa =>
  obtain ⟨E, hE, hrun⟩ := Option.bind_eq_some_iff.1 he
  obtain ⟨k1, k2, k3⟩ := frzs_weak (preIds st.env steps) st.B st.L
  have hx := Ext.weaken hs.heap k1 k2 k3
  have hsim := hs.ext hx
  generalize (frzs (preIds st.env steps) st.B st.L).1 = B1 at *
  generalize (frzs (preIds st.env steps) st.B st.L).2 = L1 at *
  have hg2 := hsim.heap.grow (Chg.drew (fun _ => False) w)
  have hsim2 := hsim.ext hg2
  obtain ⟨hlen, hget⟩ := trSteps_get _ _ ht
  simp only [Array.length_toList] at hlen
  have hgetS : ∀ (i : Nat) (s : IStep), steps[i]? = some s → ∃ o, trStep P nt ops.toList o = some s := by
    intro i s h
    have hi := (List.getElem?_eq_some_iff.1 h).1
    obtain ⟨s', h1, h2⟩ := hget i _ (by simpa using Array.getElem?_eq_getElem (xs := ops) (i := i) (by omega))
    rw [h] at h1; injection h1 with h1; subst h1
    exact ⟨_, h2⟩
  have notS : ∀ (i : Nat) (s : IStep), steps[i]? = some s → s.isA = true → s.isS = false := fun i s h hA => by obtain ⟨o, ho⟩ := hgetS i s h; exact isA_notS ho hA
  have R : Region' P nt ops steps call (allocsAt 0 L1.length steps) L1 st.env ⟨E, B1, L1 ++ drawEnts steps⟩ st' := by
    refine ⟨ht, ok, rfl, rfl, fun i s h hq => ?_, fun i s sz z h hop hg => ?_, fun t hu => ?_, hrun⟩
    · have := drawQ_spec steps 0 _ E hE (fun a b s q d ha hb hab hsq hqq hd hr => ?_) (fun a b s q d ha hb hab hsq hqq hd hsd => ?_) i s h (by rw [Nat.zero_add]; exact hq)
      · rw [Nat.zero_add] at this; exact this
      · have hsS : s.isS = false := (isE_iff.1 hsq).2.1
        have hqS : q.isS = false := (isE_iff.1 hqq).2.1
        by_cases hne : a = b
        · subst hne
          rw [ha] at hb; injection hb with hb; subst hb
          exact ok.self a s ha hsS d hd hr
        · have := ok.rd a b s q d ha hb hne hd hr
          rw [if_neg (by simp [hqS])] at this
          have := waits_lt ok.lt a b s ha this
          omega
      · have hqS : q.isS = false := (isE_iff.1 hqq).2.1
        exact ok.dst a b s q d ha hb (by omega) hd (.inr hqS) hsd
    · have hA : s.isA = true := by simp [IStep.isA, hop, hg, IOp.isAlloc]
      have hS := notS i s h hA
      obtain ⟨p, p1, p2, p3, p4, p5⟩ := drawA_at steps L1.length 0 i st.env s sz z h hop hg fun k' s' hk hs' hA' d hd => ok.dst k' i s' s d hs' h (by omega) hd (.inr hS)
      rw [Nat.zero_add] at p1
      obtain ⟨q1, q2⟩ := okAllocs_mem steps hoa s (List.mem_of_getElem? h) hA sz z hop
      refine ⟨p, p1, p2, by simpa using p3, ?_, q1, q2, fun d hd => ?_⟩
      · simp only
        rw [List.getD_eq_getElem?_getD, List.getElem?_append_right p2, ← List.getD_eq_getElem?_getD]; exact p4
      · rw [drawQ_other steps 0 _ E d hE fun k' s' hk' hq' hd' => ?_]
        · exact p5 d hd
        · have hne : k' ≠ i := by
            rintro rfl
            rw [h] at hk'; injection hk' with hk'; subst hk'
            simp [isE, hA] at hq'
          exact ok.dst k' i s' s d hk' h hne hd (.inr hS) hd'
    · simp only
      rw [drawQ_other steps 0 _ E t hE fun k s hk _ => unwritten_dst hu hk, drawA_other steps _ _ t fun s hs' _ => ?_]
      obtain ⟨k, hk⟩ := List.getElem?_of_mem hs'
      exact unwritten_dst hu hk
  obtain ⟨c0, _, c2, c3, c4⟩ := nextS steps steps.length 0 (by omega)
  obtain ⟨st2, hst2⟩ := pre_some R.run c0
  have P' := pf_le R.he (pre_zero _ _) (Nat.zero_le c0) c2 hst2
  obtain ⟨e1, e2⟩ := P'.noS c3
  have e3 : ∀ t, st2.env.get t = E.get t := fun t => P'.env t fun k q k1 k2 hq hw _ => by
    have hqS := c3 k q k1 k2 hq
    simp only [writes, hqS, Bool.false_or, Bool.and_eq_true] at hw
    obtain ⟨j, r, hj, hr, hrS, _⟩ := late_iff.1 hw.2
    rw [c3 j r (Nat.zero_le _) (by omega) hr] at hrS; cases hrS
  refine wp_region_any hm (inv_any good R hQ ops.size _ (List.range ops.size) a _ c0 st2 ρ ?_ (by simp) (by simp) fun i hi _ => List.mem_range.2 hi)
  have hfalse : (fun i => (Array.replicate ops.size false).getD i false) = fun _ => false := by
    funext i
    simp only [Array.getD_eq_getD_getElem?, Array.getElem?_replicate]
    split <;> rfl
  rw [hfalse]
  have hmask : ∀ p, (maskL (hidD (allocsAt 0 L1.length steps) fun _ => false) (L1 ++ drawEnts steps)).getD p .dead = L1.getD p .dead := by
    intro p
    rw [getD_maskL]
    by_cases hp : p < L1.length
    · rw [if_neg (by rw [hid_new R hp]; simp)]
      rw [List.getD_eq_getElem?_getD, List.getElem?_append_left hp, ← List.getD_eq_getElem?_getD]
    · rw [List.getD_eq_getElem?_getD (l := L1), List.getElem?_eq_none (by omega)]
      split
      · rfl
      · rename_i hn
        rw [List.getD_eq_getElem?_getD, List.getElem?_append_right (by omega)]
        cases hq : (drawEnts steps)[p - L1.length]? with
        | none => rfl
        | some e =>
          exfalso
          apply hn
          have hlt := (List.getElem?_eq_some_iff.1 hq).1
          have key : ∀ (l : List IStep) (i0 n k : Nat), k < (drawEnts l).length → ∃ i, (i, n + k) ∈ allocsAt i0 n l := by
            intro l
            induction l with
            | nil => intro i0 n k hk; simp [drawEnts] at hk
            | cons x l ih =>
              intro i0 n k hk
              cases hx : x.isA with
              | true =>
                simp only [drawEnts, hx, if_true, List.length_cons] at hk
                simp only [allocsAt, hx, if_true]
                cases k with
                | zero => exact ⟨i0, by simp⟩
                | succ k =>
                  obtain ⟨i, hi⟩ := ih (i0 + 1) (n + 1) k (by omega)
                  exact ⟨i, List.mem_cons_of_mem _ (by rw [show n + (k + 1) = n + 1 + k by omega]; exact hi)⟩
              | false =>
                simp only [drawEnts, hx, Bool.false_eq_true, if_false] at hk
                simp only [allocsAt, hx, Bool.false_eq_true, if_false]
                exact ih _ _ _ hk
          obtain ⟨i, hi⟩ := key steps 0 L1.length _ hlt
          rw [show L1.length + (p - L1.length) = p by omega] at hi
          exact hidD_iff.2 ⟨i, hi, rfl⟩
  have hent : ∀ i, ent B1 (maskL (hidD (allocsAt 0 L1.length steps) fun _ => false) (L1 ++ drawEnts steps)) i = ent B1 L1 i := by
    intro i
    cases i with
    | b j => rfl
    | l p => exact hmask p
  have hwk : Weak B1 L1 B1 (maskL (hidD (allocsAt 0 L1.length steps) fun _ => false) (L1 ++ drawEnts steps)) := fun i => .inl (hent i)
  have hle : L1.length ≤ (maskL (hidD (allocsAt 0 L1.length steps) fun _ => false) (L1 ++ drawEnts steps)).length := by rw [maskL_length, List.length_append]; omega
  simp only at e1 e2
  refine ⟨fun i s _ h => by simp at h, c2, c4, fun i s hi hS => ?_, hst2, ?_, fun t hcl => ?_⟩
  · constructor
    · intro h; cases h
    · intro h; rw [c3 i s (Nat.zero_le _) h hi] at hS; cases hS
  all_goals rw [e1, e2]
  · refine ⟨hsim2.heap.weaken hwk, fun t => trivial, hsim2.size, hsim2.dfr, hsim2.chg, hsim2.rho, fun b hb hA => hsim2.av b hb (hwk.av hA), hsim2.lenB, hsim2.noO⟩
  · have hEt : E.get t = st.env.get t := by
      rw [drawQ_other steps 0 _ E t hE fun k s hk hq hd => ?_, drawA_other steps _ _ t fun s hs' hA hd => ?_]
      · obtain ⟨k, hk⟩ := List.getElem?_of_mem hs'
        have := hcl k s hk (notS k s hk hA) hd
        simp at this
      · rw [Nat.zero_add] at hq
        have := hcl k s hk (isE_iff.1 hq).2.1 hd
        simp at this
    rw [e3, hEt]
    refine ⟨SvRel.weak hwk rfl hle (hsim2.env t), fun p hp => ?_⟩
    have := sv_ids_valid (hsim2.env t) _ hp
    exact hid_new R this
end
end Go.Ab
