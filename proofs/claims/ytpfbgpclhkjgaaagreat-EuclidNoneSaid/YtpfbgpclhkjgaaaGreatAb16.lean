/- A part of the proof: an evaluator of programs, its soundness, and what it says of the functions in hand. It holds without further conditions. -/
import Derived.Test.YtpfbgpclhkjgaaaGreatAb15
set_option linter.unusedVariables false
set_option linter.unusedSimpArgs false
namespace Go.Ab

section
variable {P : Program} {w w' : World} {O : Nat → Prop} {ρ : Rho} {B L : List Ent}

theorem get_put (e : Env) (t u : Nat) (s : SV) : (e.put t s).get u = if u = t then s else e.get u := by
  induction e with
  | nil =>
    simp only [Env.put, Env.get]
    by_cases h : t = u
    · subst h; simp
    · rw [if_neg h, if_neg (fun e => h e.symm)]
  | cons p r ih =>
    obtain ⟨k, x⟩ := p
    simp only [Env.put]
    split
    · rename_i h
      subst h
      simp only [Env.get]
      by_cases h : k = u
      · subst h; simp
      · rw [if_neg h, if_neg h, if_neg (fun e => h e.symm)]
    · rename_i h
      simp only [Env.get, ih]
      by_cases h' : k = u
      · subst h'; rw [if_pos rfl, if_pos rfl, if_neg h]
      · rw [if_neg h', if_neg h']

theorem get_putO (e : Env) (d : Option Nat) (u : Nat) (s : SV) : (putO e d s).get u = if d = some u then s else e.get u := by
  cases d with
  | none => simp [putO]
  | some t =>
    simp only [putO, get_put, Option.some.injEq]
    by_cases h : u = t
    · subst h; simp
    · rw [if_neg h, if_neg (fun e => h e.symm)]

theorem get_keep (ks : List Nat) (e : Env) (t : Nat) : (e.keep ks).get t = e.get t ∨ (e.keep ks).get t = .unk := by
  unfold Env.keep
  induction ks with
  | nil => exact .inr rfl
  | cons k ks ih =>
    simp only [List.map_cons, Env.get]
    split
    · rename_i h; subst h; exact .inl rfl
    · exact ih

/-- The evaluator's state tells of the machine's. -/
structure Sim (nt : Nat) (w0 : World) (O : Nat → Prop) (ρ0 : Rho) (B0 : List Ent) (st : St) (a : Act) (w : World) (ρ : Rho) : Prop where
  heap : Heap w O ρ st.B st.L
  env : ∀ t, SvRel w (Av O ρ st.B st.L) ρ st.B st.L (a.tmps.getD t undef) (st.env.get t)
  size : a.tmps.size = nt
  dfr : a.defers = []
  chg : Chg (fun b => ∃ i, (ent B0 [] i).isOwn = true ∧ (ρ0 i).1 = b) w0 w
  rho : ∀ i, i < B0.length → ρ (.b i) = ρ0 (.b i)
  av : ∀ b, b < w0.heap.size → Av O ρ st.B st.L b → Av O ρ0 B0 [] b
  lenB : st.B.length = B0.length
  noO : ∀ b, O b → ¬ ∃ i, (ent B0 [] i).isOwn = true ∧ (ρ0 i).1 = b

theorem put_getD (a : Act) (d : Option Tmp) (v : Value) (t : Nat) (hd : ∀ u, d = some u → u < a.tmps.size) : (a.put d v).tmps.getD t undef = if d = some t then v else a.tmps.getD t undef := by
  cases d with
  | none => simp [Act.put]
  | some u =>
    have hu := hd u rfl
    simp only [Act.put, Option.some.injEq]
    by_cases h : u = t
    · subst h; simp [Array.getD_eq_getD_getElem?, hu]
    · simp [Array.getD_eq_getD_getElem?, Array.getElem?_setIfInBounds_ne h, h]

theorem put_size (a : Act) (d : Option Tmp) (v : Value) : (a.put d v).tmps.size = a.tmps.size ∧ (a.put d v).defers = a.defers := by
  cases d <;> simp [Act.put]

theorem Sim.step {nt : Nat} {w0 : World} {ρ0 ρ' : Rho} {B0 B' L' : List Ent} {st : St} {a : Act} (h : Sim nt w0 O ρ0 B0 st a w ρ) (hx : Ext w O ρ st.B st.L w' ρ' B' L') {d : Option Tmp} {v : Value} {s : SV}
    (hd : ∀ u, d = some u → u < nt) (hr : SvRel w' (Av O ρ' B' L') ρ' B' L' v s) : Sim nt w0 O ρ0 B0 ⟨putO st.env d s, B', L'⟩ (a.put d v) w' ρ' := by
  refine ⟨hx.heap, fun t => ?_, by rw [(put_size a d v).1]; exact h.size, by rw [(put_size a d v).2]; exact h.dfr, h.chg.then hx.chg ?_, fun i hi => ?_, fun b hb hA => ?_, hx.lenB.trans h.lenB, h.noO⟩
  · rw [put_getD a d v t (fun u hu => by rw [h.size]; exact hd u hu), get_putO]
    split
    · exact hr
    · exact hx.sv (h.env t)
  · rintro b hb ⟨i, hi, e⟩
    rcases h.av b hb (.inr ⟨i, hi, e⟩) with hO | hO
    · exact absurd (e ▸ hO) (h.heap.notO i hi)
    · exact hO
  · rw [hx.rho (.b i) (by simp only [Id.valid]; have := h.lenB; omega)]
    exact h.rho i hi
  · exact h.av b hb (hx.av b (Nat.lt_of_lt_of_le hb h.chg.size) hA)

/-- No place is written. -/
theorem Sim.ext {nt : Nat} {w0 : World} {ρ0 ρ' : Rho} {B0 B' L' : List Ent} {st : St} {a : Act} (h : Sim nt w0 O ρ0 B0 st a w ρ) (hx : Ext w O ρ st.B st.L w' ρ' B' L') : Sim nt w0 O ρ0 B0 ⟨st.env, B', L'⟩ a w' ρ' :=
  h.step hx (d := none) (v := undef) (s := .unk) (fun _ h => by cases h) trivial

theorem ops_of {nt : Nat} {a : Act} {e : Env} (henv : ∀ t, SvRel w (Av O ρ B L) ρ B L (a.tmps.getD t undef) (e.get t)) (o : Op) : Ops P nt w O ρ B L a.eval (opd e) o := by
  intro x y _ hy
  unfold trOpd at hy
  split at hy
  · split at hy
    · injection hy with hy; subst hy; exact henv _
    · cases hy
  · obtain ⟨z, hz, rfl⟩ := Option.map_eq_some_iff.1 hy
    exact (fvOf_rd hz _ _).1
  · injection hy with hy; subst hy
    exact Rd.fn _ _ _ _ _ rfl rfl (fun j v x h => by simp [At] at h) (fun j v x h => by simp [At] at h)
  · cases hy

theorem trOp_call {nt : Nat} {o : Op} {f' : Opd} {as : List Opd} (h : trOp P nt o = some (.call f' as)) : ∃ f args ts, o = .call ⟨.value f, args, ts⟩ ∧ trOpd nt f = some f' ∧ trOpds nt args.toList = some as := by
  cases o <;> simp only [trOp] at h
  case call c =>
    unfold trCall at h
    obtain ⟨callee, args, argTypes⟩ := c
    simp only at h
    split at h
    · split at h
      · split at h <;> first | (cases h; done) | (obtain ⟨x', hx, e⟩ := Option.map_eq_some_iff.1 h; cases e)
      · cases h
    · split at h
      · simp only [Option.bind_eq_some_iff] at h
        obtain ⟨e, _, e', _, sz, _, by', _, z, _, h⟩ := h
        split at h
        · simp only [Option.bind_eq_some_iff, Option.map_eq_some_iff] at h
          obtain ⟨_, _, _, _, e⟩ := h; cases e
        · cases h
      · cases h
    · obtain ⟨as, ha, e⟩ := Option.map_eq_some_iff.1 h; cases e
    · obtain ⟨as, ha, e⟩ := Option.map_eq_some_iff.1 h; cases e
    · simp only [Option.bind_eq_some_iff, Option.map_eq_some_iff] at h
      obtain ⟨f, hf, as', ha, e⟩ := h
      injection e with e1 e2; subst e1; subst e2
      exact ⟨_, _, _, rfl, hf, ha⟩
    · cases h
  case build t ps =>
    simp only [Option.bind_eq_some_iff] at h
    obtain ⟨fs, h1, z, h2, h⟩ := h
    split at h
    · obtain ⟨qs, h4, e⟩ := Option.map_eq_some_iff.1 h; cases e
    · cases h
  case convert a b x =>
    split at h
    · obtain ⟨x', hx, e⟩ := Option.map_eq_some_iff.1 h; cases e
    · cases h
  case fieldAddr t x i =>
    simp only [Option.bind_eq_some_iff] at h
    obtain ⟨fs, h1, f, h2, ag, h3, n, h4, x', hx, h⟩ := h
    split at h
    · injection h with h; cases h
    · cases h
  case index t x i =>
    split at h
    · simp only [Option.bind_eq_some_iff, Option.map_eq_some_iff] at h
      obtain ⟨x', hx, i', hi, e⟩ := h; cases e
    · cases h
  all_goals first
    | (cases h; done)
    | (obtain ⟨_, _, e⟩ := Option.map_eq_some_iff.1 h; cases e; done)
    | (simp only [Option.bind_eq_some_iff, Option.map_eq_some_iff] at h; obtain ⟨_, _, _, _, e⟩ := h; cases e; done)
    | (simp only [Option.bind_eq_some_iff, Option.map_eq_some_iff] at h; obtain ⟨_, _, _, _, _, _, e⟩ := h; cases e; done)
    | (simp only [Option.bind_eq_some_iff, Option.map_eq_some_iff] at h; obtain ⟨_, _, _, _, _, _, _, _, e⟩ := h; cases e; done)
    | (simp only [Option.bind_eq_some_iff, Option.map_eq_some_iff] at h; obtain ⟨_, _, _, _, _, _, _, _, _, _, e⟩ := h; cases e; done)
    | (simp only [Option.bind_eq_some_iff, Option.map_eq_some_iff] at h; obtain ⟨_, _, _, _, _, _, _, _, _, _, _, _, e⟩ := h; cases e; done)

theorem Ops.weak {nt : Nat} {a : Act} {g : Look} {o : Op} {B1 L1 : List Ent} (h : Weak B L B1 L1) (hb : B1.length = B.length) (hl : L1.length = L.length) (hg : Ops P nt w O ρ B L a.eval g o) : Ops P nt w O ρ B1 L1 a.eval g o :=
  fun x y hx hy => SvRel.weak h hb (by omega) (hg x y hx hy)

theorem Acts.wp {o : Oper} {a : Act} {s : SV} {B' L' : List Ent} (h : Acts P w O ρ B L ((execOp a.eval o).run P w) s B' L') {next : Act → World → Prop} {Q : Exit → Act → World → Prop}
    (hn : ∀ v w' ρ', Ext w O ρ B L w' ρ' B' L' → SvRel w' (Av O ρ' B' L') ρ' B' L' v s → next (a.put o.dst v) w') : o.wp P a w next Q := by
  obtain ⟨v, w', ρ', h1, h2, h3⟩ := h
  unfold Oper.wp
  rcases h1 with h1 | ⟨h1, rfl⟩
  · rw [h1, Oper.upon_value]; exact hn v w' ρ' h2 h3
  · rw [h1, Oper.upon_skip]; exact hn undef w' ρ' h2 h3

theorem evOp_wp {nt : Nat} {a : Act} {g : Look} {call : Disp} {an : Ann} {self : FuncId} (good : Good P call) (o : Oper) {io : IOp} {s : SV} {B' L' : List Ent} (hh : Heap w O ρ B L) (hg : Ops P nt w O ρ B L a.eval g o.op)
    (htr : trOp P nt o.op = some io) (h : evOp call an self io g B L = some (s, B', L')) {next : Act → World → Prop} {Q : Exit → Act → World → Prop}
    (hn : ∀ v w' ρ', Ext w O ρ B L w' ρ' B' L' → SvRel w' (Av O ρ' B' L') ρ' B' L' v s → next (a.put o.dst v) w') : o.wp P a w next Q := by
  have other : (∀ f as, io ≠ .call f as) → evA call io g (frzs (toFreeze an self io g) B L).1 (frzs (toFreeze an self io g) B L).2 = some (s, B', L') → o.wp P a w next Q := by
    intro hnc h
    obtain ⟨k1, k2, k3⟩ := frzs_weak (toFreeze an self io g) B L
    have hx := Ext.weaken hh k1 k2 k3
    refine (evA_run (P := P) o hx.heap (hg.weak k1 k2 k3) htr hnc h).wp fun v w' ρ' h1 h2 => hn v w' ρ' (hx.trans h1 hh) h2
  cases io with
  | call f' as =>
    obtain ⟨dst, op, type, pos, after, guard⟩ := o
    obtain ⟨f, args, ts, rfl, hf, has⟩ := trOp_call htr
    simp only [evOp] at h
    split at h
    · exact evI_wp good hh hg hf has h hn
    · obtain ⟨v', hv, he⟩ := Option.map_eq_some_iff.1 h
      simp only [Prod.mk.injEq] at he
      obtain ⟨rfl, he⟩ := he
      have e1 : (frzs (toFreeze an self (.call f' as) g) B L).1 = B' := by rw [he]
      have e2 : (frzs (toFreeze an self (.call f' as) g) B L).2 = L' := by rw [he]
      subst e1; subst e2
      obtain ⟨k1, k2, k3⟩ := frzs_weak (toFreeze an self (.call f' as) g) B L
      have hx := Ext.weaken hh k1 k2 k3
      exact evQ_call_wp good hx.heap (hg.weak k1 k2 k3) hf has hv fun v w' h1 h2 => hn v w' ρ (hx.trans (hx.heap.grow h1) hh) h2
  | _ => exact other (fun _ _ e => by cases e) h

theorem trStep_parts {nt : Nat} {ops : List Oper} {o : Oper} {s : IStep} (h : trStep P nt ops o = some s) :
    trOp P nt o.op = some s.op ∧ s.dst = o.dst ∧ (∀ u, o.dst = some u → u < nt) ∧ trGuard nt ops o.guard = some s.guard ∧ s.after = (o.after.toList.filterMap fun e => if Region.binds .any e then some e.on else none).eraseDups ∧ s.asg = (match o.op with | .assign _ => true | _ => false) := by
  unfold trStep at h
  simp only [Option.bind_eq_some_iff, Option.map_eq_some_iff] at h
  obtain ⟨op, h1, d, h2, g, h3, rfl⟩ := h
  unfold trDst at h2
  split at h2
  · injection h2 with h2; subst h2
    rename_i hd
    exact ⟨h1, hd.symm, (fun u hu => by rw [hd] at hu; cases hu), h3, rfl, rfl⟩
  · rename_i d' hd
    split at h2
    · rename_i hlt
      injection h2 with h2; subst h2
      exact ⟨h1, hd.symm, (fun u hu => by rw [hd] at hu; injection hu with hu; subst hu; exact hlt), h3, rfl, rfl⟩
    · cases h2

theorem guard_wanted {nt : Nat} {ops : List Oper} {o : Oper} {t : Nat} {want b : Bool} {e : Env} {a : Act} (hs : a.tmps.size = nt) (henv : ∀ t, SvRel w (Av O ρ B L) ρ B L (a.tmps.getD t undef) (e.get t))
    (hg : trGuard nt ops o.guard = some (some (t, want))) (hb : e.get t = .fv (.bool b)) : Region.wanted o (yielded ops.toArray a.tmps) = (b == want) := by
  unfold trGuard at hg
  split at hg
  · cases hg
  · rename_i j want' hj
    simp only [Option.bind_eq_some_iff] at hg
    obtain ⟨o', ho', d, hd, hg⟩ := hg
    split at hg
    · rename_i hlt
      simp only [Option.some.injEq, Prod.mk.injEq] at hg
      obtain ⟨rfl, rfl⟩ := hg
      have h1 := henv d
      rw [hb] at h1
      have h2 : a.tmps.getD d undef = .bool b := Rd.inv_bool h1
      have h3 : a.tmps[d]? = some (.bool b) := by
        have hd' : d < a.tmps.size := by rw [hs]; exact hlt
        simp only [Array.getD_eq_getD_getElem?, Array.getElem?_eq_getElem hd', Option.getD_some] at h2
        rw [Array.getElem?_eq_getElem hd', h2]
      simp only [Region.wanted, hj, yielded, List.getElem?_toArray, ho', Option.bind_some, hd, h3]
      cases b <;> cases want' <;> rfl
    · cases hg

theorem wanted_none {nt : Nat} {ops : List Oper} {o : Oper} {y : Nat → Option Bool} (hg : trGuard nt ops o.guard = some none) : Region.wanted o y = true := by
  unfold trGuard at hg
  split at hg
  · rename_i h; simp [Region.wanted, h]
  · simp only [Option.bind_eq_some_iff] at hg
    obtain ⟨o', ho', d, hd, hg⟩ := hg
    split at hg <;> simp at hg

theorem evSteps_wp {nt : Nat} {call : Disp} {an : Ann} {self : FuncId} (good : Good P call) {w0 : World} {ρ0 : Rho} {B0 : List Ent} {ops : List Oper} {Q : Exit → Act → World → Prop} {st' : St}
    (hQ : ∀ a w ρ, Sim nt w0 O ρ0 B0 st' a w ρ → Q .normal a w) : ∀ (l : List Oper) (ss : List IStep) (st : St) (a : Act) (w : World) (ρ : Rho), trSteps P nt ops l = some ss → evSteps call an self ss st = some st' →
      Sim nt w0 O ρ0 B0 st a w ρ → wpList P ops.toArray Q l a w
  | [], ss, st, a, w, ρ, ht, he, hs => by
    simp only [trSteps, Option.some.injEq] at ht; subst ht
    simp only [evSteps, Option.some.injEq] at he; subst he
    exact hQ a w ρ hs
  | o :: l, ss, st, a, w, ρ, ht, he, hs => by
    simp only [trSteps, Option.bind_eq_some_iff, Option.map_eq_some_iff] at ht
    obtain ⟨s, h1, ss', h2, rfl⟩ := ht
    simp only [evSteps, Option.bind_eq_some_iff] at he
    obtain ⟨st1, h3, h4⟩ := he
    obtain ⟨t1, t2, t3, t4, _, _⟩ := trStep_parts h1
    have rec_ := evSteps_wp (ops := ops) (an := an) (self := self) good hQ l ss'
    have run : (evOp call an self s.op (opd st.env) st.B st.L).map (fun (p : SV × List Ent × List Ent) => (⟨putO st.env s.dst p.1, p.2.1, p.2.2⟩ : St)) = some st1 → Region.wanted o (yielded ops.toArray a.tmps) = true → wpList P ops.toArray Q (o :: l) a w := by
      intro h hw
      obtain ⟨⟨v, B', L'⟩, hv, rfl⟩ := Option.map_eq_some_iff.1 h
      unfold wpList
      rw [if_pos hw]
      refine .inl (evOp_wp (P := P) good o hs.heap (ops_of hs.env o.op) t1 hv fun u w' ρ' hx hr => ?_)
      rw [t2] at h4
      exact rec_ _ _ _ _ h2 h4 (hs.step hx t3 hr)
    unfold evStep at h3
    split at h3
    · rename_i hg
      exact run h3 (wanted_none (by rw [t4, hg]))
    · rename_i t want hg
      split at h3
      · rename_i b hb
        have hwn := guard_wanted hs.size hs.env (by rw [t4, hg]) hb
        split at h3
        · rename_i hbw
          exact run h3 (by rw [hwn]; simp [hbw])
        · rename_i hbw
          injection h3 with h3; subst h3
          unfold wpList
          rw [if_neg (by rw [hwn]; simpa using hbw)]
          have hs' := hs.step (Ext.refl hs.heap) (d := o.dst) (v := undef) (s := .unk) t3 trivial
          rw [← t2] at hs' ⊢
          exact rec_ _ _ _ _ h2 h4 hs'
      · cases h3
end
end Go.Ab
