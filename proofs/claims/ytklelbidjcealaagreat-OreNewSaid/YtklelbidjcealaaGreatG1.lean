/- A part of the proof: an evaluator of programs, its soundness, and what it says of the functions in hand. It holds without further conditions. -/
import Derived.Test.YtklelbidjcealaaGreatG0
import Derived.IntWalk
set_option linter.unusedVariables false
set_option linter.unusedSimpArgs false
namespace Go.Ab
section
variable {P : Program} {w w' : World} {O : Nat → Prop} {ρ : Rho} {B L : List Ent}
theorem get_put (e : Env) (t u : Nat) (s : SV) : (e.put t s).get u = if u = t then s else e.get u := by
  induction e with
  | nil =>
    simp only [Env.put, Env.get]
    by_cases h : t = u
    · subst h; simp
    · rw [if_neg h, if_neg (fun e => h e.symm)]
  | cons p r ih =>
    obtain ⟨k, x⟩ := p
    simp only [Env.put]
    split
    · rename_i h
      subst h
      simp only [Env.get]
      by_cases h : k = u
      · subst h; simp
      · rw [if_neg h, if_neg h, if_neg (fun e => h e.symm)]
    · rename_i h
      simp only [Env.get, ih]
      by_cases h' : k = u
      · subst h'; rw [if_pos rfl, if_pos rfl, if_neg h]
      · rw [if_neg h', if_neg h']
theorem get_putO (e : Env) (d : Option Nat) (u : Nat) (s : SV) : (putO e d s).get u = if d = some u then s else e.get u := by
  cases d with
  | none => simp [putO]
  | some t =>
    simp only [putO, get_put, Option.some.injEq]
    by_cases h : u = t
    · subst h; simp
    · rw [if_neg h, if_neg (fun e => h e.symm)]
theorem get_keep (ks : List Nat) (e : Env) (t : Nat) : (e.keep ks).get t = e.get t ∨ (e.keep ks).get t = .unk := by
  unfold Env.keep
  induction ks with
  | nil => exact .inr rfl
  | cons k ks ih =>
    simp only [List.map_cons, Env.get]
    split
    · rename_i h; subst h; exact .inl rfl
    · exact ih
structure Sim (nt : Nat) (w0 : World) (O : Nat → Prop) (ρ0 : Rho) (B0 : List Ent) (st : St) (a : Act) (w : World) (ρ : Rho) : Prop where
  heap : Heap w O ρ st.B st.L
  env : ∀ t, SvRel w (Av O ρ st.B st.L) ρ st.B st.L (a.tmps.getD t undef) (st.env.get t)
  size : a.tmps.size = nt
  dfr : a.defers = []
  chg : Chg (fun b => ∃ i, (ent B0 [] i).isOwn = true ∧ (ρ0 i).1 = b) w0 w
  rho : ∀ i, i < B0.length → ρ (.b i) = ρ0 (.b i)
  av : ∀ b, b < w0.heap.size → Av O ρ st.B st.L b → Av O ρ0 B0 [] b
  lenB : st.B.length = B0.length
  noO : ∀ b, O b → ¬ ∃ i, (ent B0 [] i).isOwn = true ∧ (ρ0 i).1 = b
theorem put_getD (a : Act) (d : Option Tmp) (v : Value) (t : Nat) (hd : ∀ u, d = some u → u < a.tmps.size) : (a.put d v).tmps.getD t undef = if d = some t then v else a.tmps.getD t undef := by
  cases d with
  | none => simp [Act.put]
  | some u =>
    have hu := hd u rfl
    simp only [Act.put, Option.some.injEq]
    by_cases h : u = t
    · subst h; simp [Array.getD_eq_getD_getElem?, hu]
    · simp [Array.getD_eq_getD_getElem?, Array.getElem?_setIfInBounds_ne h, h]
theorem put_size (a : Act) (d : Option Tmp) (v : Value) : (a.put d v).tmps.size = a.tmps.size ∧ (a.put d v).defers = a.defers := by
  cases d <;> simp [Act.put]
theorem Sim.step {nt : Nat} {w0 : World} {ρ0 ρ' : Rho} {B0 B' L' : List Ent} {st : St} {a : Act} (h : Sim nt w0 O ρ0 B0 st a w ρ) (hx : Ext w O ρ st.B st.L w' ρ' B' L') {d : Option Tmp} {v : Value} {s : SV}
    (hd : ∀ u, d = some u → u < nt) (hr : SvRel w' (Av O ρ' B' L') ρ' B' L' v s) : Sim nt w0 O ρ0 B0 ⟨putO st.env d s, B', L'⟩ (a.put d v) w' ρ' := by
  refine ⟨hx.heap, fun t => ?_, by rw [(put_size a d v).1]; exact h.size, by rw [(put_size a d v).2]; exact h.dfr, h.chg.then hx.chg ?_, fun i hi => ?_, fun b hb hA => ?_, hx.lenB.trans h.lenB, h.noO⟩
  · rw [put_getD a d v t (fun u hu => by rw [h.size]; exact hd u hu), get_putO]
    split
    · exact hr
    · exact hx.sv (h.env t)
  · rintro b hb ⟨i, hi, e⟩
    rcases h.av b hb (.inr ⟨i, hi, e⟩) with hO | hO
    · exact absurd (e ▸ hO) (h.heap.notO i hi)
    · exact hO
  · rw [hx.rho (.b i) (by simp only [Id.valid]; have := h.lenB; omega)]
    exact h.rho i hi
  · exact h.av b hb (hx.av b (Nat.lt_of_lt_of_le hb h.chg.size) hA)
theorem Sim.ext {nt : Nat} {w0 : World} {ρ0 ρ' : Rho} {B0 B' L' : List Ent} {st : St} {a : Act} (h : Sim nt w0 O ρ0 B0 st a w ρ) (hx : Ext w O ρ st.B st.L w' ρ' B' L') : Sim nt w0 O ρ0 B0 ⟨st.env, B', L'⟩ a w' ρ' :=
  h.step hx (d := none) (v := undef) (s := .unk) (fun _ h => by cases h) trivial
theorem ops_of {nt : Nat} {a : Act} {e : Env} (henv : ∀ t, SvRel w (Av O ρ B L) ρ B L (a.tmps.getD t undef) (e.get t)) (o : Op) : Ops P nt w O ρ B L a.eval (opd e) o := by
  intro x y _ hy
  unfold trOpd at hy
  split at hy
  · split at hy
    · injection hy with hy; subst hy; exact henv _
    · cases hy
  · obtain ⟨z, hz, rfl⟩ := Option.map_eq_some_iff.1 hy
    exact (fvOf_rd hz _ _).1
  · injection hy with hy; subst hy
    exact Rd.fn _ _ _ _ _ rfl rfl (fun j v x h => by simp [At] at h) (fun j v x h => by simp [At] at h)
  · cases hy
theorem trOp_call {nt : Nat} {o : Op} {f' : Opd} {as : List Opd} (h : trOp P nt o = some (.call f' as)) : ∃ f args ts, o = .call ⟨.value f, args, ts⟩ ∧ trOpd nt f = some f' ∧ trOpds nt args.toList = some as := by
  cases o <;> simp only [trOp] at h
  case call c =>
    unfold trCall at h
    obtain ⟨callee, args, argTypes⟩ := c
    simp only at h
    split at h
    · split at h
      · split at h <;> first | (cases h; done) | (obtain ⟨x', hx, e⟩ := Option.map_eq_some_iff.1 h; cases e)
      · cases h
    · split at h
      · simp only [Option.bind_eq_some_iff] at h
        obtain ⟨e, _, e', _, sz, _, by', _, z, _, h⟩ := h
        split at h
        · simp only [Option.bind_eq_some_iff, Option.map_eq_some_iff] at h
          obtain ⟨_, _, _, _, e⟩ := h; cases e
        · cases h
      · cases h
    · obtain ⟨as, ha, e⟩ := Option.map_eq_some_iff.1 h; cases e
    · obtain ⟨as, ha, e⟩ := Option.map_eq_some_iff.1 h; cases e
    · simp only [Option.bind_eq_some_iff, Option.map_eq_some_iff] at h
      obtain ⟨f, hf, as', ha, e⟩ := h
      injection e with e1 e2; subst e1; subst e2
      exact ⟨_, _, _, rfl, hf, ha⟩
    · cases h
  case build t ps =>
    simp only [Option.bind_eq_some_iff] at h
    obtain ⟨fs, h1, z, h2, h⟩ := h
    split at h
    · obtain ⟨qs, h4, e⟩ := Option.map_eq_some_iff.1 h; cases e
    · cases h
  case convert a b x =>
    split at h
    · obtain ⟨x', hx, e⟩ := Option.map_eq_some_iff.1 h; cases e
    · cases h
  case fieldAddr t x i =>
    simp only [Option.bind_eq_some_iff] at h
    obtain ⟨fs, h1, f, h2, ag, h3, n, h4, x', hx, h⟩ := h
    split at h
    · injection h with h; cases h
    · cases h
  case index t x i =>
    split at h
    · simp only [Option.bind_eq_some_iff, Option.map_eq_some_iff] at h
      obtain ⟨x', hx, i', hi, e⟩ := h; cases e
    · cases h
  all_goals first
    | (cases h; done)
    | (obtain ⟨_, _, e⟩ := Option.map_eq_some_iff.1 h; cases e; done)
    | (simp only [Option.bind_eq_some_iff, Option.map_eq_some_iff] at h; obtain ⟨_, _, _, _, e⟩ := h; cases e; done)
    | (simp only [Option.bind_eq_some_iff, Option.map_eq_some_iff] at h; obtain ⟨_, _, _, _, _, _, e⟩ := h; cases e; done)
    | (simp only [Option.bind_eq_some_iff, Option.map_eq_some_iff] at h; obtain ⟨_, _, _, _, _, _, _, _, e⟩ := h; cases e; done)
    | (simp only [Option.bind_eq_some_iff, Option.map_eq_some_iff] at h; obtain ⟨_, _, _, _, _, _, _, _, _, _, e⟩ := h; cases e; done)
    | (simp only [Option.bind_eq_some_iff, Option.map_eq_some_iff] at h; obtain ⟨_, _, _, _, _, _, _, _, _, _, _, _, e⟩ := h; cases e; done)
theorem Ops.weak {nt : Nat} {a : Act} {g : Look} {o : Op} {B1 L1 : List Ent} (h : Weak B L B1 L1) (hb : B1.length = B.length) (hl : L1.length = L.length) (hg : Ops P nt w O ρ B L a.eval g o) : Ops P nt w O ρ B1 L1 a.eval g o :=
  fun x y hx hy => SvRel.weak h hb (by omega) (hg x y hx hy)
theorem Acts.wp {o : Oper} {a : Act} {s : SV} {B' L' : List Ent} (h : Acts P w O ρ B L ((execOp a.eval o).run P w) s B' L') {next : Act → World → Prop} {Q : Exit → Act → World → Prop}
    (hn : ∀ v w' ρ', Ext w O ρ B L w' ρ' B' L' → SvRel w' (Av O ρ' B' L') ρ' B' L' v s → next (a.put o.dst v) w') : o.wp P a w next Q := by
  obtain ⟨v, w', ρ', h1, h2, h3⟩ := h
  unfold Oper.wp
  rcases h1 with h1 | ⟨h1, rfl⟩
  · rw [h1, Oper.upon_value]; exact hn v w' ρ' h2 h3
  · rw [h1, Oper.upon_skip]; exact hn undef w' ρ' h2 h3
theorem evOp_wp {nt : Nat} {a : Act} {g : Look} {call : Disp} {an : Ann} {self : FuncId} (good : Good P call) (o : Oper) {io : IOp} {s : SV} {B' L' : List Ent} (hh : Heap w O ρ B L) (hg : Ops P nt w O ρ B L a.eval g o.op)
    (htr : trOp P nt o.op = some io) (h : evOp call an self io g B L = some (s, B', L')) {next : Act → World → Prop} {Q : Exit → Act → World → Prop}
    (hn : ∀ v w' ρ', Ext w O ρ B L w' ρ' B' L' → SvRel w' (Av O ρ' B' L') ρ' B' L' v s → next (a.put o.dst v) w') : o.wp P a w next Q := by
  have other : (∀ f as, io ≠ .call f as) → evA call io g (frzs (toFreeze an self io g) B L).1 (frzs (toFreeze an self io g) B L).2 = some (s, B', L') → o.wp P a w next Q := by
    intro hnc h
    obtain ⟨k1, k2, k3⟩ := frzs_weak (toFreeze an self io g) B L
    have hx := Ext.weaken hh k1 k2 k3
    refine (evA_run (P := P) o hx.heap (hg.weak k1 k2 k3) htr hnc h).wp fun v w' ρ' h1 h2 => hn v w' ρ' (hx.trans h1 hh) h2
  cases io with
  | call f' as =>
    obtain ⟨dst, op, type, pos, after, guard⟩ := o
    obtain ⟨f, args, ts, rfl, hf, has⟩ := trOp_call htr
    simp only [evOp] at h
    split at h
    · exact evI_wp good hh hg hf has h hn
    · obtain ⟨v', hv, he⟩ := Option.map_eq_some_iff.1 h
      simp only [Prod.mk.injEq] at he
      obtain ⟨rfl, he⟩ := he
      have e1 : (frzs (toFreeze an self (.call f' as) g) B L).1 = B' := by rw [he]
      have e2 : (frzs (toFreeze an self (.call f' as) g) B L).2 = L' := by rw [he]
      subst e1; subst e2
      obtain ⟨k1, k2, k3⟩ := frzs_weak (toFreeze an self (.call f' as) g) B L
      have hx := Ext.weaken hh k1 k2 k3
      exact evQ_call_wp good hx.heap (hg.weak k1 k2 k3) hf has hv fun v w' h1 h2 => hn v w' ρ (hx.trans (hx.heap.grow h1) hh) h2
  | _ => exact other (fun _ _ e => by cases e) h
theorem trStep_parts {nt : Nat} {ops : List Oper} {o : Oper} {s : IStep} (h : trStep P nt ops o = some s) :
    trOp P nt o.op = some s.op ∧ s.dst = o.dst ∧ (∀ u, o.dst = some u → u < nt) ∧ trGuard nt ops o.guard = some s.guard ∧ s.after = (o.after.toList.filterMap fun e => if Region.binds .any e then some e.on else none).eraseDups ∧ s.asg = (match o.op with | .assign _ => true | _ => false) := by
  unfold trStep at h
  simp only [Option.bind_eq_some_iff, Option.map_eq_some_iff] at h
  obtain ⟨op, h1, d, h2, g, h3, rfl⟩ := h
  unfold trDst at h2
  split at h2
  · injection h2 with h2; subst h2
    rename_i hd
    exact ⟨h1, hd.symm, (fun u hu => by rw [hd] at hu; cases hu), h3, rfl, rfl⟩
  · rename_i d' hd
    split at h2
    · rename_i hlt
      injection h2 with h2; subst h2
      exact ⟨h1, hd.symm, (fun u hu => by rw [hd] at hu; injection hu with hu; subst hu; exact hlt), h3, rfl, rfl⟩
    · cases h2
theorem guard_wanted {nt : Nat} {ops : List Oper} {o : Oper} {t : Nat} {want b : Bool} {e : Env} {a : Act} (hs : a.tmps.size = nt) (henv : ∀ t, SvRel w (Av O ρ B L) ρ B L (a.tmps.getD t undef) (e.get t))
    (hg : trGuard nt ops o.guard = some (some (t, want))) (hb : e.get t = .fv (.bool b)) : Region.wanted o (yielded ops.toArray a.tmps) = (b == want) := by
  unfold trGuard at hg
  split at hg
  · cases hg
  · rename_i j want' hj
    simp only [Option.bind_eq_some_iff] at hg
    obtain ⟨o', ho', d, hd, hg⟩ := hg
    split at hg
    · rename_i hlt
      simp only [Option.some.injEq, Prod.mk.injEq] at hg
      obtain ⟨rfl, rfl⟩ := hg
      have h1 := henv d
      rw [hb] at h1
      have h2 : a.tmps.getD d undef = .bool b := Rd.inv_bool h1
      have h3 : a.tmps[d]? = some (.bool b) := by
        have hd' : d < a.tmps.size := by rw [hs]; exact hlt
        simp only [Array.getD_eq_getD_getElem?, Array.getElem?_eq_getElem hd', Option.getD_some] at h2
        rw [Array.getElem?_eq_getElem hd', h2]
      simp only [Region.wanted, hj, yielded, List.getElem?_toArray, ho', Option.bind_some, hd, h3]
      cases b <;> cases want' <;> rfl
    · cases hg
theorem wanted_none {nt : Nat} {ops : List Oper} {o : Oper} {y : Nat → Option Bool} (hg : trGuard nt ops o.guard = some none) : Region.wanted o y = true := by
  unfold trGuard at hg
  split at hg
  · rename_i h; simp [Region.wanted, h]
  · simp only [Option.bind_eq_some_iff] at hg
    obtain ⟨o', ho', d, hd, hg⟩ := hg
    split at hg <;> simp at hg
theorem evSteps_wp {nt : Nat} {call : Disp} {an : Ann} {self : FuncId} (good : Good P call) {w0 : World} {ρ0 : Rho} {B0 : List Ent} {ops : List Oper} {Q : Exit → Act → World → Prop} {st' : St}
    (hQ : ∀ a w ρ, Sim nt w0 O ρ0 B0 st' a w ρ → Q .normal a w) : ∀ (l : List Oper) (ss : List IStep) (st : St) (a : Act) (w : World) (ρ : Rho), trSteps P nt ops l = some ss → evSteps call an self ss st = some st' →
      Sim nt w0 O ρ0 B0 st a w ρ → wpList P ops.toArray Q l a w
  | [], ss, st, a, w, ρ, ht, he, hs => by
    simp only [trSteps, Option.some.injEq] at ht; subst ht
    simp only [evSteps, Option.some.injEq] at he; subst he
    exact hQ a w ρ hs
  | o :: l, ss, st, a, w, ρ, ht, he, hs => by
    simp only [trSteps, Option.bind_eq_some_iff, Option.map_eq_some_iff] at ht
    obtain ⟨s, h1, ss', h2, rfl⟩ := ht
    simp only [evSteps, Option.bind_eq_some_iff] at he
    obtain ⟨st1, h3, h4⟩ := he
    obtain ⟨t1, t2, t3, t4, _, _⟩ := trStep_parts h1
    have rec_ := evSteps_wp (ops := ops) (an := an) (self := self) good hQ l ss'
    have run : (evOp call an self s.op (opd st.env) st.B st.L).map (fun (p : SV × List Ent × List Ent) => (⟨putO st.env s.dst p.1, p.2.1, p.2.2⟩ : St)) = some st1 → Region.wanted o (yielded ops.toArray a.tmps) = true → wpList P ops.toArray Q (o :: l) a w := by
      intro h hw
      obtain ⟨⟨v, B', L'⟩, hv, rfl⟩ := Option.map_eq_some_iff.1 h
      unfold wpList
      rw [if_pos hw]
      refine .inl (evOp_wp (P := P) good o hs.heap (ops_of hs.env o.op) t1 hv fun u w' ρ' hx hr => ?_)
      rw [t2] at h4
      exact rec_ _ _ _ _ h2 h4 (hs.step hx t3 hr)
    unfold evStep at h3
    split at h3
    · rename_i hg
      exact run h3 (wanted_none (by rw [t4, hg]))
    · rename_i t want hg
      split at h3
      · rename_i b hb
        have hwn := guard_wanted hs.size hs.env (by rw [t4, hg]) hb
        split at h3
        · rename_i hbw
          exact run h3 (by rw [hwn]; simp [hbw])
        · rename_i hbw
          injection h3 with h3; subst h3
          unfold wpList
          rw [if_neg (by rw [hwn]; simpa using hbw)]
          have hs' := hs.step (Ext.refl hs.heap) (d := o.dst) (v := undef) (s := .unk) t3 trivial
          rw [← t2] at hs' ⊢
          exact rec_ _ _ _ _ h2 h4 hs'
      · cases h3
end
end Go.Ab
namespace Go.Ab
theorem opd_congr {e e' : Env} (x : Opd) (h : ∀ t ∈ x.slots, e.get t = e'.get t) : opd e x = opd e' x := by
  cases x with
  | s t => exact h t (by simp [Opd.slots])
  | c x => rfl
theorem opds_congr {e e' : Env} : ∀ (l : List Opd), (∀ t ∈ l.flatMap Opd.slots, e.get t = e'.get t) → l.map (opd e) = l.map (opd e')
  | [], _ => rfl
  | x :: l, h => by
    simp only [List.map_cons]
    rw [opd_congr x fun t ht => h t (by simp [ht]), opds_congr l fun t ht => h t (by rw [List.flatMap_cons]; exact List.mem_append_right _ ht)]
theorem opt_congr {e e' : Env} (x : Option Opd) (h : ∀ t ∈ optSlots x, e.get t = e'.get t) : x.map (opd e) = x.map (opd e') := by
  cases x with
  | none => rfl
  | some x => simp only [Option.map_some]; rw [opd_congr x h]
theorem parts2_congr {e e' : Env} (B L : List Ent) : ∀ (l : List (Nat × Nat × Opd)), (∀ t ∈ l.flatMap (fun p => p.2.2.slots), e.get t = e'.get t) → parts2 B L (opd e) l = parts2 B L (opd e') l
  | [], _ => rfl
  | (o, n, x) :: l, h => by
    simp only [parts2]
    rw [opd_congr x fun t ht => h t (by simp [ht]), parts2_congr B L l fun t ht => h t (by rw [List.flatMap_cons]; exact List.mem_append_right _ ht)]
theorem parts1_congr {e e' : Env} (B L : List Ent) : ∀ (l : List (Nat × Opd)), (∀ t ∈ l.flatMap (fun p => p.2.slots), e.get t = e'.get t) → parts1 B L (opd e) l = parts1 B L (opd e') l
  | [], _ => rfl
  | (o, x) :: l, h => by
    simp only [parts1]
    rw [opd_congr x fun t ht => h t (by simp [ht]), parts1_congr B L l fun t ht => h t (by rw [List.flatMap_cons]; exact List.mem_append_right _ ht)]
theorem evQ_congr {e e' : Env} {call : Disp} {B L : List Ent} (o : IOp) (h : ∀ t ∈ o.slots, e.get t = e'.get t) : evQ call o (opd e) B L = evQ call o (opd e') B L := by
  have one : ∀ x : Opd, (∀ t ∈ x.slots, t ∈ o.slots) → opd e x = opd e' x := fun x hx => opd_congr x fun t ht => h t (hx t ht)
  cases o <;> simp only [IOp.slots] at h one <;> simp only [evQ]
  case build z ps => rw [parts2_congr B L ps h]
  case bsl sz z n ps => rw [parts1_congr B L ps h]
  case slice sz x lo hi mx =>
    rw [one x fun t ht => by simp [ht], opt_congr lo fun t ht => h t (by simp [ht]), opt_congr hi fun t ht => h t (by simp [ht]), opt_congr mx fun t ht => h t (by simp [ht])]
  case mx as => rw [opds_congr as h]
  case mn as => rw [opds_congr as h]
  case mkfn f a b => rw [List.map_append, List.map_append, opds_congr a fun t ht => h t (List.mem_append_left _ ht), opds_congr b fun t ht => h t (List.mem_append_right _ ht)]
  case call f as => rw [one f fun t ht => by simp [ht], opds_congr as fun t ht => h t (List.mem_append_right _ ht)]
  case pick c a b => rw [one c fun t ht => by simp [ht], one a fun t ht => by simp [ht], one b fun t ht => by simp [ht]]
  case bin op k x y => rw [one x fun t ht => by simp [ht], one y fun t ht => by simp [ht]]
  case idxA sz x y => rw [one x fun t ht => by simp [ht], one y fun t ht => by simp [ht]]
  case idxS x y => rw [one x fun t ht => by simp [ht], one y fun t ht => by simp [ht]]
  all_goals first
    | rfl
    | (rename_i x; rw [one x fun t ht => ht])
    | (rename_i x _; rw [one x fun t ht => ht])
theorem evA_congr {e e' : Env} {call : Disp} {B L : List Ent} (o : IOp) (h : ∀ t ∈ o.slots, e.get t = e'.get t) : evA call o (opd e) B L = evA call o (opd e') B L := by
  have one : ∀ x : Opd, (∀ t ∈ x.slots, t ∈ o.slots) → opd e x = opd e' x := fun x hx => opd_congr x fun t ht => h t (hx t ht)
  have q : evQ call o (opd e) B L = evQ call o (opd e') B L := evQ_congr o h
  cases o <;> simp only [evA, q] <;> simp only [IOp.slots] at h one
  case box sz x => rw [one x fun t ht => ht]
  case store sz x y => rw [one x fun t ht => by simp [ht], one y fun t ht => by simp [ht]]
  case mksl sz b z x y => rw [one x fun t ht => by simp [ht], one y fun t ht => by simp [ht]]
  case app sz b x y => rw [one x fun t ht => by simp [ht], one y fun t ht => by simp [ht]]
theorem toFVs_mono {B L B2 L2 : List Ent} (h : Less B L B2 L2) : ∀ {ss : List SV} {xs : List FV}, toFVs B L ss = some xs → toFVs B2 L2 ss = some xs
  | [], xs, hx => hx
  | s :: ss, xs, hx => by
    simp only [toFVs, Option.bind_eq_some_iff, Option.map_eq_some_iff] at hx ⊢
    obtain ⟨x, h1, ys, h2, rfl⟩ := hx
    exact ⟨x, toFV_mono h h1, ys, toFVs_mono h h2, rfl⟩
theorem parts2_mono {B L B2 L2 : List Ent} (h : Less B L B2 L2) {g : Look} : ∀ {l : List (Nat × Nat × Opd)} {xs : List (Nat × Nat × FV)}, parts2 B L g l = some xs → parts2 B2 L2 g l = some xs
  | [], xs, hx => hx
  | (o, n, x) :: l, xs, hx => by
    simp only [parts2, Option.bind_eq_some_iff, Option.map_eq_some_iff] at hx ⊢
    obtain ⟨x, h1, ys, h2, rfl⟩ := hx
    exact ⟨x, toFV_mono h h1, ys, parts2_mono h h2, rfl⟩
theorem parts1_mono {B L B2 L2 : List Ent} (h : Less B L B2 L2) {g : Look} : ∀ {l : List (Nat × Opd)} {xs : List (Nat × FV)}, parts1 B L g l = some xs → parts1 B2 L2 g l = some xs
  | [], xs, hx => hx
  | (o, x) :: l, xs, hx => by
    simp only [parts1, Option.bind_eq_some_iff, Option.map_eq_some_iff] at hx ⊢
    obtain ⟨x, h1, ys, h2, rfl⟩ := hx
    exact ⟨x, toFV_mono h h1, ys, parts1_mono h h2, rfl⟩
theorem mkCap_mono {B L B2 L2 : List Ent} (h : Less B L B2 L2) {s : SV} {c : Cap} (hc : mkCap B L s = some c) : mkCap B2 L2 s = some c := by
  unfold mkCap at hc ⊢
  split at hc
  · rename_i id sz
    split at hc
    · rename_i sz' xs he; rw [h.eq he (by simp)]; exact hc
    · rename_i sz' x he; rw [h.eq he (by simp)]; exact hc
    · cases hc
  · obtain ⟨x, hx, rfl⟩ := Option.map_eq_some_iff.1 hc
    rw [toFV_mono h hx]; rfl
theorem mkCaps_mono {B L B2 L2 : List Ent} (h : Less B L B2 L2) : ∀ {ss : List SV} {xs : List Cap}, mkCaps B L ss = some xs → mkCaps B2 L2 ss = some xs
  | [], xs, hx => hx
  | s :: ss, xs, hx => by
    simp only [mkCaps, Option.bind_eq_some_iff, Option.map_eq_some_iff] at hx ⊢
    obtain ⟨x, h1, ys, h2, rfl⟩ := hx
    exact ⟨x, mkCap_mono h h1, ys, mkCaps_mono h h2, rfl⟩
theorem evQ_mono {B L B2 L2 : List Ent} (h : Less B L B2 L2) {g : Look} {call : Disp} {o : IOp} {s : SV} (hs : evQ call o g B L = some s) : evQ call o g B2 L2 = some s := by
  cases o <;> simp only [evQ] at hs ⊢ <;> try exact hs
  case build z ps =>
    obtain ⟨xs, h1, h2⟩ := Option.bind_eq_some_iff.1 hs
    rw [parts2_mono h h1]; exact h2
  case bsl sz z n ps =>
    split at hs
    · rename_i hc
      rw [if_pos hc]
      obtain ⟨xs, h1, h2⟩ := Option.bind_eq_some_iff.1 hs
      rw [parts1_mono h h1]; exact h2
    · cases hs
  case load ag sz x =>
    split at hs
    · rename_i y hy; exact hs
    · rename_i id sz' i c hy
      split at hs
      · rename_i sz2 xs he; simp only [h.eq he (by simp)]; exact hs
      · rename_i sz2 xs he; simp only [h.eq he (by simp)]; exact hs
      · cases hs
    · cases hs
  case mkfn f a b =>
    obtain ⟨ys, h3, h4⟩ := Option.map_eq_some_iff.1 hs
    rw [mkCaps_mono h h3]; exact congrArg some h4
  case call f as =>
    split at hs
    · rename_i n first caps hg
      obtain ⟨xs, h1, h2⟩ := Option.bind_eq_some_iff.1 hs
      simp only [toFVs_mono h h1]; exact h2
    · cases hs
theorem ent_push_old {B L : List Ent} (e : Ent) {id : Id} (hv : id.valid B L) : ent B (L ++ [e]) id = ent B L id := by
  rw [ent_push]
  split
  · rename_i h; subst h; simp [Id.valid] at hv
  · rfl
theorem evA_ents {call : Disp} {o : IOp} {g : Look} {B L : List Ent} {v : SV} {B' L' : List Ent} (h : evA call o g B L = some (v, B', L')) :
    B'.length = B.length ∧ L.length ≤ L'.length ∧ ∀ id, id.valid B L → (ent B L id).isOwn = false ∨ o.turns = false → ent B' L' id = ent B L id := by
  have quiet : ((evQ call o g B L).map fun s => (s, B, L)) = some (v, B', L') → B'.length = B.length ∧ L.length ≤ L'.length ∧ ∀ id, id.valid B L → (ent B L id).isOwn = false ∨ o.turns = false → ent B' L' id = ent B L id := by
    intro h
    obtain ⟨s', hs, he⟩ := Option.map_eq_some_iff.1 h
    simp only [Prod.mk.injEq] at he
    obtain ⟨rfl, rfl, rfl⟩ := he
    exact ⟨rfl, Nat.le_refl _, fun _ _ _ => rfl⟩
  have push : ∀ (e : Ent), B' = B → L' = L ++ [e] → B'.length = B.length ∧ L.length ≤ L'.length ∧ ∀ id, id.valid B L → (ent B L id).isOwn = false ∨ o.turns = false → ent B' L' id = ent B L id := by
    rintro e rfl rfl
    exact ⟨rfl, by simp, fun id hv _ => ent_push_old e hv⟩
  cases o <;> simp only [evA] at h <;> try exact quiet h
  case alloc sz z =>
    split at h
    · simp only [Option.some.injEq, Prod.mk.injEq] at h; exact push _ h.2.1.symm h.2.2.symm
    · cases h
  case box sz x =>
    obtain ⟨y, hy, h⟩ := Option.bind_eq_some_iff.1 h
    split at h
    · simp only [Option.some.injEq, Prod.mk.injEq] at h; exact push _ h.2.1.symm h.2.2.symm
    · cases h
  case mksl sz b z n c =>
    split at h
    · split at h
      · simp only [Option.some.injEq, Prod.mk.injEq] at h; exact push _ h.2.1.symm h.2.2.symm
      · cases h
    · cases h
  case store sz a x =>
    split at h
    · rename_i id sz' i c hg
      split at h
      · rename_i sz2 xs he
        split at h
        · obtain ⟨y, hy, h⟩ := Option.bind_eq_some_iff.1 h
          split at h
          · obtain ⟨e, h1, h⟩ := Option.bind_eq_some_iff.1 h
            obtain ⟨e', h2, h⟩ := Option.map_eq_some_iff.1 h
            simp only [Prod.mk.injEq] at h
            obtain ⟨_, rfl, rfl⟩ := h
            obtain ⟨l1, l2⟩ := setE_length id (.own sz2 (xs.set i e')) B L
            refine ⟨l1, Nat.le_of_eq l2.symm, fun k hk hc => ?_⟩
            rw [ent_setE _ _ _ _ (own_valid (by rw [he]; rfl))]
            split
            · rename_i e; subst e
              rcases hc with hc | hc
              · rw [he] at hc; simp [Ent.isOwn] at hc
              · simp [IOp.turns] at hc
            · rfl
          · cases h
        · cases h
      · cases h
    · cases h
  case app sz b x y =>
    obtain ⟨ys, hy, h⟩ := Option.bind_eq_some_iff.1 h
    split at h
    · split at h
      · simp only [Option.some.injEq, Prod.mk.injEq] at h
        obtain ⟨_, rfl, rfl⟩ := h
        exact ⟨rfl, Nat.le_refl _, fun _ _ _ => rfl⟩
      · split at h
        · simp only [Option.some.injEq, Prod.mk.injEq] at h; exact push _ h.2.1.symm h.2.2.symm
        · cases h
    · split at h
      · simp only [Option.some.injEq, Prod.mk.injEq] at h
        obtain ⟨_, rfl, rfl⟩ := h
        exact ⟨rfl, Nat.le_refl _, fun _ _ _ => rfl⟩
      · split at h
        · simp only [Option.some.injEq, Prod.mk.injEq] at h; exact push _ h.2.1.symm h.2.2.symm
        · cases h
    · rename_i id sz' n hg
      split at h
      · rename_i sz2 xs he
        split at h
        · simp only [Option.some.injEq, Prod.mk.injEq] at h
          obtain ⟨_, rfl, rfl⟩ := h
          obtain ⟨l1, l2⟩ := setE_length id .dead B L
          refine ⟨l1, by simp [l2], fun k hk hc => ?_⟩
          rw [ent_push_old _ (by cases k <;> simp only [Id.valid] at hk ⊢ <;> omega), ent_setE _ _ _ _ (own_valid (by rw [he]; rfl))]
          split
          · rename_i e; subst e
            rcases hc with hc | hc
            · rw [he] at hc; simp [Ent.isOwn] at hc
            · simp [IOp.turns] at hc
          · rfl
        · cases h
      · cases h
    · cases h
theorem evA_quiet {call : Disp} {o : IOp} {g : Look} {B L : List Ent} {v : SV} {B' L' : List Ent} (h : evA call o g B L = some (v, B', L')) (hq : quietAt o g = true) :
    ∀ id, id.valid B L → ent B' L' id = ent B L id := by
  intro id hv
  have other : o.turns = false → ent B' L' id = ent B L id := fun ht => (evA_ents h).2.2 id hv (.inr ht)
  cases o <;> simp only [quietAt] at hq <;> try exact other (by simpa using hq)
  case app sz b x y =>
    simp only [evA] at h
    obtain ⟨ys, hy, h⟩ := Option.bind_eq_some_iff.1 h
    split at h
    · split at h
      · simp only [Option.some.injEq, Prod.mk.injEq] at h
        obtain ⟨_, rfl, rfl⟩ := h; rfl
      · split at h
        · simp only [Option.some.injEq, Prod.mk.injEq] at h
          obtain ⟨_, rfl, rfl⟩ := h
          exact ent_push_old _ hv
        · cases h
    · split at h
      · simp only [Option.some.injEq, Prod.mk.injEq] at h
        obtain ⟨_, rfl, rfl⟩ := h; rfl
      · split at h
        · simp only [Option.some.injEq, Prod.mk.injEq] at h
          obtain ⟨_, rfl, rfl⟩ := h
          exact ent_push_old _ hv
        · cases h
    · rename_i id' sz' n hg
      rw [hg] at hq; cases hq
    · cases h
def tgtOf (o : IOp) (g : Look) : List Id :=
  match o with
  | .store _ a _ => (g a).ids
  | .app _ _ x _ => (g x).ids
  | _ => []
theorem evA_tgt {call : Disp} {o : IOp} {g : Look} {B L : List Ent} {v : SV} {B' L' : List Ent} (h : evA call o g B L = some (v, B', L')) {id : Id} (hv : id.valid B L) (hn : id ∉ tgtOf o g) : ent B' L' id = ent B L id := by
  have other : o.turns = false → ent B' L' id = ent B L id := fun ht => (evA_ents h).2.2 id hv (.inr ht)
  cases o <;> try exact other rfl
  case store sz a x =>
    simp only [tgtOf] at hn
    simp only [evA] at h
    split at h
    · rename_i id' sz' i c hg
      rw [hg] at hn
      split at h
      · rename_i sz2 xs he
        split at h
        · obtain ⟨y, hy, h⟩ := Option.bind_eq_some_iff.1 h
          split at h
          · obtain ⟨e, h1, h⟩ := Option.bind_eq_some_iff.1 h
            obtain ⟨e', h2, h⟩ := Option.map_eq_some_iff.1 h
            simp only [Prod.mk.injEq] at h
            obtain ⟨_, rfl, rfl⟩ := h
            rw [ent_setE _ _ _ _ (own_valid (by rw [he]; rfl)), if_neg (by simpa [SV.ids] using hn)]
          · cases h
        · cases h
      · cases h
    · cases h
  case app sz b x y =>
    simp only [tgtOf] at hn
    cases hg : g x with
    | fv z => exact evA_quiet h (by simp [quietAt, hg]) id hv
    | unk => simp only [evA, hg] at h; obtain ⟨_, _, h⟩ := Option.bind_eq_some_iff.1 h; cases h
    | ptr i a b c => simp only [evA, hg] at h; obtain ⟨_, _, h⟩ := Option.bind_eq_some_iff.1 h; cases h
    | clo f n cs => simp only [evA, hg] at h; obtain ⟨_, _, h⟩ := Option.bind_eq_some_iff.1 h; cases h
    | ref id' sz' off n ap =>
      rw [hg] at hn
      simp only [evA, hg] at h
      obtain ⟨ys, hy, h⟩ := Option.bind_eq_some_iff.1 h
      split at h
      all_goals try (rename_i e; cases e; done)
      · rename_i id2 sz2 n2 e
        injection e with e1 e2 e3 e4 e5
        subst e1
        split at h
        · rename_i sz3 xs he
          split at h
          · simp only [Option.some.injEq, Prod.mk.injEq] at h
            obtain ⟨_, rfl, rfl⟩ := h
            obtain ⟨l1, l2⟩ := setE_length id' .dead B L
            rw [ent_push_old _ (by cases id <;> simp only [Id.valid] at hv ⊢ <;> omega), ent_setE _ _ _ _ (own_valid (by rw [he]; rfl)), if_neg (by simpa [SV.ids] using hn)]
          · cases h
        · cases h
      · cases h
end Go.Ab
namespace Go.Ab
section
variable {w w' : World} {O : Nat → Prop} {ρ ρ' : Rho} {B L B' L' : List Ent}
theorem getD_maskL (h : Nat → Bool) (L : List Ent) (p : Nat) : (maskL h L).getD p .dead = if h p then .dead else L.getD p .dead := by
  simp only [maskL, List.getD_eq_getElem?_getD, List.getElem?_mapIdx]
  cases L[p]? with
  | none => simp
  | some e => simp
theorem maskL_length (h : Nat → Bool) (L : List Ent) : (maskL h L).length = L.length := by simp [maskL]
theorem restL_length (h : Nat → Bool) (L L' : List Ent) : (restL h L L').length = L'.length := by simp [restL]
theorem getD_restL (h : Nat → Bool) (L L' : List Ent) (p : Nat) : (restL h L L').getD p .dead = if p < L'.length ∧ h p = true then L.getD p .dead else L'.getD p .dead := by
  simp only [restL, List.getD_eq_getElem?_getD, List.getElem?_mapIdx]
  cases hp : L'[p]? with
  | none =>
    have : ¬ p < L'.length := by
      intro hlt; rw [List.getElem?_eq_getElem hlt] at hp; cases hp
    simp [this]
  | some e =>
    have : p < L'.length := (List.getElem?_eq_some_iff.1 hp).1
    simp only [Option.map_some, Option.getD_some, this, true_and]
def hid (h : Nat → Bool) : Id → Bool
  | .b _ => false
  | .l p => h p
theorem ent_maskL (h : Nat → Bool) (B L : List Ent) (i : Id) : ent B (maskL h L) i = if hid h i then .dead else ent B L i := by
  cases i with
  | b j => simp [ent, hid]
  | l p => simp only [ent, hid]; exact getD_maskL h L p
theorem ent_restL (h : Nat → Bool) (hl : L.length ≤ L'.length) (i : Id) : ent B' (restL h L L') i = if hid h i then ent B L i else ent B' L' i := by
  cases i with
  | b j => simp [ent, hid]
  | l p =>
    have e1 : hid h (.l p) = h p := rfl
    have e2 : ent B' (restL h L L') (.l p) = (restL h L L').getD p .dead := rfl
    rw [e1, e2, getD_restL]
    by_cases hp : h p = true
    · rw [if_pos hp]
      split
      · rfl
      · rename_i hn
        have : ¬ p < L'.length := fun h' => hn ⟨h', hp⟩
        simp only [ent]
        rw [List.getD_eq_getElem?_getD, List.getD_eq_getElem?_getD, List.getElem?_eq_none (by omega), List.getElem?_eq_none (by omega)]
    · rw [if_neg hp, if_neg (fun h' => hp h'.2)]; rfl
theorem maskL_weak (h : Nat → Bool) (B L : List Ent) : Weak B L B (maskL h L) := fun i => by
  rw [ent_maskL]
  split
  · exact .inr (.inr rfl)
  · exact .inl rfl
def MO (O : Nat → Prop) (ρ : Rho) (B L : List Ent) (h : Nat → Bool) (b : Nat) : Prop := O b ∨ ∃ i, hid h i = true ∧ (ent B L i).isOwn = true ∧ (ρ i).1 = b
theorem av_mask (h : Nat → Bool) : Av (MO O ρ B L h) ρ B (maskL h L) = Av O ρ B L := by
  funext b
  refine propext ⟨?_, ?_⟩
  · rintro ((hb | ⟨i, _, h2, h3⟩) | ⟨i, h2, h3⟩)
    · exact .inl hb
    · exact .inr ⟨i, h2, h3⟩
    · rw [ent_maskL] at h2
      split at h2
      · simp [Ent.isOwn] at h2
      · exact .inr ⟨i, h2, h3⟩
  · rintro (hb | ⟨i, h2, h3⟩)
    · exact .inl (.inl hb)
    · by_cases hi : hid h i = true
      · exact .inl (.inr ⟨i, hi, h2, h3⟩)
      · exact .inr ⟨i, by rw [ent_maskL, if_neg hi]; exact h2, h3⟩
theorem Heap.avLt' (hh : Heap w O ρ B L) (i : Id) (hi : (ent B L i).isOwn = true) : (ρ i).1 < w.heap.size := by
  cases he : ent B L i with
  | own sz xs =>
    obtain ⟨_, _, _, _, cur, t, h5, _⟩ := hh.own i sz xs he
    exact (Array.getElem?_eq_some_iff.1 h5).1
  | dead => rw [he] at hi; simp [Ent.isOwn] at hi
  | frz sz xs => rw [he] at hi; simp [Ent.isOwn] at hi
theorem heap_mask (hh : Heap w O ρ B L) (h : Nat → Bool) : Heap w (MO O ρ B L h) ρ B (maskL h L) := by
  have hm : ∀ i e, e ≠ .dead → ent B (maskL h L) i = e → ent B L i = e ∧ hid h i = false := by
    intro i e hd he
    rw [ent_maskL] at he
    split at he
    · exact absurd he.symm hd
    · rename_i hf; exact ⟨he, by simpa using hf⟩
  have ho : ∀ i, (ent B (maskL h L) i).isOwn = true → (ent B L i).isOwn = true ∧ hid h i = false := by
    intro i hi
    obtain ⟨h1, h2⟩ := hm i (ent B (maskL h L) i) (by intro hd; rw [hd] at hi; simp [Ent.isOwn] at hi) rfl
    exact ⟨by rw [h1]; exact hi, h2⟩
  refine ⟨fun i j hi hj e => hh.inj i j (ho i hi).1 (ho j hj).1 e, fun i hi => ?_, fun b hb => ?_, fun i sz xs he => ?_, fun i sz xs he => ?_⟩
  · rintro (hb | ⟨k, k1, k2, k3⟩)
    · exact hh.notO i (ho i hi).1 hb
    · have := hh.inj i k (ho i hi).1 k2 k3.symm
      subst this
      rw [(ho i hi).2] at k1; cases k1
  · rcases hb with hb | ⟨k, k1, k2, k3⟩
    · exact hh.oLt b hb
    · rw [← k3]; exact hh.avLt' k k2
  · rw [av_mask]; exact hh.own i sz xs (hm i _ (by simp) he).1
  · rw [av_mask]; exact hh.frz i sz xs (hm i _ (by simp) he).1
theorem sv_mask {v : Value} {s : SV} (h : Nat → Bool) (hr : SvRel w (Av O ρ B L) ρ B L v s) : SvRel w (Av (MO O ρ B L h) ρ B (maskL h L)) ρ B (maskL h L) v s := by
  rw [av_mask]
  have hv : ∀ id : Id, id.valid B L → id.valid B (maskL h L) := fun id hv => by cases id <;> simp only [Id.valid, maskL_length] at hv ⊢ <;> exact hv
  cases s with
  | unk => trivial
  | fv x => exact hr
  | ref id sz off len ap => exact ⟨hv _ hr.1, hr.2⟩
  | ptr id sz i c => exact ⟨hv _ hr.1, hr.2⟩
  | clo f nf caps =>
    obtain ⟨fs, cs, e, h1, h2, h4⟩ := hr
    refine ⟨fs, cs, e, h1, h2, fun j u x hu hx => ?_⟩
    have := h4 j u x hu hx
    cases x with
    | fz x => exact this
    | own id sz => exact ⟨hv _ this.1, this.2⟩
theorem unmask_ext (hh : Heap w O ρ B L) (h : Nat → Bool) (hx : Ext w (MO O ρ B L h) ρ B (maskL h L) w' ρ' B' L') : Ext w O ρ B L w' ρ' B' (restL h L L') := by
  have hl : L.length ≤ L'.length := by have := hx.lenL; rw [maskL_length] at this; exact this
  have hmo : ∀ i, (ent B (maskL h L) i).isOwn = true → (ent B L i).isOwn = true ∧ hid h i = false := by
    intro i hi
    rw [ent_maskL] at hi
    split at hi
    · simp [Ent.isOwn] at hi
    · rename_i hf; exact ⟨hi, by simpa using hf⟩
  have hvo : ∀ i, (ent B L i).isOwn = true → ρ' i = ρ i := fun i hi => hx.rho i (by
    have := own_valid hi
    cases i <;> simp only [Id.valid, maskL_length] at this ⊢ <;> exact this)
  have hval : ∀ i e, e ≠ .dead → ent B L i = e → ρ' i = ρ i := fun i e hd he => hx.rho i (by
    cases i with
    | b j =>
      simp only [Id.valid]
      apply Classical.byContradiction; intro hn
      simp only [ent] at he
      rw [List.getD_eq_getElem?_getD, List.getElem?_eq_none (by omega)] at he
      exact hd he.symm
    | l j =>
      simp only [Id.valid, maskL_length]
      apply Classical.byContradiction; intro hn
      simp only [ent] at he
      rw [List.getD_eq_getElem?_getD, List.getElem?_eq_none (by omega)] at he
      exact hd he.symm)
  have he2 : ∀ i, ent B' (restL h L L') i = if hid h i then ent B L i else ent B' L' i := ent_restL h hl
  have hav : ∀ b, Av O ρ' B' (restL h L L') b → Av (MO O ρ B L h) ρ' B' L' b := by
    rintro b (hb | ⟨i, hi, e⟩)
    · exact .inl (.inl hb)
    · rw [he2] at hi
      split at hi
      · rename_i hf
        exact .inl (.inr ⟨i, hf, hi, by rw [← hvo i hi]; exact e⟩)
      · exact .inr ⟨i, hi, e⟩
  have hav2 : ∀ b, b < w.heap.size → Av O ρ' B' (restL h L L') b → Av O ρ B L b := by
    intro b hb hA
    have := hx.av b hb (hav b hA)
    rw [av_mask] at this; exact this
  have hchg : Chg (fun b => ∃ i, (ent B L i).isOwn = true ∧ (ρ i).1 = b) w w' := hx.chg.mono fun b hb ⟨i, hi, e⟩ => ⟨i, (hmo i hi).1, e⟩
  have hnew : ∀ {v x}, Rd w' (Av (MO O ρ B L h) ρ' B' L') v x → Rd w' (Av O ρ' B' (restL h L L')) v x := fun hr => Rd.congrA hav hr
  have hold : ∀ {v x}, Rd w (Av O ρ B L) v x → Rd w' (Av O ρ' B' (restL h L L')) v x := fun hr => Rd.mono hchg (fun b ⟨i, hi, e⟩ => .inr ⟨i, hi, e⟩) hav2 hr
  refine ⟨hchg, ⟨fun i j hi hj e => ?_, fun i hi => ?_, fun b hb => Nat.lt_of_lt_of_le (hh.oLt b hb) hx.chg.size, fun i sz xs he => ?_, fun i sz xs he => ?_⟩,
    fun id hv => hx.rho id (by cases id <;> simp only [Id.valid, maskL_length] at hv ⊢ <;> exact hv), hav2, hx.lenB, by rw [restL_length]; exact hl⟩
  · rw [he2] at hi hj
    split at hi
    · rename_i h1
      split at hj
      · rw [hvo i hi, hvo j hj] at e
        exact hh.inj i j hi hj e
      · rw [hvo i hi] at e
        exact absurd (.inr ⟨i, h1, hi, e⟩) (hx.heap.notO j hj)
    · split at hj
      · rename_i h1
        rw [hvo j hj] at e
        exact absurd (.inr ⟨j, h1, hj, e.symm⟩) (hx.heap.notO i hi)
      · exact hx.heap.inj i j hi hj e
  · rw [he2] at hi
    split at hi
    · rw [hvo i hi]; exact hh.notO i hi
    · exact fun hb => hx.heap.notO i hi (.inl hb)
  · rw [he2] at he
    split at he
    · rename_i h1
      obtain ⟨k1, k2, k3, k4, cur, t, k5, k6, k7⟩ := hh.own i sz xs he
      rw [hvo i (by rw [he]; rfl)]
      refine ⟨k1, k2, k3, k4, cur, t, ?_, k6, fun j x hj => ?_⟩
      · rw [hx.chg.block _ (Array.getElem?_eq_some_iff.1 k5).1]
        · exact k5
        · rintro ⟨k, hk, e⟩
          have := hh.inj k i (hmo k hk).1 (by rw [he]; rfl) e
          subst this
          rw [(hmo k hk).2] at h1; cases h1
      · obtain ⟨v, hv, hr⟩ := k7 j x hj
        exact ⟨v, hv, hold hr⟩
    · obtain ⟨k1, k2, k3, k4, cur, t, k5, k6, k7⟩ := hx.heap.own i sz xs he
      refine ⟨k1, k2, k3, k4, cur, t, k5, k6, fun j x hj => ?_⟩
      obtain ⟨v, hv, hr⟩ := k7 j x hj
      exact ⟨v, hv, hnew hr⟩
  · rw [he2] at he
    split at he
    · obtain ⟨k1, k2, k3, k4, k5⟩ := hh.frz i sz xs he
      rw [hval i _ (by simp) he]
      refine ⟨k1, k2, fun hA => k3 (hav2 _ k4 hA), Nat.lt_of_lt_of_le k4 hx.chg.size, fun j x hj => ?_⟩
      obtain ⟨v, hv, hr⟩ := k5 j x hj
      exact ⟨v, hchg.cell (fun ⟨k, hk, e⟩ => k3 (.inr ⟨k, hk, e⟩)) hv, hold hr⟩
    · obtain ⟨k1, k2, k3, k4, k5⟩ := hx.heap.frz i sz xs he
      refine ⟨k1, k2, fun hA => k3 (hav _ hA), k4, fun j x hj => ?_⟩
      obtain ⟨v, hv, hr⟩ := k5 j x hj
      exact ⟨v, hv, hnew hr⟩
theorem unmask_sv (hh : Heap w O ρ B L) (h : Nat → Bool) (hx : Ext w (MO O ρ B L h) ρ B (maskL h L) w' ρ' B' L') {v : Value} {s : SV} (hr : SvRel w' (Av (MO O ρ B L h) ρ' B' L') ρ' B' L' v s) :
    SvRel w' (Av O ρ' B' (restL h L L')) ρ' B' (restL h L L') v s := by
  have hl : L.length ≤ L'.length := by have := hx.lenL; rw [maskL_length] at this; exact this
  have hav : ∀ b, Av O ρ' B' (restL h L L') b → Av (MO O ρ B L h) ρ' B' L' b := by
    rintro b (hb | ⟨i, hi, e⟩)
    · exact .inl (.inl hb)
    · rw [ent_restL h hl (B := B)] at hi
      split at hi
      · rename_i hf
        exact .inl (.inr ⟨i, hf, hi, by rw [← hx.rho i (by have := own_valid hi; cases i <;> simp only [Id.valid, maskL_length] at this ⊢ <;> exact this)]; exact e⟩)
      · exact .inr ⟨i, hi, e⟩
  have hv : ∀ id : Id, id.valid B' L' → id.valid B' (restL h L L') := fun id hv => by cases id <;> simp only [Id.valid, restL_length] at hv ⊢ <;> exact hv
  cases s with
  | unk => trivial
  | fv x => exact Rd.congrA hav hr
  | ref id sz off len ap => exact ⟨hv _ hr.1, hr.2⟩
  | ptr id sz i c => exact ⟨hv _ hr.1, hr.2⟩
  | clo f nf caps =>
    obtain ⟨fs, cs, e, h1, h2, h4⟩ := hr
    refine ⟨fs, cs, e, h1, h2, fun j u x hu hx => ?_⟩
    have := h4 j u x hu hx
    cases x with
    | fz x => exact Rd.congrA hav this
    | own id sz => exact ⟨hv _ this.1, this.2⟩
theorem frz1_other {i id : Id} (hne : i ≠ id) (B L : List Ent) : ent (frz1 i B L).1 (frz1 i B L).2 id = ent B L id := by
  cases i <;> cases id <;> simp only [frz1, ent]
  · rename_i a b
    rw [getD_modify, if_neg (fun h => hne (by rw [h.1]))]
  · rename_i a b
    rw [getD_modify, if_neg (fun h => hne (by rw [h.1]))]
theorem frzs_other {id : Id} : ∀ (ids : List Id) (B L : List Ent), id ∉ ids → ent (frzs ids B L).1 (frzs ids B L).2 id = ent B L id
  | [], B, L, _ => rfl
  | i :: r, B, L, h => by
    simp only [frzs]
    rw [frzs_other r _ _ (fun h' => h (List.mem_cons_of_mem _ h')), frz1_other (fun e => h (by simp [e]))]
theorem frzNew_weak (steps : List IStep) (s : IStep) (n : Nat) (v : SV) (B L : List Ent) : Weak B L (frzNew steps s n v B L).1 (frzNew steps s n v B L).2 ∧ (frzNew steps s n v B L).1.length = B.length ∧ (frzNew steps s n v B L).2.length = L.length := by
  unfold frzNew
  split
  · exact frzs_weak _ _ _
  · exact ⟨Weak.refl _ _, rfl, rfl⟩
theorem frzNew_old {steps : List IStep} {s : IStep} {n : Nat} {v : SV} {B L : List Ent} {id : Id} (h : ∀ p, id = .l p → p < n) : ent (frzNew steps s n v B L).1 (frzNew steps s n v B L).2 id = ent B L id := by
  unfold frzNew
  split
  · rename_i hc
    simp only [Bool.and_eq_true, List.all_eq_true] at hc
    refine frzs_other _ _ _ fun hm => ?_
    have := hc.2 id hm
    cases id with
    | b j => simp at this
    | l p =>
      have hp := h p rfl
      simp at this
      omega
  · rfl
theorem Heap.swap {τ : Id → Id} (hτ : ∀ i, τ (τ i) = i) {ρ2 : Rho} {B2 L2 : List Ent} (hh : Heap w O ρ B L) (he : ∀ i, ent B2 L2 i = ent B L (τ i)) (hr : ∀ i, (ent B L (τ i)) ≠ .dead → ρ2 i = ρ (τ i)) :
    Heap w O ρ2 B2 L2 ∧ Av O ρ2 B2 L2 = Av O ρ B L := by
  have hro : ∀ i, (ent B L (τ i)).isOwn = true → ρ2 i = ρ (τ i) := fun i hi => hr i (by intro hd; rw [hd] at hi; simp [Ent.isOwn] at hi)
  have hav : Av O ρ2 B2 L2 = Av O ρ B L := by
    funext b
    refine propext ⟨?_, ?_⟩
    · rintro (hb | ⟨i, hi, e⟩)
      · exact .inl hb
      · rw [he] at hi
        exact .inr ⟨τ i, hi, by rw [← hro i hi]; exact e⟩
    · rintro (hb | ⟨i, hi, e⟩)
      · exact .inl hb
      · refine .inr ⟨τ i, by rw [he, hτ]; exact hi, ?_⟩
        rw [hro (τ i) (by rw [hτ]; exact hi), hτ]; exact e
  refine ⟨⟨fun i j hi hj e => ?_, fun i hi => ?_, hh.oLt, fun i sz xs h => ?_, fun i sz xs h => ?_⟩, hav⟩
  · rw [he] at hi hj
    rw [hro i hi, hro j hj] at e
    have := hh.inj _ _ hi hj e
    rw [← hτ i, this, hτ]
  · rw [he] at hi
    rw [hro i hi]; exact hh.notO _ hi
  · rw [he] at h
    rw [hav, hr i (by rw [h]; simp)]
    exact hh.own _ sz xs h
  · rw [he] at h
    rw [hav, hr i (by rw [h]; simp)]
    exact hh.frz _ sz xs h
theorem getD_set (L : List Ent) (p q : Nat) (e : Ent) (hp : p < L.length) : (L.set p e).getD q .dead = if q = p then e else L.getD q .dead := by
  simp only [List.getD_eq_getElem?_getD, List.getElem?_set]
  by_cases h : p = q
  · subst h; simp [hp]
  · rw [if_neg h, if_neg (fun e => h e.symm)]
theorem fill_ext {sz : Nat} {z : FV} {zv : Value} {p : Nat} (hh : Heap w O ρ B L) (t : TypeId) (hz : 0 < sz) (hzl : z.cells.length = sz) (hr : CellsRel w (Av O ρ B L) zv.cells z.cells)
    (hp : p < L.length) (hd : L.getD p .dead = .dead) :
    Heap (w.alloc (.cells zv.cells t)) O (upd ρ (.l p) (w.heap.size, 1)) B (L.set p (.own sz [z])) ∧
    (∀ b, b < w.heap.size → Av O (upd ρ (.l p) (w.heap.size, 1)) B (L.set p (.own sz [z])) b → Av O ρ B L b) ∧
    (∀ v s, (∀ i ∈ s.ids, i ≠ .l p) → SvRel w (Av O ρ B L) ρ B L v s → SvRel (w.alloc (.cells zv.cells t)) (Av O (upd ρ (.l p) (w.heap.size, 1)) B (L.set p (.own sz [z]))) (upd ρ (.l p) (w.heap.size, 1)) B (L.set p (.own sz [z])) v s) := by
  have hx := new_one hh t hz hzl hr
  let τ : Id → Id := fun i => if i = .l p then .l L.length else if i = .l L.length then .l p else i
  have hne : p ≠ L.length := by omega
  have hτ : ∀ i, τ (τ i) = i := by
    intro i
    simp only [τ]
    by_cases h1 : i = .l p
    · subst h1; simp [Ne.symm hne]
    · rw [if_neg h1]
      by_cases h2 : i = .l L.length
      · subst h2; simp
      · rw [if_neg h2, if_neg h1, if_neg h2]
  have he : ∀ i, ent B (L.set p (.own sz [z])) i = ent B (L ++ [.own sz [z]]) (τ i) := by
    intro i
    simp only [τ]
    by_cases h1 : i = .l p
    · subst h1
      rw [if_pos rfl, ent_push, if_pos rfl]
      simp only [ent]
      rw [getD_set _ _ _ _ hp, if_pos rfl]
    · rw [if_neg h1]
      by_cases h2 : i = .l L.length
      · subst h2
        rw [if_pos rfl, ent_push, if_neg (by simpa using hne)]
        simp only [ent]
        rw [getD_set _ _ _ _ hp, if_neg (Ne.symm hne), hd, List.getD_eq_getElem?_getD, List.getElem?_eq_none (by omega)]; rfl
      · rw [if_neg h2, ent_push, if_neg h2]
        cases i with
        | b j => rfl
        | l q =>
          simp only [ent]
          rw [getD_set _ _ _ _ hp, if_neg (fun e => h1 (by rw [e]))]
  have hrho : ∀ i, ent B (L ++ [.own sz [z]]) (τ i) ≠ .dead → upd ρ (.l p) (w.heap.size, 1) i = upd ρ (.l L.length) (w.heap.size, 1) (τ i) := by
    intro i hi
    simp only [τ] at hi ⊢
    by_cases h1 : i = .l p
    · subst h1; simp [upd]
    · rw [if_neg h1] at hi ⊢
      by_cases h2 : i = .l L.length
      · subst h2
        rw [if_pos rfl, ent_push, if_neg (by simpa using hne)] at hi
        exact absurd hd hi
      · rw [if_neg h2]
        simp [upd, h1, h2]
  obtain ⟨k1, k2⟩ := hx.heap.swap hτ he hrho
  refine ⟨k1, fun b hb hA => hx.av b hb (by rw [← k2]; exact hA), fun v s hs hr => ?_⟩
  have hrd : ∀ {v x}, Rd w (Av O ρ B L) v x → Rd (w.alloc (.cells zv.cells t)) (Av O (upd ρ (.l p) (w.heap.size, 1)) B (L.set p (.own sz [z]))) v x := fun h => by rw [k2]; exact hx.rd h
  have hv : ∀ id : Id, id.valid B L → id.valid B (L.set p (.own sz [z])) := fun id hv => by cases id <;> simp only [Id.valid, List.length_set] at hv ⊢ <;> exact hv
  have hu : ∀ id : Id, id ≠ .l p → upd ρ (.l p) (w.heap.size, 1) id = ρ id := fun id h => by simp [upd, h]
  cases s with
  | unk => trivial
  | fv x => exact hrd hr
  | ref id sz off len ap => refine ⟨hv _ hr.1, ?_⟩; rw [hu id (hs id (by simp [SV.ids]))]; exact hr.2
  | ptr id sz i c => refine ⟨hv _ hr.1, ?_⟩; rw [hu id (hs id (by simp [SV.ids]))]; exact hr.2
  | clo f nf caps =>
    obtain ⟨fs, cs, e, h1, h2, h4⟩ := hr
    refine ⟨fs, cs, e, h1, h2, fun j u x hju hjx => ?_⟩
    have := h4 j u x hju hjx
    cases x with
    | fz x => exact hrd this
    | own id sz =>
      refine ⟨hv _ this.1, ?_⟩
      rw [hu id (hs id (by
        simp only [SV.ids, List.mem_flatMap]
        exact ⟨_, List.mem_of_getElem? hjx, by simp [Cap.ids]⟩))]
      exact this.2
end
end Go.Ab
namespace Go.Ab
def closF (acc : List (List Nat)) (s : IStep) : List (List Nat) := acc ++ [s.after ++ s.after.flatMap fun j => acc.getD j []]
theorem clos_eq (steps : List IStep) : clos steps = steps.foldl closF [] := rfl
theorem clos_old : ∀ (l : List IStep) (acc : List (List Nat)) (j : Nat), j < acc.length → (l.foldl closF acc).getD j [] = acc.getD j []
  | [], acc, j, h => rfl
  | s :: l, acc, j, h => by
    rw [List.foldl_cons, clos_old l _ j (by simp [closF]; omega)]
    simp only [closF, List.getD_eq_getElem?_getD]
    rw [List.getElem?_append_left h]
theorem clos_at : ∀ (l : List IStep) (acc : List (List Nat)) (k : Nat) (s : IStep), l[k]? = some s → (∀ j ∈ s.after, j < acc.length + k) →
    (l.foldl closF acc).getD (acc.length + k) [] = s.after ++ s.after.flatMap fun j => (l.foldl closF acc).getD j []
  | [], acc, k, s, h, _ => by simp at h
  | x :: l, acc, 0, s, h, ha => by
    simp only [List.getElem?_cons_zero, Option.some.injEq] at h
    subst h
    rw [List.foldl_cons, clos_old l _ _ (by simp [closF])]
    have e : (closF acc x).getD (acc.length + 0) [] = x.after ++ x.after.flatMap fun j => acc.getD j [] := by simp [closF]
    rw [e]
    congr 1
    rw [List.flatMap_def, List.flatMap_def]
    congr 1
    refine List.map_congr_left fun j hj => ?_
    have hj' : j < acc.length := ha j hj
    rw [clos_old l _ j (by simp [closF]; omega)]
    simp only [closF, List.getD_eq_getElem?_getD]
    rw [List.getElem?_append_left hj']
  | x :: l, acc, k + 1, s, h, ha => by
    simp only [List.getElem?_cons_succ] at h
    have hl : (closF acc x).length = acc.length + 1 := by simp [closF]
    have := clos_at l (closF acc x) k s h (fun j hj => by have := ha j hj; omega)
    rw [hl] at this
    rw [List.foldl_cons, show acc.length + (k + 1) = acc.length + 1 + k by omega]
    exact this
theorem waits_iff {steps : List IStep} {i j : Nat} {s : IStep} (hs : steps[i]? = some s) (ha : ∀ j ∈ s.after, j < i) : waits (clos steps) i j = true ↔ j ∈ s.after ∨ ∃ k ∈ s.after, waits (clos steps) k j = true := by
  have := clos_at steps [] i s hs (by simpa using ha)
  simp only [List.length_nil, Nat.zero_add] at this
  unfold waits
  rw [clos_eq, this]
  simp only [List.contains_iff_mem, List.mem_append, List.mem_flatMap]
theorem waits_lt {steps : List IStep} (ha : ∀ (i : Nat) (s : IStep), steps[i]? = some s → ∀ j ∈ s.after, j < i) : ∀ (i j : Nat) (s : IStep), steps[i]? = some s → waits (clos steps) i j = true → j < i := by
  intro i
  induction i using Nat.strongRecOn with
  | _ i ih =>
    intro j s hs hw
    rcases (waits_iff hs (ha i s hs)).1 hw with h | ⟨k, hk, h⟩
    · exact ha i s hs j h
    · have hlt := ha i s hs k hk
      have hi := (List.getElem?_eq_some_iff.1 hs).1
      have := ih k hlt j _ (List.getElem?_eq_getElem (by omega)) h
      omega
theorem waits_D {steps : List IStep} (ha : ∀ (i : Nat) (s : IStep), steps[i]? = some s → ∀ j ∈ s.after, j < i) {D : Nat → Prop} (hD : ∀ (i : Nat) (s : IStep), steps[i]? = some s → D i → ∀ j ∈ s.after, D j) :
    ∀ (i j : Nat) (s : IStep), steps[i]? = some s → (∀ k ∈ s.after, D k) → waits (clos steps) i j = true → D j := by
  intro i
  induction i using Nat.strongRecOn with
  | _ i ih =>
    intro j s hs hk hw
    rcases (waits_iff hs (ha i s hs)).1 hw with h | ⟨k, hk', h⟩
    · exact hk j h
    · have hlt := ha i s hs k hk'
      have hi := (List.getElem?_eq_some_iff.1 hs).1
      have hs' := List.getElem?_eq_getElem (l := steps) (i := k) (by omega)
      exact ih k hlt j _ hs' (hD k _ hs' (hk k hk')) h
theorem waits_trans {steps : List IStep} (ha : ∀ (i : Nat) (s : IStep), steps[i]? = some s → ∀ j ∈ s.after, j < i) : ∀ (i k j : Nat) (s : IStep), steps[i]? = some s → waits (clos steps) i k = true → waits (clos steps) k j = true → waits (clos steps) i j = true := by
  intro i
  induction i using Nat.strongRecOn with
  | _ i ih =>
    intro k j s hs hw hk
    rw [waits_iff hs (ha i s hs)]
    rcases (waits_iff hs (ha i s hs)).1 hw with h | ⟨m, hm, h⟩
    · exact .inr ⟨k, h, hk⟩
    · have hlt := ha i s hs m hm
      have hi := (List.getElem?_eq_some_iff.1 hs).1
      exact .inr ⟨m, hm, ih m hlt k j _ (List.getElem?_eq_getElem (by omega)) h hk⟩
theorem late_iff {cl : List (List Nat)} {steps : List IStep} {i : Nat} : late cl steps i = true ↔ ∃ j s, j < i ∧ steps[j]? = some s ∧ s.isS = true ∧ waits cl i j = true := by
  unfold late
  simp only [List.any_eq_true, List.mem_range]
  constructor
  · rintro ⟨j, hj, h⟩
    cases hs : steps[j]? with
    | none => rw [hs] at h; cases h
    | some s => rw [hs] at h; simp only [Bool.and_eq_true] at h; exact ⟨j, s, hj, hs, h.1, h.2⟩
  · rintro ⟨j, s, hj, hs, h1, h2⟩
    exact ⟨j, hj, by rw [hs]; simp [h1, h2]⟩
structure OkD (steps : List IStep) : Prop where
  lt : ∀ (i : Nat) (s : IStep), steps[i]? = some s → ∀ j ∈ s.after, j < i
  sord : ∀ (i j : Nat) (s q : IStep), steps[i]? = some s → steps[j]? = some q → s.isS = true → q.isS = true → j < i → waits (clos steps) i j = true
  self : ∀ (i : Nat) (s : IStep), steps[i]? = some s → s.isS = false → ∀ d, s.dst = some d → d ∉ s.reads
  dst : ∀ (i j : Nat) (s q : IStep) (d : Nat), steps[i]? = some s → steps[j]? = some q → i ≠ j → q.dst = some d → (s.isS = false ∨ q.isS = false) → s.dst ≠ some d
  rd : ∀ (i j : Nat) (s q : IStep) (d : Nat), steps[i]? = some s → steps[j]? = some q → i ≠ j → q.dst = some d → d ∈ s.reads → if q.isS = true then s.isS = true ∨ waits (clos steps) j i = true ∨ waits (clos steps) i j = true else waits (clos steps) i j = true
  lat : ∀ (i j : Nat) (s q : IStep), steps[i]? = some s → s.isS = false → late (clos steps) steps i = true → steps[j]? = some q → q.isS = true → j < i → waits (clos steps) i j = true
theorem okD {steps : List IStep} (h : okDraw steps = true) : OkD steps := by
  unfold okDraw at h
  simp only [List.all_eq_true, List.mem_range] at h
  have get : ∀ i s, steps[i]? = some s → i < steps.length := fun i s hs => (List.getElem?_eq_some_iff.1 hs).1
  have at_ : ∀ i s, steps[i]? = some s → _ := fun i s hs => by
    have := h i (get i s hs)
    rw [hs] at this
    simp only [Bool.and_eq_true, List.all_eq_true, decide_eq_true_eq, List.mem_range] at this
    exact this
  refine ⟨fun i s hs => (at_ i s hs).1.1, fun i j s q hs hq h1 h2 hlt => ?_, fun i s hs h1 d hd => ?_, fun i j s q d hs hq hne hd hS => ?_, fun i j s q d hs hq hne hd hr => ?_, fun i j s q hs h1 hl hq h2 hlt => ?_⟩
  · have := (at_ i s hs).1.2
    rw [if_pos h1] at this
    simp only [List.all_eq_true, List.mem_range] at this
    have := this j hlt
    rw [hq] at this
    simpa [h2] using this
  · have := (at_ i s hs).1.2
    rw [if_neg (by simp [h1]), hd] at this
    simp only [Bool.and_eq_true] at this
    simpa using this.1
  · have := (at_ i s hs).2 j (get j q hq)
    rw [hq] at this
    simp only [hd, Bool.or_eq_true, Bool.and_eq_true, beq_iff_eq] at this
    rcases this with h' | ⟨h', _⟩
    · exact absurd h' hne
    · rw [if_neg (by rcases hS with h | h <;> simp [h])] at h'
      simpa using h'
  · have := (at_ i s hs).2 j (get j q hq)
    rw [hq] at this
    simp only [hd, Bool.or_eq_true, Bool.and_eq_true, beq_iff_eq] at this
    rcases this with h' | ⟨_, h'⟩
    · exact absurd h' hne
    · rcases h' with h' | h'
      · simp at h'; exact absurd hr h'
      · cases hqs : q.isS <;> simp [hqs, or_assoc] at h' ⊢ <;> exact h'
  · have := (at_ i s hs).1.2
    rw [if_neg (by simp [h1])] at this
    simp only [Bool.and_eq_true, Bool.or_eq_true, Bool.not_eq_true', hl, Bool.true_eq_false, false_or, List.all_eq_true, List.mem_range] at this
    have := this.2 j hlt
    rw [hq] at this
    simpa [h2] using this
theorem isA_of {s : IStep} (h : s.isA = true) : ∃ sz z, s.op = .alloc sz z ∧ s.guard = none := by
  unfold IStep.isA at h
  simp only [Bool.and_eq_true, Option.isNone_iff_eq_none] at h
  obtain ⟨h1, h2⟩ := h
  cases ho : s.op <;> simp [ho, IOp.isAlloc] at h1
  exact ⟨_, _, rfl, h2⟩
theorem drawA_other : ∀ (l : List IStep) (n : Nat) (e : Env) (t : Nat), (∀ s ∈ l, s.isA = true → s.dst ≠ some t) → (drawA n l e).get t = e.get t
  | [], n, e, t, h => rfl
  | s :: l, n, e, t, h => by
    simp only [drawA]
    split
    · rename_i ha
      rw [drawA_other l _ _ t fun s' hs' => h s' (by simp [hs']), get_putO, if_neg (h s (by simp) ha)]
    · exact drawA_other l _ _ t fun s' hs' => h s' (by simp [hs'])
theorem drawA_at : ∀ (l : List IStep) (n i0 k : Nat) (e : Env) (s : IStep) (sz : Nat) (z : FV), l[k]? = some s → s.op = .alloc sz z → s.guard = none →
    (∀ k' s', k < k' → l[k']? = some s' → s'.isA = true → ∀ d, s.dst = some d → s'.dst ≠ some d) →
    ∃ p, (i0 + k, p) ∈ allocsAt i0 n l ∧ n ≤ p ∧ p < n + (drawEnts l).length ∧ (drawEnts l).getD (p - n) .dead = .own sz [z] ∧ ∀ d, s.dst = some d → (drawA n l e).get d = .ptr (.l p) sz 0 0
  | [], n, i0, k, e, s, sz, z, h, _, _, _ => by simp at h
  | x :: l, n, i0, 0, e, s, sz, z, h, ho, hg, hd => by
    simp only [List.getElem?_cons_zero, Option.some.injEq] at h
    subst h
    have ha : x.isA = true := by simp [IStep.isA, ho, hg, IOp.isAlloc]
    refine ⟨n, by simp [allocsAt, ha], Nat.le_refl _, by simp [drawEnts, ha], by simp [drawEnts, ha, ho], fun d hdd => ?_⟩
    simp only [drawA, ha, if_true, ho]
    rw [drawA_other l _ _ d fun s' hs' ha' => ?_, get_putO, if_pos hdd]
    obtain ⟨k', hk'⟩ := List.getElem?_of_mem hs'
    exact hd (k' + 1) s' (by omega) (by simpa using hk') ha' d hdd
  | x :: l, n, i0, k + 1, e, s, sz, z, h, ho, hg, hd => by
    simp only [List.getElem?_cons_succ] at h
    have hd' : ∀ k' s', k < k' → l[k']? = some s' → s'.isA = true → ∀ d, s.dst = some d → s'.dst ≠ some d := fun k' s' hk hs ha d hdd => hd (k' + 1) s' (by omega) (by simpa using hs) ha d hdd
    have hi : i0 + (k + 1) = i0 + 1 + k := by omega
    rw [hi]
    cases ha : x.isA with
    | true =>
      obtain ⟨p, h1, h2, h3, h4, h5⟩ := drawA_at l (n + 1) (i0 + 1) k (putO e x.dst (match x.op with | .alloc sz _ => .ptr (.l n) sz 0 0 | _ => .unk)) s sz z h ho hg hd'
      refine ⟨p, by simp only [allocsAt, ha, if_true]; exact List.mem_cons_of_mem _ h1, by omega, by simp only [drawEnts, ha, if_true, List.length_cons]; omega, ?_, fun d hdd => ?_⟩
      · simp only [drawEnts, ha, if_true]
        rw [show p - n = (p - (n + 1)) + 1 by omega, List.getD_cons_succ]; exact h4
      · simp only [drawA, ha, if_true]; exact h5 d hdd
    | false =>
      obtain ⟨p, h1, h2, h3, h4, h5⟩ := drawA_at l n (i0 + 1) k e s sz z h ho hg hd'
      exact ⟨p, by simpa [allocsAt, ha] using h1, h2, by simpa [drawEnts, ha] using h3, by simpa [drawEnts, ha] using h4, fun d hdd => by simpa [drawA, ha] using h5 d hdd⟩
theorem allocs_mem : ∀ (l : List IStep) (i0 n i p : Nat), (i, p) ∈ allocsAt i0 n l → n ≤ p ∧ p < n + (drawEnts l).length ∧ i0 ≤ i ∧ ∃ s, l[i - i0]? = some s ∧ s.isA = true
  | [], i0, n, i, p, h => by simp [allocsAt] at h
  | x :: l, i0, n, i, p, h => by
    cases ha : x.isA with
    | true =>
      simp only [allocsAt, ha, if_true, List.mem_cons, Prod.mk.injEq] at h
      simp only [drawEnts, ha, if_true, List.length_cons]
      rcases h with ⟨rfl, rfl⟩ | h
      · exact ⟨Nat.le_refl _, by omega, Nat.le_refl _, x, by simp, ha⟩
      · obtain ⟨h1, h2, h3, s, h4, h5⟩ := allocs_mem l _ _ _ _ h
        exact ⟨by omega, by omega, by omega, s, by rw [show i - i0 = (i - (i0 + 1)) + 1 by omega]; simpa using h4, h5⟩
    | false =>
      simp only [allocsAt, ha, Bool.false_eq_true, if_false] at h
      simp only [drawEnts, ha, Bool.false_eq_true, if_false]
      obtain ⟨h1, h2, h3, s, h4, h5⟩ := allocs_mem l _ _ _ _ h
      exact ⟨h1, h2, by omega, s, by rw [show i - i0 = (i - (i0 + 1)) + 1 by omega]; simpa using h4, h5⟩
theorem allocs_inj : ∀ (l : List IStep) (i0 n i i' p p' : Nat), (i, p) ∈ allocsAt i0 n l → (i', p') ∈ allocsAt i0 n l → (i = i' ↔ p = p')
  | [], i0, n, i, i', p, p', h, _ => by simp [allocsAt] at h
  | x :: l, i0, n, i, i', p, p', h, k => by
    cases ha : x.isA with
    | true =>
      simp only [allocsAt, ha, if_true, List.mem_cons, Prod.mk.injEq] at h k
      rcases h with ⟨rfl, rfl⟩ | h
      · rcases k with ⟨rfl, rfl⟩ | k
        · simp
        · have := allocs_mem l _ _ _ _ k
          constructor <;> intro h <;> omega
      · rcases k with ⟨rfl, rfl⟩ | k
        · have := allocs_mem l _ _ _ _ h
          constructor <;> intro h <;> omega
        · exact allocs_inj l _ _ _ _ _ _ h k
    | false =>
      simp only [allocsAt, ha, Bool.false_eq_true, if_false] at h k
      exact allocs_inj l _ _ _ _ _ _ h k
def QVal (call : Disp) (B L : List Ent) (cl : List (List Nat)) (al : List (Nat × Nat)) (all : List IStep) (e0 : Env) (E : Env) (i : Nat) (s : IStep) (v : SV) : Prop :=
  evQ2 call (mayTurn cl all e0 i) s.op (opd E) B L = some v ∧ okIds cl al i v = true ∧ ∀ d, s.dst = some d → E.get d = v
def QSpec (call : Disp) (B L : List Ent) (cl : List (List Nat)) (al : List (Nat × Nat)) (all : List IStep) (e0 : Env) (E : Env) (i : Nat) (s : IStep) : Prop :=
  match s.guard with
  | none => ∃ v, QVal call B L cl al all e0 E i s v
  | some (t, want) => ∃ b, E.get t = .fv (.bool b) ∧ ((b = want ∧ ∃ v, QVal call B L cl al all e0 E i s v) ∨ (b ≠ want ∧ ∀ d, s.dst = some d → E.get d = .unk))
section
variable {call : Disp} {B L : List Ent} {cl : List (List Nat)} {al : List (Nat × Nat)} {all : List IStep} {e0 : Env}
theorem chk_some {b : Bool} {v u : SV} (h : chk b v = some u) : b = true ∧ u = v := by
  unfold chk at h
  split at h
  · rename_i hb; injection h with h; exact ⟨hb, h.symm⟩
  · cases h
def IStep.isQ (s : IStep) : Bool := !(s.isA || s.isS)
def isE (cl : List (List Nat)) (all : List IStep) (i : Nat) (s : IStep) : Bool := !(s.isA || s.isS || late cl all i)
theorem drawQ_cons {i : Nat} {s : IStep} {r : List IStep} {e E : Env} (h : drawQ call B L cl al all e0 i (s :: r) e = some E) :
    (isE cl all i s = false ∧ drawQ call B L cl al all e0 (i + 1) r e = some E) ∨
    (isE cl all i s = true ∧ ∃ v, drawQ call B L cl al all e0 (i + 1) r (putO e s.dst v) = some E ∧ match s.guard with
      | none => evQ2 call (mayTurn cl all e0 i) s.op (opd e) B L = some v ∧ okIds cl al i v = true
      | some (t, want) => ∃ b, e.get t = .fv (.bool b) ∧ ((b = want ∧ evQ2 call (mayTurn cl all e0 i) s.op (opd e) B L = some v ∧ okIds cl al i v = true) ∨ (b ≠ want ∧ v = .unk))) := by
  simp only [drawQ] at h
  split at h
  · rename_i hc; exact .inl ⟨by simp [isE, hc], h⟩
  · rename_i hc
    refine .inr ⟨by simp [isE, hc], ?_⟩
    split at h
    · rename_i hg
      obtain ⟨v, hv, h'⟩ := Option.bind_eq_some_iff.1 h
      obtain ⟨u, hu, h2⟩ := Option.bind_eq_some_iff.1 h'
      obtain ⟨h1, e⟩ := chk_some hu
      rw [e] at h2
      exact ⟨v, h2, by rw [hg]; exact ⟨hv, h1⟩⟩
    · rename_i t want hg
      split at h
      · rename_i b hb
        split at h
        · rename_i hbw
          obtain ⟨v, hv, h'⟩ := Option.bind_eq_some_iff.1 h
          obtain ⟨u, hu, h2⟩ := Option.bind_eq_some_iff.1 h'
          obtain ⟨h1, e⟩ := chk_some hu
          rw [e] at h2
          exact ⟨v, h2, by rw [hg]; exact ⟨b, hb, .inl ⟨hbw, hv, h1⟩⟩⟩
        · rename_i hbw
          exact ⟨.unk, h, by rw [hg]; exact ⟨b, hb, .inr ⟨hbw, rfl⟩⟩⟩
      · cases h
theorem drawQ_other : ∀ (l : List IStep) (i : Nat) (e E : Env) (t : Nat), drawQ call B L cl al all e0 i l e = some E → (∀ (k : Nat) (s : IStep), l[k]? = some s → isE cl all (i + k) s = true → s.dst ≠ some t) → E.get t = e.get t
  | [], i, e, E, t, h, _ => by simp only [drawQ, Option.some.injEq] at h; rw [h]
  | s :: l, i, e, E, t, h, hn => by
    rcases drawQ_cons h with ⟨_, h⟩ | ⟨hq, v, h, _⟩
    · exact drawQ_other l _ _ _ t h fun k s' hs' hq' => hn (k + 1) s' (by simpa using hs') (by rw [show i + (k + 1) = i + 1 + k by omega]; exact hq')
    · rw [drawQ_other l _ _ _ t h fun k s' hs' hq' => hn (k + 1) s' (by simpa using hs') (by rw [show i + (k + 1) = i + 1 + k by omega]; exact hq'), get_putO, if_neg (hn 0 s (by simp) hq)]
theorem drawQ_spec : ∀ (l : List IStep) (i0 : Nat) (e E : Env), drawQ call B L cl al all e0 i0 l e = some E →
    (∀ (a b : Nat) (s q : IStep) (d : Nat), l[a]? = some s → l[b]? = some q → a ≤ b → isE cl all (i0 + a) s = true → isE cl all (i0 + b) q = true → q.dst = some d → d ∉ s.reads) →
    (∀ (a b : Nat) (s q : IStep) (d : Nat), l[a]? = some s → l[b]? = some q → a < b → isE cl all (i0 + a) s = true → isE cl all (i0 + b) q = true → q.dst = some d → s.dst ≠ some d) →
    ∀ k s, l[k]? = some s → isE cl all (i0 + k) s = true → QSpec call B L cl al all e0 E (i0 + k) s
  | [], i0, e, E, h, _, _, k, s, hs, _ => by simp at hs
  | x :: l, i0, e, E, h, hR, hD, k + 1, s, hs, hq => by
    have hR' : ∀ (a b : Nat) (s q : IStep) (d : Nat), l[a]? = some s → l[b]? = some q → a ≤ b → isE cl all (i0 + 1 + a) s = true → isE cl all (i0 + 1 + b) q = true → q.dst = some d → d ∉ s.reads := fun a b s q d h1 h2 h3 h4 h5 => hR (a + 1) (b + 1) s q d (by simpa using h1) (by simpa using h2) (by omega) (by rw [show i0 + (a + 1) = i0 + 1 + a by omega]; exact h4) (by rw [show i0 + (b + 1) = i0 + 1 + b by omega]; exact h5)
    have hD' : ∀ (a b : Nat) (s q : IStep) (d : Nat), l[a]? = some s → l[b]? = some q → a < b → isE cl all (i0 + 1 + a) s = true → isE cl all (i0 + 1 + b) q = true → q.dst = some d → s.dst ≠ some d := fun a b s q d h1 h2 h3 h4 h5 => hD (a + 1) (b + 1) s q d (by simpa using h1) (by simpa using h2) (by omega) (by rw [show i0 + (a + 1) = i0 + 1 + a by omega]; exact h4) (by rw [show i0 + (b + 1) = i0 + 1 + b by omega]; exact h5)
    rw [show i0 + (k + 1) = i0 + 1 + k by omega] at hq ⊢
    rcases drawQ_cons h with ⟨_, h⟩ | ⟨_, v, h, _⟩
    · exact drawQ_spec l _ _ _ h hR' hD' k s (by simpa using hs) hq
    · exact drawQ_spec l _ _ _ h hR' hD' k s (by simpa using hs) hq
  | x :: l, i0, e, E, h, hR, hD, 0, s, hs, hq => by
    simp only [List.getElem?_cons_zero, Option.some.injEq] at hs
    subst hs
    rw [Nat.add_zero] at hq ⊢
    rcases drawQ_cons h with ⟨hf, _⟩ | ⟨_, v, h, hm⟩
    · rw [hq] at hf; cases hf
    · have hrd : ∀ t ∈ x.reads, E.get t = e.get t := by
        intro t ht
        rw [drawQ_other l _ _ _ t h, get_putO, if_neg]
        · intro hd
          exact hR 0 0 x x t (by simp) (by simp) (by omega) hq hq hd ht
        · intro k' s' hk' hq' hd
          exact hR 0 (k' + 1) x s' t (by simp) (by simpa using hk') (by omega) hq (by rw [show i0 + (k' + 1) = i0 + 1 + k' by omega]; exact hq') hd ht
      have hev : ∀ st, evQ2 call st x.op (opd E) B L = evQ2 call st x.op (opd e) B L := by
        intro st
        have hsl : ∀ t ∈ x.op.slots, E.get t = e.get t := fun t ht => hrd t (by unfold IStep.reads; exact List.mem_append_left _ ht)
        unfold evQ2
        rw [evQ_congr x.op hsl]
      have hdst : ∀ d, x.dst = some d → E.get d = v := by
        intro d hd
        rw [drawQ_other l _ _ _ d h, get_putO, if_pos hd]
        intro k' s' hk' hq' hd'
        exact hD 0 (k' + 1) x s' d (by simp) (by simpa using hk') (by omega) hq (by rw [show i0 + (k' + 1) = i0 + 1 + k' by omega]; exact hq') hd' hd
      unfold QSpec
      cases hg : x.guard with
      | none =>
        rw [hg] at hm
        exact ⟨v, by rw [hev]; exact hm.1, hm.2, hdst⟩
      | some tw =>
        obtain ⟨t, want⟩ := tw
        rw [hg] at hm
        obtain ⟨b, hb, hc⟩ := hm
        refine ⟨b, by rw [hrd t (by unfold IStep.reads; rw [hg]; simp)]; exact hb, ?_⟩
        rcases hc with ⟨h1, h2, h3⟩ | ⟨h1, h2⟩
        · exact .inl ⟨h1, v, by rw [hev]; exact h2, h3, hdst⟩
        · exact .inr ⟨h1, fun d hd => by rw [hdst d hd, h2]⟩
theorem ent_hideBy (h : Id → Bool) (B L : List Ent) (id : Id) : ent (hideBy h B L).1 (hideBy h B L).2 id = if h id then (ent B L id).hide else ent B L id := by
  cases id <;> simp only [ent, hideBy, List.getD_eq_getElem?_getD, List.getElem?_mapIdx]
  · rename_i j
    cases B[j]? with
    | none => simp [Ent.hide]
    | some e => simp
  · rename_i j
    cases L[j]? with
    | none => simp [Ent.hide]
    | some e => simp
theorem evQ2_use {hd : Id → Bool} {o : IOp} {g : Look} {v : SV} {B2 L2 : List Ent} (h : evQ2 call hd o g B L = some v) (h1 : Less (hideBy hd B L).1 (hideBy hd B L).2 B2 L2) : evQ call o g B2 L2 = some v :=
  evQ_mono h1 h
theorem hideBy_seen {hd : Id → Bool} {B L : List Ent} {id : Id} (h : ent (hideBy hd B L).1 (hideBy hd B L).2 id ≠ .dead) :
    ent (hideBy hd B L).1 (hideBy hd B L).2 id = ent B L id ∧ ent B L id ≠ .dead ∧ ((ent B L id).isOwn = false ∨ hd id = false) := by
  rw [ent_hideBy] at h ⊢
  split at h
  · rename_i hh
    rw [if_pos hh]
    cases hc : ent B L id <;> rw [hc] at h <;> simp [Ent.hide, Ent.isOwn] at h ⊢
  · rename_i hh
    rw [if_neg hh]
    exact ⟨rfl, h, .inr (by simpa using hh)⟩
theorem stepS_cases {j : Nat} {s : IStep} {st st' : St} (h : stepS call cl al all e0 j s st = some st') :
    (s.isS = false ∧ (s.isA = true ∨ late cl all j = false) ∧ st' = st) ∨
    (s.isS = true ∧ ∃ v B' L', evA call s.op (opd st.env) st.B (maskL (hidFor cl al j) st.L) = some (v, B', L') ∧ okIds cl al j v = true ∧ (turnsS all s = true ∨ quietAt s.op (opd st.env) = true) ∧ st' = ⟨putO st.env s.dst v, (frzNew all s st.L.length v B' L').1, restL (hidFor cl al j) st.L (frzNew all s st.L.length v B' L').2⟩) ∨
    (s.isS = false ∧ s.isA = false ∧ late cl all j = true ∧ ∃ v, st' = ⟨putO st.env s.dst v, st.B, st.L⟩ ∧ match s.guard with
      | none => evQ2 call (mayTurn cl all e0 j) s.op (opd st.env) st.B (maskL (hidFor cl al j) st.L) = some v ∧ okIds cl al j v = true
      | some (t, want) => ∃ b, st.env.get t = .fv (.bool b) ∧ ((b = want ∧ evQ2 call (mayTurn cl all e0 j) s.op (opd st.env) st.B (maskL (hidFor cl al j) st.L) = some v ∧ okIds cl al j v = true) ∨ (b ≠ want ∧ v = .unk))) := by
  unfold stepS at h
  split at h
  · rename_i hs
    obtain ⟨⟨v, B', L'⟩, h1, h'⟩ := Option.bind_eq_some_iff.1 h
    obtain ⟨u, hu, h3⟩ := Option.map_eq_some_iff.1 h'
    obtain ⟨h2, e⟩ := chk_some hu
    rw [e] at h3
    simp only [Bool.and_eq_true, Bool.or_eq_true] at h2
    exact .inr (.inl ⟨hs, v, B', L', h1, h2.1, h2.2, h3.symm⟩)
  · rename_i hs
    split at h
    · rename_i hc
      simp only [Bool.and_eq_true, Bool.not_eq_true'] at hc
      refine .inr (.inr ⟨by simpa using hs, hc.1, hc.2, ?_⟩)
      split at h
      · rename_i hg
        obtain ⟨v, h1, h'⟩ := Option.bind_eq_some_iff.1 h
        obtain ⟨u, hu, h3⟩ := Option.map_eq_some_iff.1 h'
        obtain ⟨h2, e⟩ := chk_some hu
        rw [e] at h3
        exact ⟨v, h3.symm, by rw [hg]; exact ⟨h1, h2⟩⟩
      · rename_i t want hg
        split at h
        · rename_i b hb
          split at h
          · rename_i hbw
            obtain ⟨v, h1, h'⟩ := Option.bind_eq_some_iff.1 h
            obtain ⟨u, hu, h3⟩ := Option.map_eq_some_iff.1 h'
            obtain ⟨h2, e⟩ := chk_some hu
            rw [e] at h3
            exact ⟨v, h3.symm, by rw [hg]; exact ⟨b, hb, .inl ⟨hbw, h1, h2⟩⟩⟩
          · rename_i hbw
            injection h with h
            exact ⟨.unk, h.symm, by rw [hg]; exact ⟨b, hb, .inr ⟨hbw, rfl⟩⟩⟩
        · cases h
    · rename_i hc
      injection h with h
      refine .inl ⟨by simpa using hs, ?_, h.symm⟩
      cases hA : s.isA with
      | true => exact .inl rfl
      | false => rw [hA] at hc; exact .inr (by simpa using hc)
theorem drawS_append : ∀ (l1 l2 : List IStep) (k : Nat) (st : St), drawS call cl al all e0 k (l1 ++ l2) st = (drawS call cl al all e0 k l1 st).bind (drawS call cl al all e0 (k + l1.length) l2)
  | [], l2, k, st => by simp [drawS]
  | s :: l1, l2, k, st => by
    simp only [List.cons_append, drawS, List.length_cons]
    cases stepS call cl al all e0 k s st with
    | none => rfl
    | some st1 =>
      simp only [Option.bind_some]
      rw [drawS_append l1 l2 (k + 1) st1, show k + 1 + l1.length = k + (l1.length + 1) by omega]
def pre (call : Disp) (cl : List (List Nat)) (al : List (Nat × Nat)) (steps : List IStep) (e0 : Env) (c : Nat) (st : St) : Option St := drawS call cl al steps e0 0 (steps.take c) st
theorem pre_zero (steps : List IStep) (st : St) : pre call cl al steps e0 0 st = some st := by simp [pre, drawS]
theorem pre_all (steps : List IStep) (st : St) : pre call cl al steps e0 steps.length st = drawS call cl al steps e0 0 steps st := by simp [pre]
theorem pre_succ {steps : List IStep} {c : Nat} {s : IStep} (hs : steps[c]? = some s) (st : St) : pre call cl al steps e0 (c + 1) st = (pre call cl al steps e0 c st).bind (stepS call cl al steps e0 c s) := by
  obtain ⟨hlt, e⟩ := List.getElem?_eq_some_iff.1 hs
  unfold pre
  rw [List.take_add_one, hs, drawS_append]
  have : (steps.take c).length = c := by simp; omega
  rw [this]
  simp only [Option.toList_some, Nat.zero_add]
  congr 1
  funext st'
  simp only [drawS]
  cases stepS call cl al steps e0 c s st' <;> rfl
theorem pre_some {steps : List IStep} {st0 st' : St} (h : drawS call cl al steps e0 0 steps st0 = some st') (c : Nat) : ∃ st, pre call cl al steps e0 c st0 = some st := by
  rw [← List.take_append_drop c steps, drawS_append] at h
  obtain ⟨st, h1, _⟩ := Option.bind_eq_some_iff.1 h
  refine ⟨st, ?_⟩
  unfold pre
  rw [List.take_append_drop] at h1; exact h1
def writes (cl : List (List Nat)) (steps : List IStep) (i : Nat) (s : IStep) : Bool := s.isS || (!s.isA && late cl steps i)
structure PF (cl : List (List Nat)) (al : List (Nat × Nat)) (steps : List IStep) (e0 : Env) (st0 st : St) (c0 c : Nat) : Prop where
  lenB : st.B.length = st0.B.length
  lenL : st0.L.length ≤ st.L.length
  env : ∀ t, (∀ i s, c0 ≤ i → i < c → steps[i]? = some s → writes cl steps i s = true → s.dst ≠ some t) → st.env.get t = st0.env.get t
  frz : ∀ id, id.valid st0.B st0.L → (ent st0.B st0.L id).isOwn = false → ent st.B st.L id = ent st0.B st0.L id
  quiet : ∀ id, id.valid st0.B st0.L → (∀ i s, c0 ≤ i → i < c → steps[i]? = some s → s.isS = true → ∃ ids, tgt steps e0 s = some ids ∧ id ∉ ids) → ent st.B st.L id = ent st0.B st0.L id
  hid : ∀ p, p < st0.L.length → (∀ i s, c0 ≤ i → i < c → steps[i]? = some s → s.isS = true → hidFor cl al i p = true) → st.L.getD p .dead = st0.L.getD p .dead
  noS : (∀ i s, c0 ≤ i → i < c → steps[i]? = some s → s.isS = false) → st.B = st0.B ∧ st.L = st0.L
theorem unwritten_dst {steps : List IStep} {t i : Nat} {s : IStep} (h : unwritten steps t = true) (hs : steps[i]? = some s) : s.dst ≠ some t := by
  unfold unwritten at h
  rw [List.all_eq_true] at h
  simpa using h s (List.mem_of_getElem? hs)
theorem pf {steps : List IStep} {st00 st0 : St} (he : ∀ t, unwritten steps t = true → st0.env.get t = e0.get t) (c0 : Nat) (h0 : pre call cl al steps e0 c0 st00 = some st0) : ∀ (d : Nat) (st : St), c0 + d ≤ steps.length → pre call cl al steps e0 (c0 + d) st00 = some st → PF cl al steps e0 st0 st c0 (c0 + d)
  | 0, st, _, h => by
    rw [Nat.add_zero, h0] at h; injection h with h; subst h
    exact ⟨rfl, Nat.le_refl _, fun _ _ => rfl, fun _ _ _ => rfl, fun _ _ _ => rfl, fun _ _ _ => rfl, fun _ => ⟨rfl, rfl⟩⟩
  | d + 1, st, hc, h => by
    have hs := List.getElem?_eq_getElem (l := steps) (i := c0 + d) (by omega)
    rw [← Nat.add_assoc, pre_succ hs] at h
    rw [← Nat.add_assoc]
    obtain ⟨st1, h1, h2⟩ := Option.bind_eq_some_iff.1 h
    have ih := pf he c0 h0 d st1 (by omega) h1
    rcases stepS_cases h2 with ⟨hf, hl, rfl⟩ | ⟨ht, v, B', L', h3, h4, h5, rfl⟩ | ⟨hf, hA, hl, v, rfl, _⟩
    · exact ⟨ih.lenB, ih.lenL, fun t ht => ih.env t fun i s hi hi' => ht i s hi (by omega), ih.frz, fun id hv hq => ih.quiet id hv fun i s hi hi' => hq i s hi (by omega), fun p hp hh => ih.hid p hp fun i s hi hi' => hh i s hi (by omega), fun hn => ih.noS fun i s hi hi' => hn i s hi (by omega)⟩
    · obtain ⟨e1, e2, e3⟩ := evA_ents h3
      rw [maskL_length] at e2
      obtain ⟨_, f1, f2⟩ := frzNew_weak steps steps[c0 + d] st1.L.length v B' L'
      have e2' : st1.L.length ≤ (frzNew steps steps[c0 + d] st1.L.length v B' L').2.length := by rw [f2]; exact e2
      have step : ∀ id, id.valid st1.B st1.L → (ent st1.B st1.L id).isOwn = false ∨ (∃ ids, tgt steps e0 steps[c0 + d] = some ids ∧ id ∉ ids) → ent (frzNew steps steps[c0 + d] st1.L.length v B' L').1 (restL (hidFor cl al (c0 + d)) st1.L (frzNew steps steps[c0 + d] st1.L.length v B' L').2) id = ent st1.B st1.L id := by
        intro id hv ho
        rw [ent_restL (L := st1.L) (B := st1.B) _ e2']
        split
        · rfl
        · rename_i hh
          have em : ent st1.B (maskL (hidFor cl al (c0 + d)) st1.L) id = ent st1.B st1.L id := by rw [ent_maskL, if_neg hh]
          rw [frzNew_old (fun p e => by subst e; exact hv)]
          have hv' : id.valid st1.B (maskL (hidFor cl al (c0 + d)) st1.L) := by cases id <;> simp only [Id.valid, maskL_length] at hv ⊢ <;> exact hv
          rcases ho with ho | ⟨ids, ht1, ht2⟩
          · rw [e3 id hv' (by rw [em]; exact .inl ho), em]
          · unfold tgt at ht1
            have heq : ∀ t, unwritten steps t = true → st1.env.get t = e0.get t := fun t hu => by
              rw [ih.env t fun i s _ _ hs _ => unwritten_dst hu hs]; exact he t hu
            split at ht1
            · split at ht1
              · rename_i n t x ho
                split at ht1
                · rename_i hu
                  injection ht1 with ht1
                  rw [evA_tgt h3 hv' (by rw [ho]; simp only [tgtOf, opd]; rw [heq t hu, ht1]; exact ht2), em]
                · cases ht1
              · rename_i n b t x ho
                split at ht1
                · rename_i hu
                  injection ht1 with ht1
                  rw [evA_tgt h3 hv' (by rw [ho]; simp only [tgtOf, opd]; rw [heq t hu, ht1]; exact ht2), em]
                · cases ht1
              · cases ht1
            · rename_i htn
              rw [evA_quiet h3 (by rcases h5 with h | h
                                   · exact absurd h htn
                                   · exact h) id hv', em]
      have hv1 : ∀ id : Id, id.valid st0.B st0.L → id.valid st1.B st1.L := fun id hv => hv.ext ih.lenB ih.lenL
      refine ⟨f1.trans (e1.trans ih.lenB), by rw [restL_length]; exact Nat.le_trans ih.lenL e2', fun t hn => ?_, fun id hv ho => ?_, fun id hv hq => ?_, fun p hp hh => ?_, fun hn => ?_⟩
      · simp only
        rw [get_putO, if_neg (hn _ _ (by omega) (by omega) hs (by simp [writes, ht]))]
        exact ih.env t fun i s hi hi' => hn i s hi (by omega)
      · have := ih.frz id hv ho
        rw [← this]
        exact step id (hv1 id hv) (.inl (by rw [this]; exact ho))
      · rw [← ih.quiet id hv fun i s hi hi' => hq i s hi (by omega)]
        exact step id (hv1 id hv) (.inr (hq _ _ (by omega) (by omega) hs ht))
      · simp only
        rw [getD_restL, if_pos ⟨by have := ih.lenL; omega, hh _ _ (by omega) (by omega) hs ht⟩]
        exact ih.hid p hp fun i s hi hi' => hh i s hi (by omega)
      · have := hn _ _ (by omega) (by omega) hs
        rw [ht] at this; cases this
    · refine ⟨ih.lenB, ih.lenL, fun t hn => ?_, ih.frz, fun id hv hq => ih.quiet id hv fun i s hi hi' => hq i s hi (by omega), fun p hp hh => ih.hid p hp fun i s hi hi' => hh i s hi (by omega), fun hn => ih.noS fun i s hi hi' => hn i s hi (by omega)⟩
      simp only
      rw [get_putO, if_neg (hn _ _ (by omega) (by omega) hs (by simp [writes, hA, hl]))]
      exact ih.env t fun i s hi hi' => hn i s hi (by omega)
theorem pf_le {steps : List IStep} {st00 st0 st : St} {c0 c : Nat} (he : ∀ t, unwritten steps t = true → st0.env.get t = e0.get t) (h0 : pre call cl al steps e0 c0 st00 = some st0) (hle : c0 ≤ c) (hc : c ≤ steps.length) (h : pre call cl al steps e0 c st00 = some st) : PF cl al steps e0 st0 st c0 c := by
  have := pf he c0 h0 (c - c0) st (by omega) (by rw [show c0 + (c - c0) = c by omega]; exact h)
  rw [show c0 + (c - c0) = c by omega] at this
  exact this
end
end Go.Ab
namespace Go.Ab
section
variable {P : Program} {w w' : World} {O : Nat → Prop} {ρ : Rho} {B L : List Ent}
theorem trSteps_get {nt : Nat} {ops : List Oper} : ∀ (l : List Oper) (ss : List IStep), trSteps P nt ops l = some ss → l.length = ss.length ∧ ∀ (i : Nat) (o : Oper), l[i]? = some o → ∃ s, ss[i]? = some s ∧ trStep P nt ops o = some s
  | [], ss, h => by simp only [trSteps, Option.some.injEq] at h; subst h; simp
  | o :: l, ss, h => by
    simp only [trSteps, Option.bind_eq_some_iff, Option.map_eq_some_iff] at h
    obtain ⟨s, h1, ss', h2, rfl⟩ := h
    obtain ⟨k1, k2⟩ := trSteps_get l ss' h2
    refine ⟨by simp [k1], fun i o' ho => ?_⟩
    cases i with
    | zero => simp at ho; subst ho; exact ⟨s, by simp, h1⟩
    | succ i => obtain ⟨s', h3, h4⟩ := k2 i o' (by simpa using ho); exact ⟨s', by simpa using h3, h4⟩
theorem trOp_alloc {nt : Nat} {o : Op} {sz : Nat} {z : FV} (h : trOp P nt o = some (.alloc sz z)) : ∃ e, o = .alloc e ∧ szOf P e = some sz ∧ zeroOf P e = some z := by
  cases o <;> simp only [trOp] at h
  case alloc e =>
    simp only [Option.bind_eq_some_iff, Option.map_eq_some_iff] at h
    obtain ⟨sz', h2, z', h3, e'⟩ := h
    injection e' with e1 e2; subst e1; subst e2
    exact ⟨e, rfl, h2, h3⟩
  case call c =>
    unfold trCall at h
    obtain ⟨callee, args, argTypes⟩ := c
    simp only at h
    split at h
    · split at h
      · split at h <;> first | (cases h; done) | (obtain ⟨x', hx, e⟩ := Option.map_eq_some_iff.1 h; cases e)
      · cases h
    · split at h
      · simp only [Option.bind_eq_some_iff] at h
        obtain ⟨e, _, e', _, sz, _, by', _, z, _, h⟩ := h
        split at h
        · simp only [Option.bind_eq_some_iff, Option.map_eq_some_iff] at h
          obtain ⟨_, _, _, _, e⟩ := h; cases e
        · cases h
      · cases h
    · obtain ⟨as, ha, e⟩ := Option.map_eq_some_iff.1 h; cases e
    · obtain ⟨as, ha, e⟩ := Option.map_eq_some_iff.1 h; cases e
    · simp only [Option.bind_eq_some_iff, Option.map_eq_some_iff] at h
      obtain ⟨f, hf, as', ha, e⟩ := h
      cases e
    · cases h
  case build t ps =>
    simp only [Option.bind_eq_some_iff] at h
    obtain ⟨fs, h1, z, h2, h⟩ := h
    split at h
    · obtain ⟨qs, h4, e⟩ := Option.map_eq_some_iff.1 h; cases e
    · cases h
  case convert a b x =>
    split at h
    · obtain ⟨x', hx, e⟩ := Option.map_eq_some_iff.1 h; cases e
    · cases h
  case fieldAddr t x i =>
    simp only [Option.bind_eq_some_iff] at h
    obtain ⟨fs, h1, f, h2, ag, h3, n, h4, x', hx, h⟩ := h
    split at h
    · injection h with h; cases h
    · cases h
  case index t x i =>
    split at h
    · simp only [Option.bind_eq_some_iff, Option.map_eq_some_iff] at h
      obtain ⟨x', hx, i', hi, e⟩ := h; cases e
    · cases h
  all_goals first
    | (cases h; done)
    | (obtain ⟨_, _, e⟩ := Option.map_eq_some_iff.1 h; cases e; done)
    | (simp only [Option.bind_eq_some_iff, Option.map_eq_some_iff] at h; obtain ⟨_, _, _, _, e⟩ := h; cases e; done)
    | (simp only [Option.bind_eq_some_iff, Option.map_eq_some_iff] at h; obtain ⟨_, _, _, _, _, _, e⟩ := h; cases e; done)
    | (simp only [Option.bind_eq_some_iff, Option.map_eq_some_iff] at h; obtain ⟨_, _, _, _, _, _, _, _, e⟩ := h; cases e; done)
    | (simp only [Option.bind_eq_some_iff, Option.map_eq_some_iff] at h; obtain ⟨_, _, _, _, _, _, _, _, _, _, e⟩ := h; cases e; done)
    | (simp only [Option.bind_eq_some_iff, Option.map_eq_some_iff] at h; obtain ⟨_, _, _, _, _, _, _, _, _, _, _, _, e⟩ := h; cases e; done)
theorem asg_mv {nt : Nat} {ops : List Oper} {o : Oper} {s : IStep} (h : trStep P nt ops o = some s) (ha : s.asg = true) : ∃ x, s.op = .mv x := by
  obtain ⟨t1, _, _, _, _, t6⟩ := trStep_parts h
  rw [t6] at ha
  split at ha
  · rename_i x ho
    rw [ho] at t1
    simp only [trOp, Option.map_eq_some_iff] at t1
    obtain ⟨y, _, e⟩ := t1
    exact ⟨y, e.symm⟩
  · cases ha
theorem isA_notS {nt : Nat} {ops : List Oper} {o : Oper} {s : IStep} (h : trStep P nt ops o = some s) (ha : s.isA = true) : s.isS = false := by
  obtain ⟨sz, z, h1, h2⟩ := isA_of ha
  cases hasg : s.asg with
  | false => simp [IStep.isS, h1, IOp.acts, hasg]
  | true =>
    obtain ⟨x, hx⟩ := asg_mv h hasg
    rw [hx] at h1; cases h1
theorem isS_notCall {nt : Nat} {ops : List Oper} {o : Oper} {s : IStep} (h : trStep P nt ops o = some s) (ha : s.isS = true) : s.guard = none ∧ ∀ f as, s.op ≠ .call f as := by
  unfold IStep.isS at ha
  simp only [Bool.and_eq_true, Bool.or_eq_true, Option.isNone_iff_eq_none] at ha
  refine ⟨ha.2, fun f as e => ?_⟩
  rcases ha.1 with h1 | h1
  · rw [e] at h1; simp [IOp.acts] at h1
  · obtain ⟨x, hx⟩ := asg_mv h h1
    rw [hx] at e; cases e
theorem evQ_wp {nt : Nat} {a : Act} {g : Look} {call : Disp} (good : Good P call) (o : Oper) {io : IOp} {s : SV} (hh : Heap w O ρ B L) (hg : Ops P nt w O ρ B L a.eval g o.op)
    (htr : trOp P nt o.op = some io) (h : evQ call io g B L = some s) {next : Act → World → Prop} {Q : Exit → Act → World → Prop}
    (hn : ∀ v w', Chg (fun _ => False) w w' → SvRel w' (Av O ρ B L) ρ B L v s → next (a.put o.dst v) w') : o.wp P a w next Q := by
  have other : (∀ f as, io ≠ .call f as) → o.wp P a w next Q := by
    intro hnc
    obtain ⟨v, w', h1, h2, h3⟩ := evQ_run o hh hg htr hnc h
    unfold Oper.wp
    rw [h1, Oper.upon_value]; exact hn v w' h2 h3
  cases io with
  | call f' as =>
    obtain ⟨dst, op, type, pos, after, guard⟩ := o
    obtain ⟨f, args, ts, rfl, hf, has⟩ := trOp_call htr
    exact evQ_call_wp good hh hg hf has h hn
  | _ => exact other (fun _ _ e => by cases e)
def hidD (al : List (Nat × Nat)) (D : Nat → Bool) (p : Nat) : Bool := al.any fun q => p == q.2 && !D q.1
theorem hidD_iff {al : List (Nat × Nat)} {D : Nat → Bool} {p : Nat} : hidD al D p = true ↔ ∃ k, (k, p) ∈ al ∧ D k = false := by
  simp only [hidD, List.any_eq_true, Bool.and_eq_true, beq_iff_eq, Bool.not_eq_true']
  constructor
  · rintro ⟨⟨k, q⟩, h1, rfl, h2⟩; exact ⟨k, h1, h2⟩
  · rintro ⟨k, h1, h2⟩; exact ⟨(k, p), h1, rfl, h2⟩
theorem hidFor_iff {cl : List (List Nat)} {al : List (Nat × Nat)} {j p : Nat} : hidFor cl al j p = true ↔ ∃ k, (k, p) ∈ al ∧ waits cl j k = false := by
  simp only [hidFor, List.any_eq_true, Bool.and_eq_true, beq_iff_eq, Bool.not_eq_true']
  constructor
  · rintro ⟨⟨k, q⟩, h1, rfl, h2⟩; exact ⟨k, h1, h2⟩
  · rintro ⟨k, h1, h2⟩; exact ⟨(k, p), h1, rfl, h2⟩
def add (D : Nat → Bool) (i k : Nat) : Bool := D k || k == i
theorem add_iff {D : Nat → Bool} {i k : Nat} : add D i k = true ↔ D k = true ∨ k = i := by simp [add]
structure Inv (nt : Nat) (w0 : World) (O : Nat → Prop) (ρ0 : Rho) (B0 : List Ent) (call : Disp) (al : List (Nat × Nat)) (steps : List IStep) (e0 : Env) (st0 : St) (D : Nat → Bool) (a : Act) (w : World) (c : Nat) (st : St) (ρ : Rho) : Prop where
  closed : ∀ (i : Nat) (s : IStep), steps[i]? = some s → D i = true → ∀ j ∈ s.after, D j = true
  le : c ≤ steps.length
  top : c = steps.length ∨ ∃ s, steps[c]? = some s ∧ s.isS = true
  sdone : ∀ (i : Nat) (s : IStep), steps[i]? = some s → s.isS = true → (D i = true ↔ i < c)
  at_ : pre call (clos steps) al steps e0 c st0 = some st
  sim : Sim nt w0 O ρ0 B0 ⟨[], st.B, maskL (hidD al D) st.L⟩ a w ρ
  env : ∀ t, (∀ (i : Nat) (s : IStep), steps[i]? = some s → s.isS = false → s.dst = some t → D i = true) →
    SvRel w (Av O ρ st.B (maskL (hidD al D) st.L)) ρ st.B (maskL (hidD al D) st.L) (a.tmps.getD t undef) (st.env.get t) ∧ ∀ p, .l p ∈ (st.env.get t).ids → hidD al D p = false
theorem Sim.noenv {nt : Nat} {w0 : World} {ρ0 : Rho} {B0 : List Ent} {e : Env} {a : Act} (h : Sim nt w0 O ρ0 B0 ⟨e, B, L⟩ a w ρ) : Sim nt w0 O ρ0 B0 ⟨[], B, L⟩ a w ρ :=
  ⟨h.heap, fun t => trivial, h.size, h.dfr, h.chg, h.rho, h.av, h.lenB, h.noO⟩
theorem get_keep_mem {ks : List Nat} {e : Env} {t : Nat} (h : t ∈ ks) : (e.keep ks).get t = e.get t := by
  unfold Env.keep
  induction ks with
  | nil => simp at h
  | cons k ks ih =>
    simp only [List.map_cons, Env.get]
    split
    · rename_i h'; subst h'; rfl
    · rename_i h'
      rcases List.mem_cons.1 h with h | h
      · exact absurd h.symm h'
      · exact ih h
theorem get_keep_not {ks : List Nat} {e : Env} {t : Nat} (h : t ∉ ks) : (e.keep ks).get t = .unk := by
  unfold Env.keep
  induction ks with
  | nil => rfl
  | cons k ks ih =>
    simp only [List.map_cons, Env.get]
    rw [if_neg (fun e => h (by simp [e]))]
    exact ih fun h' => h (List.mem_cons_of_mem _ h')
theorem maskL_ext {h h' : Nat → Bool} {L L' : List Ent} (hl : L.length = L'.length) (he : ∀ p, p < L.length → (if h p then Ent.dead else L.getD p .dead) = (if h' p then Ent.dead else L'.getD p .dead)) : maskL h L = maskL h' L' := by
  apply List.ext_getElem (by rw [maskL_length, maskL_length, hl])
  intro p h1 h2
  have := he p (by rw [maskL_length] at h1; exact h1)
  rw [← getD_maskL, ← getD_maskL] at this
  rw [List.getD_eq_getElem?_getD, List.getD_eq_getElem?_getD, List.getElem?_eq_getElem h1, List.getElem?_eq_getElem h2] at this
  exact this
theorem ext_getD {L L' : List Ent} (hl : L.length = L'.length) (he : ∀ p, L.getD p .dead = L'.getD p .dead) : L = L' := by
  apply List.ext_getElem hl
  intro p h1 h2
  have := he p
  rw [List.getD_eq_getElem?_getD, List.getD_eq_getElem?_getD, List.getElem?_eq_getElem h1, List.getElem?_eq_getElem h2] at this
  exact this
structure Region' (P : Program) (nt : Nat) (ops : Array Oper) (steps : List IStep) (call : Disp) (al : List (Nat × Nat)) (L0 : List Ent) (e0 : Env) (st0 st' : St) : Prop where
  tr : trSteps P nt ops.toList ops.toList = some steps
  ok : OkD steps
  hal : al = allocsAt 0 L0.length steps
  hL0 : st0.L = L0 ++ drawEnts steps
  qs : ∀ (i : Nat) (s : IStep), steps[i]? = some s → isE (clos steps) steps i s = true → QSpec call st0.B L0 (clos steps) al steps e0 st0.env i s
  as : ∀ (i : Nat) (s : IStep) (sz : Nat) (z : FV), steps[i]? = some s → s.op = .alloc sz z → s.guard = none → ∃ p, (i, p) ∈ al ∧ L0.length ≤ p ∧ p < st0.L.length ∧ st0.L.getD p .dead = .own sz [z] ∧ 0 < sz ∧ z.cells.length = sz ∧ ∀ d, s.dst = some d → st0.env.get d = .ptr (.l p) sz 0 0
  he : ∀ t, unwritten steps t = true → st0.env.get t = e0.get t
  run : drawS call (clos steps) al steps e0 0 steps st0 = some st'
section
variable {nt : Nat} {ops : Array Oper} {steps : List IStep} {call : Disp} {al : List (Nat × Nat)} {L0 : List Ent} {e0 : Env} {st0 st' st : St} {w0 : World} {ρ0 : Rho} {B0 : List Ent} {D : Nat → Bool} {a : Act} {c : Nat}
theorem Inv.waited (R : Region' P nt ops steps call al L0 e0 st0 st') (I : Inv nt w0 O ρ0 B0 call al steps e0 st0 D a w c st ρ) {i j : Nat} {s : IStep} (hs : steps[i]? = some s) (hk : ∀ k ∈ s.after, D k = true) (hw : waits (clos steps) i j = true) : D j = true :=
  waits_D (D := fun k => D k = true) R.ok.lt I.closed i j s hs hk hw
theorem Inv.pf (R : Region' P nt ops steps call al L0 e0 st0 st') (I : Inv nt w0 O ρ0 B0 call al steps e0 st0 D a w c st ρ) : PF (clos steps) al steps e0 st0 st 0 c := pf_le R.he (pre_zero _ _) (Nat.zero_le _) I.le I.at_
theorem Inv.s_lt (I : Inv nt w0 O ρ0 B0 call al steps e0 st0 D a w c st ρ) {k : Nat} {q : IStep} (hk : k < c) (hq : steps[k]? = some q) (hS : q.isS = true) : D k = true := (I.sdone k q hq hS).2 hk
theorem Inv.not_waited (R : Region' P nt ops steps call al L0 e0 st0 st') (I : Inv nt w0 O ρ0 B0 call al steps e0 st0 D a w c st ρ) {i k : Nat} {q : IStep} (hD : D i = false) (hk : k < c) (hq : steps[k]? = some q) (hS : q.isS = true) : waits (clos steps) k i = false := by
  cases hw : Ab.waits (clos steps) k i with
  | false => rfl
  | true =>
    have := I.waited R hq (I.closed k q hq (I.s_lt hk hq hS)) hw
    rw [hD] at this; cases this
theorem al_isA (R : Region' P nt ops steps call al L0 e0 st0 st') {k p : Nat} (h : (k, p) ∈ al) : L0.length ≤ p ∧ ∃ s, steps[k]? = some s ∧ s.isA = true := by
  rw [R.hal] at h
  obtain ⟨h1, _, _, s, h2, h3⟩ := allocs_mem steps _ _ _ _ h
  exact ⟨h1, s, by simpa using h2, h3⟩
theorem hid_new (R : Region' P nt ops steps call al L0 e0 st0 st') {D : Nat → Bool} {p : Nat} (hp : p < L0.length) : hidD al D p = false := by
  cases h : hidD al D p with
  | false => rfl
  | true =>
    obtain ⟨k, h1, _⟩ := hidD_iff.1 h
    have := (al_isA R h1).1
    omega
theorem hid_add (R : Region' P nt ops steps call al L0 e0 st0 st') {i : Nat} {s : IStep} (hs : steps[i]? = some s) (ha : s.isA = false) : hidD al (add D i) = hidD al D := by
  funext p
  rw [Bool.eq_iff_iff, hidD_iff, hidD_iff]
  refine exists_congr fun k => and_congr_right fun h1 => ?_
  obtain ⟨_, s', h2, h3⟩ := al_isA R h1
  have : k ≠ i := by
    rintro rfl
    rw [hs] at h2; injection h2 with h2; subst h2
    rw [ha] at h3; cases h3
  simp [add, this]
theorem hid_sub (R : Region' P nt ops steps call al L0 e0 st0 st') (I : Inv nt w0 O ρ0 B0 call al steps e0 st0 D a w c st ρ) {i p : Nat} {s : IStep} (hs : steps[i]? = some s) (hk : ∀ k ∈ s.after, D k = true) (h : hidD al D p = true) : hidFor (clos steps) al i p = true := by
  obtain ⟨k, h1, h2⟩ := hidD_iff.1 h
  refine hidFor_iff.2 ⟨k, h1, ?_⟩
  cases hw : Ab.waits (clos steps) i k with
  | false => rfl
  | true =>
    have := I.waited R hs hk hw
    rw [h2] at this; cases this
theorem Inv.claim (R : Region' P nt ops steps call al L0 e0 st0 st') (I : Inv nt w0 O ρ0 B0 call al steps e0 st0 D a w c st ρ) {i : Nat} {s : IStep} (hs : steps[i]? = some s) (hk : ∀ k ∈ s.after, D k = true) {t : Nat} (ht : t ∈ s.reads) :
    ∀ (k : Nat) (q : IStep), steps[k]? = some q → q.isS = false → q.dst = some t → D k = true := by
  intro k q hq hS hd
  by_cases hki : k = i
  · subst hki
    rw [hs] at hq; injection hq with hq; subst hq
    exact absurd ht (R.ok.self k s hs hS t hd)
  · have := R.ok.rd i k s q t hs hq (fun e => hki e.symm) hd ht
    rw [if_neg (by simp [hS])] at this
    exact I.waited R hs hk this
theorem isE_iff {cl : List (List Nat)} {i : Nat} {s : IStep} : isE cl steps i s = true ↔ s.isA = false ∧ s.isS = false ∧ late cl steps i = false := by
  simp only [isE, Bool.not_eq_true', Bool.or_eq_false_iff, and_assoc]
theorem Inv.same (R : Region' P nt ops steps call al L0 e0 st0 st') (I : Inv nt w0 O ρ0 B0 call al steps e0 st0 D a w c st ρ) {i : Nat} {s : IStep} (hs : steps[i]? = some s) (hE : isE (clos steps) steps i s = true) (hD : D i = false) {t : Nat} (ht : t ∈ s.reads) : st.env.get t = st0.env.get t := by
  obtain ⟨hA, hS, hL⟩ := isE_iff.1 hE
  refine (I.pf R).env t fun k q _ hk hq hw hd => ?_
  have hki : i ≠ k := by
    rintro rfl
    rw [hs] at hq; injection hq with hq; subst hq
    simp [writes, hS, hL] at hw
  have := R.ok.rd i k s q t hs hq hki hd ht
  split at this
  · rename_i hqS
    rcases this with h | h | h
    · rw [hS] at h; cases h
    · rw [I.not_waited R hD hk hq hqS] at h; cases h
    · have := late_iff.2 ⟨k, q, waits_lt R.ok.lt i k s hs h, hq, hqS, h⟩
      rw [hL] at this; cases this
  · rename_i hqS
    have hqf : q.isS = false := by simpa using hqS
    simp only [writes, hqf, Bool.false_or, Bool.and_eq_true] at hw
    obtain ⟨j, r, hj, hr, hrS, hwt⟩ := late_iff.1 hw.2
    have hij := waits_trans R.ok.lt i k j s hs this hwt
    have := late_iff.2 ⟨j, r, waits_lt R.ok.lt i j s hs hij, hr, hrS, hij⟩
    rw [hL] at this; cases this
theorem Inv.same_dst (R : Region' P nt ops steps call al L0 e0 st0 st') (I : Inv nt w0 O ρ0 B0 call al steps e0 st0 D a w c st ρ) {i : Nat} {s : IStep} (hs : steps[i]? = some s) (hS : s.isS = false) (hW : writes (clos steps) steps i s = false) {d : Nat} (hd : s.dst = some d) : st.env.get d = st0.env.get d := by
  refine (I.pf R).env d fun k q _ hk hq hw hqd => ?_
  have hki : k ≠ i := by
    rintro rfl
    rw [hs] at hq; injection hq with hq; subst hq
    rw [hW] at hw; cases hw
  exact R.ok.dst k i q s d hq hs hki hd (.inr hS) hqd
theorem Inv.late_lt (R : Region' P nt ops steps call al L0 e0 st0 st') (I : Inv nt w0 O ρ0 B0 call al steps e0 st0 D a w c st ρ) {i : Nat} {s : IStep} (hs : steps[i]? = some s) (hS : s.isS = false) (hL : late (clos steps) steps i = true) (hk : ∀ k ∈ s.after, D k = true) : i < c := by
  have hlt := (List.getElem?_eq_some_iff.1 hs).1
  rcases I.top with h | ⟨q, hq, hqS⟩
  · omega
  · apply Classical.byContradiction; intro hn
    have hne : c ≠ i := by
      rintro rfl
      rw [hs] at hq; injection hq with hq; subst hq
      rw [hS] at hqS; cases hqS
    have := (I.sdone c q hq hqS).1 (I.waited R hs hk (R.ok.lat i c s q hs hS hL hq hqS (by omega)))
    omega
theorem pre_he (R : Region' P nt ops steps call al L0 e0 st0 st') {i : Nat} {stI : St} (hi : i ≤ steps.length) (hI : pre call (clos steps) al steps e0 i st0 = some stI) : ∀ t, unwritten steps t = true → stI.env.get t = e0.get t := fun t hu => by
  rw [(pf_le R.he (pre_zero _ _) (Nat.zero_le i) hi hI).env t fun k s _ _ hs _ => unwritten_dst hu hs]; exact R.he t hu
theorem Inv.same_late (R : Region' P nt ops steps call al L0 e0 st0 st') (I : Inv nt w0 O ρ0 B0 call al steps e0 st0 D a w c st ρ) {i : Nat} {s : IStep} {stI : St} (hs : steps[i]? = some s) (hS : s.isS = false) (hD : D i = false) (hI : pre call (clos steps) al steps e0 i st0 = some stI) (hic : i < c) {t : Nat} (ht : t ∈ s.reads) : st.env.get t = stI.env.get t := by
  refine (pf_le (pre_he R (by have := I.le; omega) hI) hI (Nat.le_of_lt hic) I.le I.at_).env t fun k q hik hk hq hw hd => ?_
  by_cases hki : i = k
  · subst hki
    rw [hs] at hq; injection hq with hq; subst hq
    exact R.ok.self i s hs hS t hd ht
  · have := R.ok.rd i k s q t hs hq hki hd ht
    split at this
    · rename_i hqS
      rcases this with h | h | h
      · rw [hS] at h; cases h
      · rw [I.not_waited R hD hk hq hqS] at h; cases h
      · have := waits_lt R.ok.lt i k s hs h; omega
    · have := waits_lt R.ok.lt i k s hs this; omega
theorem Inv.late_dst (R : Region' P nt ops steps call al L0 e0 st0 st') (I : Inv nt w0 O ρ0 B0 call al steps e0 st0 D a w c st ρ) {i : Nat} {s : IStep} {stI : St} (hs : steps[i]? = some s) (hS : s.isS = false) (hI : pre call (clos steps) al steps e0 (i + 1) st0 = some stI) (hic : i < c) {d : Nat} (hd : s.dst = some d) : st.env.get d = stI.env.get d := by
  refine (pf_le (pre_he R (by have := I.le; omega) hI) hI hic I.le I.at_).env d fun k q hik hk hq hw hqd => ?_
  exact R.ok.dst k i q s d hq hs (by omega) hd (.inr hS) hqd
theorem ent_valid {B L : List Ent} {id : Id} (h : ent B L id ≠ .dead) : id.valid B L := by
  cases id with
  | b j =>
    simp only [Id.valid]
    apply Classical.byContradiction; intro hn
    apply h
    simp only [ent]
    rw [List.getD_eq_getElem?_getD, List.getElem?_eq_none (by omega)]; rfl
  | l j =>
    simp only [Id.valid]
    apply Classical.byContradiction; intro hn
    apply h
    simp only [ent]
    rw [List.getD_eq_getElem?_getD, List.getElem?_eq_none (by omega)]; rfl
theorem ent_hide {B L : List Ent} {id : Id} (h : ent (B.map Ent.hide) (L.map Ent.hide) id ≠ .dead) : ent (B.map Ent.hide) (L.map Ent.hide) id = ent B L id ∧ (ent B L id).isOwn = false ∧ ent B L id ≠ .dead := by
  have he : ent (B.map Ent.hide) (L.map Ent.hide) id = (ent B L id).hide := by
    cases id <;> simp only [ent, List.getD_eq_getElem?_getD, List.getElem?_map]
    · rename_i j; cases B[j]? <;> rfl
    · rename_i j; cases L[j]? <;> rfl
  rw [he] at h ⊢
  cases hc : ent B L id <;> rw [hc] at h <;> simp [Ent.hide, Ent.isOwn] at h ⊢
theorem Inv.keep_env (R : Region' P nt ops steps call al L0 e0 st0 st') (I : Inv nt w0 O ρ0 B0 call al steps e0 st0 D a w c st ρ) {i : Nat} {s : IStep} (hs : steps[i]? = some s) (hk : ∀ k ∈ s.after, D k = true) {ks : List Nat} (hks : ∀ t ∈ ks, t ∈ s.reads) (t : Nat) :
    SvRel w (Av O ρ st.B (maskL (hidD al D) st.L)) ρ st.B (maskL (hidD al D) st.L) (a.tmps.getD t undef) ((st.env.keep ks).get t) := by
  by_cases h : t ∈ ks
  · rw [get_keep_mem h]; exact (I.env t (I.claim R hs hk (hks t h))).1
  · rw [get_keep_not h]; trivial
theorem closed_add (I : Inv nt w0 O ρ0 B0 call al steps e0 st0 D a w c st ρ) {i : Nat} {s : IStep} (hs : steps[i]? = some s) (hk : ∀ k ∈ s.after, D k = true) :
    ∀ (j : Nat) (q : IStep), steps[j]? = some q → add D i j = true → ∀ k ∈ q.after, add D i k = true := by
  intro j q hq hj k hkq
  rcases add_iff.1 hj with h | rfl
  · exact add_iff.2 (.inl (I.closed j q hq h k hkq))
  · rw [hs] at hq; injection hq with hq; subst hq
    exact add_iff.2 (.inl (hk k hkq))
theorem tgt_of {cl : List (List Nat)} {i k : Nat} {id : Id} {q : IStep} (h : mayTurn cl steps e0 i id = false) (hq : steps[k]? = some q) (hS : q.isS = true) (h1 : Ab.waits cl k i = false) (h2 : Ab.waits cl i k = false) : ∃ ids, tgt steps e0 q = some ids ∧ id ∉ ids := by
  have hlt := (List.getElem?_eq_some_iff.1 hq).1
  unfold mayTurn at h
  rw [List.any_eq_false] at h
  have := h k (List.mem_range.2 hlt)
  rw [hq] at this
  simp only [hS, h1, h2, Bool.not_false, Bool.and_true, Bool.true_and] at this
  cases ht : tgt steps e0 q with
  | none => rw [ht] at this; simp at this
  | some ids => rw [ht] at this; exact ⟨ids, rfl, by simpa using this⟩
theorem step_Q (good : Good P call) (R : Region' P nt ops steps call al L0 e0 st0 st') (I : Inv nt w0 O ρ0 B0 call al steps e0 st0 D a w c st ρ) {i : Nat} {s : IStep} {o : Oper} (hs : steps[i]? = some s) (ho : ops[i]? = some o)
    (ht : trStep P nt ops.toList o = some s) (hD : D i = false) (hk : ∀ k ∈ s.after, D k = true) (hq : s.isQ = true) {K : Act → World → Prop} {Q : Exit → Act → World → Prop}
    (hK : ∀ a w c st ρ, Inv nt w0 O ρ0 B0 call al steps e0 st0 (add D i) a w c st ρ → K a w) : wpOp P ops Q i K a w := by
  have hA : s.isA = false := by simp only [IStep.isQ, Bool.not_eq_true', Bool.or_eq_false_iff] at hq; exact hq.1
  have hS : s.isS = false := by simp only [IStep.isQ, Bool.not_eq_true', Bool.or_eq_false_iff] at hq; exact hq.2
  obtain ⟨t1, t2, t3, t4, _, _⟩ := trStep_parts ht
  have hsl : ∀ t ∈ s.op.slots, t ∈ s.reads := fun t ht => by unfold IStep.reads; exact List.mem_append_left _ ht
  have next : ∀ (v : Value) (w' : World) (sv : SV), Chg (fun _ => False) w w' → SvRel w' (Av O ρ st.B (maskL (hidD al D) st.L)) ρ st.B (maskL (hidD al D) st.L) v sv → (∀ d, s.dst = some d → st.env.get d = sv) →
      (∀ p, .l p ∈ sv.ids → hidD al D p = false) → K (a.put o.dst v) w' := by
    intro v w' sv hc hr hd hids
    have hx := I.sim.heap.grow hc
    refine hK _ _ c st ρ ⟨closed_add I hs hk, I.le, I.top, fun j q hj hjS => ?_, I.at_, ?_, fun t hcl => ?_⟩
    · rw [add_iff, I.sdone j q hj hjS]
      refine ⟨fun h => h.elim id fun e => ?_, .inl⟩
      subst e; rw [hs] at hj; injection hj with hj; subst hj; rw [hS] at hjS; cases hjS
    · rw [hid_add R hs hA]
      exact (I.sim.step hx (d := o.dst) (v := v) (s := sv) t3 hr).noenv
    · rw [hid_add R hs hA]
      rw [put_getD a o.dst v t (fun u hu => by rw [I.sim.size]; exact t3 u hu)]
      by_cases hdt : o.dst = some t
      · rw [if_pos hdt, hd t (t2.trans hdt)]
        exact ⟨hr, hids⟩
      · rw [if_neg hdt]
        obtain ⟨e1, e2⟩ := I.env t fun k q hk' hkS hkd => by
          rcases add_iff.1 (hcl k q hk' hkS hkd) with h | rfl
          · exact h
          · rw [hs] at hk'; injection hk' with hk'; subst hk'
            exact absurd (t2.symm.trans hkd) hdt
        exact ⟨hx.sv e1, e2⟩
  have run : ∀ v, evQ call s.op (opd st.env) st.B (maskL (hidD al D) st.L) = some v → okIds (clos steps) al i v = true → (∀ d, s.dst = some d → st.env.get d = v) → Region.wanted o (yielded ops a.tmps) = true → wpOp P ops Q i K a w := by
    intro v v1 v2 v3 hw
    have hidi : ∀ p, .l p ∈ v.ids → hidD al D p = false := by
      intro p hp
      cases hh : hidD al D p with
      | false => rfl
      | true =>
        have h1 := hid_sub R I hs hk hh
        unfold okIds at v2
        rw [List.all_eq_true] at v2
        have := v2 _ hp
        simp [h1] at this
    have hev : evQ call s.op (opd (st.env.keep s.op.slots)) st.B (maskL (hidD al D) st.L) = some v := by
      rw [evQ_congr s.op (e' := st.env) fun t ht => get_keep_mem ht]; exact v1
    unfold wpOp
    simp only [ho, hw, if_true]
    exact .inl (evQ_wp good o I.sim.heap (ops_of (I.keep_env R hs hk hsl) o.op) t1 hev fun u w' h1 h2 => next u w' v h1 h2 v3 hidi)
  have skip : (∀ d, s.dst = some d → st.env.get d = .unk) → Region.wanted o (yielded ops a.tmps) = false → wpOp P ops Q i K a w := by
    intro hu hw
    unfold wpOp
    simp only [ho]
    rw [if_neg (by rw [hw]; simp)]
    exact next undef w .unk (Chg.refl _ _) trivial hu (fun p hp => by simp [SV.ids] at hp)
  have guard : ∀ t want b, s.guard = some (t, want) → st.env.get t = .fv (.bool b) → Region.wanted o (yielded ops a.tmps) = (b == want) := by
    intro t want b hg hb
    have htr : t ∈ s.reads := by unfold IStep.reads; rw [hg]; simp
    have hwn := guard_wanted (ops := ops.toList) I.sim.size (I.keep_env R hs hk (ks := [t]) (fun u hu => by rw [List.mem_singleton.1 hu]; exact htr)) (by rw [t4, hg]) (b := b) (by rw [get_keep_mem (by simp)]; exact hb)
    rw [Array.toArray_toList] at hwn
    exact hwn
  have htr : ∀ t want, s.guard = some (t, want) → t ∈ s.reads := fun t want hg => by unfold IStep.reads; rw [hg]; simp
  cases hL : late (clos steps) steps i with
  | false =>
    have hE : isE (clos steps) steps i s = true := isE_iff.2 ⟨hA, hS, hL⟩
    have hW : writes (clos steps) steps i s = false := by simp [writes, hS, hL]
    have use : ∀ v, QVal call st0.B L0 (clos steps) al steps e0 st0.env i s v → Region.wanted o (yielded ops a.tmps) = true → wpOp P ops Q i K a w := by
      intro v hv hw
      obtain ⟨v1, v2, v3⟩ := hv
      have hvalid : ∀ id, ent st0.B L0 id ≠ .dead → id.valid st0.B st0.L ∧ ent st0.B st0.L id = ent st0.B L0 id ∧ hid (hidD al D) id = false := by
        intro id hne
        have hv := ent_valid hne
        cases id with
        | b j => exact ⟨hv, rfl, rfl⟩
        | l j =>
          have hj : j < L0.length := hv
          refine ⟨by simp only [Id.valid, R.hL0, List.length_append]; omega, ?_, hid_new R hj⟩
          simp only [ent, R.hL0, List.getD_eq_getElem?_getD]
          rw [List.getElem?_append_left hj]
      have hl1 : Less (hideBy (mayTurn (clos steps) steps e0 i) st0.B L0).1 (hideBy (mayTurn (clos steps) steps e0 i) st0.B L0).2 st.B (maskL (hidD al D) st.L) := by
        intro id hne
        obtain ⟨k1, k2, k3⟩ := hideBy_seen hne
        obtain ⟨h1, h2, h3⟩ := hvalid id k2
        rw [k1, ent_maskL, if_neg (by simp [h3]), ← h2]
        rcases k3 with k3 | k3
        · exact (I.pf R).frz id h1 (by rw [h2]; exact k3)
        · refine (I.pf R).quiet id h1 fun k q _ hkc hkq hkS => ?_
          exact tgt_of k3 hkq hkS (I.not_waited R hD hkc hkq hkS) (by
            cases hw : Ab.waits (clos steps) i k with
            | false => rfl
            | true =>
              have := late_iff.2 ⟨k, q, waits_lt R.ok.lt i k s hs hw, hkq, hkS, hw⟩
              rw [hL] at this; cases this)
      refine run v ?_ v2 (fun d hd => (I.same_dst R hs hS hW hd).trans (v3 d hd)) hw
      rw [evQ_congr s.op (e' := st0.env) fun t ht => I.same R hs hE hD (hsl t ht)]
      exact evQ2_use v1 hl1
    have spec := R.qs i s hs hE
    unfold QSpec at spec
    cases hg : s.guard with
    | none =>
      rw [hg] at spec
      obtain ⟨v, hv⟩ := spec
      exact use v hv (wanted_none (by rw [t4, hg]))
    | some tw =>
      obtain ⟨t, want⟩ := tw
      rw [hg] at spec
      obtain ⟨b, hb, spec⟩ := spec
      have hwn := guard t want b hg ((I.same R hs hE hD (htr t want hg)).trans hb)
      rcases spec with ⟨rfl, v, hv⟩ | ⟨hne, hu⟩
      · exact use v hv (by rw [hwn]; simp)
      · exact skip (fun d hd => (I.same_dst R hs hS hW hd).trans (hu d hd)) (by rw [hwn]; simpa using hne)
  | true =>
    have hic := I.late_lt R hs hS hL hk
    obtain ⟨stI, hI⟩ := pre_some R.run i
    obtain ⟨stJ, hJ⟩ := pre_some R.run (i + 1)
    have hJ' := hJ
    rw [pre_succ hs, hI, Option.bind_some] at hJ'
    rcases stepS_cases hJ' with ⟨_, h, _⟩ | ⟨h, _⟩ | ⟨_, _, _, v, rfl, hm⟩
    · rcases h with h | h
      · rw [hA] at h; cases h
      · rw [hL] at h; cases h
    · rw [hS] at h; cases h
    have hdst : ∀ d, s.dst = some d → st.env.get d = v := fun d hd => by
      rw [I.late_dst R hs hS hJ hic hd]
      simp only
      rw [get_putO, if_pos hd]
    have P' := pf_le (pre_he R (by have := I.le; omega) hI) hI (Nat.le_of_lt hic) I.le I.at_
    have use : evQ2 call (mayTurn (clos steps) steps e0 i) s.op (opd stI.env) stI.B (maskL (hidFor (clos steps) al i) stI.L) = some v → okIds (clos steps) al i v = true → Region.wanted o (yielded ops a.tmps) = true → wpOp P ops Q i K a w := by
      intro v1 v2 hw
      have hvalid : ∀ id, ent stI.B (maskL (hidFor (clos steps) al i) stI.L) id ≠ .dead → id.valid stI.B stI.L ∧ ent stI.B (maskL (hidFor (clos steps) al i) stI.L) id = ent stI.B stI.L id ∧ hid (hidD al D) id = false := by
        intro id hne
        rw [ent_maskL] at hne ⊢
        split at hne
        · exact absurd rfl hne
        · rename_i hf
          refine ⟨ent_valid hne, by rw [if_neg hf], ?_⟩
          cases id with
          | b j => rfl
          | l p =>
            cases hh : hidD al D p with
            | false => exact hh
            | true => exact absurd (hid_sub R I hs hk hh) hf
      have hl1 : Less (hideBy (mayTurn (clos steps) steps e0 i) stI.B (maskL (hidFor (clos steps) al i) stI.L)).1 (hideBy (mayTurn (clos steps) steps e0 i) stI.B (maskL (hidFor (clos steps) al i) stI.L)).2 st.B (maskL (hidD al D) st.L) := by
        intro id hne
        obtain ⟨k1, k2, k3⟩ := hideBy_seen hne
        obtain ⟨h1, h2, h3⟩ := hvalid id k2
        rw [k1, h2, ent_maskL, if_neg (by simp [h3])]
        rcases k3 with k3 | k3
        · exact P'.frz id h1 (by rw [← h2]; exact k3)
        · refine P'.quiet id h1 fun k q hik hkc hkq hkS => ?_
          exact tgt_of k3 hkq hkS (I.not_waited R hD hkc hkq hkS) (by
            cases hw : Ab.waits (clos steps) i k with
            | false => rfl
            | true => have := waits_lt R.ok.lt i k s hs hw; omega)
      refine run v ?_ v2 hdst hw
      rw [evQ_congr s.op (e' := stI.env) fun t ht => I.same_late R hs hS hD hI hic (hsl t ht)]
      exact evQ2_use v1 hl1
    cases hg : s.guard with
    | none =>
      rw [hg] at hm
      exact use hm.1 hm.2 (wanted_none (by rw [t4, hg]))
    | some tw =>
      obtain ⟨t, want⟩ := tw
      rw [hg] at hm
      obtain ⟨b, hb, hm⟩ := hm
      have hwn := guard t want b hg ((I.same_late R hs hS hD hI hic (htr t want hg)).trans hb)
      rcases hm with ⟨rfl, v1, v2⟩ | ⟨hne, hu⟩
      · exact use v1 v2 (by rw [hwn]; simp)
      · exact skip (fun d hd => (hdst d hd).trans hu) (by rw [hwn]; simpa using hne)
end
end
end Go.Ab
namespace Go.Ab
section
variable {P : Program} {w w' : World} {O : Nat → Prop} {ρ : Rho} {B L : List Ent}
section
variable {nt : Nat} {ops : Array Oper} {steps : List IStep} {call : Disp} {al : List (Nat × Nat)} {L0 : List Ent} {e0 : Env} {st0 st' st : St} {w0 : World} {ρ0 : Rho} {B0 : List Ent} {D : Nat → Bool} {a : Act} {c : Nat}
theorem nextS (steps : List IStep) : ∀ (d m : Nat), m + d = steps.length → ∃ c, m ≤ c ∧ c ≤ steps.length ∧ (∀ (k : Nat) (q : IStep), m ≤ k → k < c → steps[k]? = some q → q.isS = false) ∧ (c = steps.length ∨ ∃ s, steps[c]? = some s ∧ s.isS = true)
  | 0, m, h => ⟨m, Nat.le_refl _, by omega, fun k q h1 h2 => by omega, .inl (by omega)⟩
  | d + 1, m, h => by
    have hs := List.getElem?_eq_getElem (l := steps) (i := m) (by omega)
    cases hS : (steps[m]).isS with
    | true => exact ⟨m, Nat.le_refl _, by omega, fun k q h1 h2 => by omega, .inr ⟨_, hs, hS⟩⟩
    | false =>
      obtain ⟨c, h1, h2, h3, h4⟩ := nextS steps d (m + 1) (by omega)
      refine ⟨c, by omega, h2, fun k q k1 k2 hq => ?_, h4⟩
      by_cases hk : k = m
      · subst hk
        rw [hs] at hq; injection hq with hq; rw [← hq]; exact hS
      · exact h3 k q (by omega) k2 hq
theorem Inv.at_S (R : Region' P nt ops steps call al L0 e0 st0 st') (I : Inv nt w0 O ρ0 B0 call al steps e0 st0 D a w c st ρ) {i : Nat} {s : IStep} (hs : steps[i]? = some s) (hS : s.isS = true) (hD : D i = false) (hk : ∀ k ∈ s.after, D k = true) : c = i := by
  have hci : c ≤ i := by
    apply Classical.byContradiction; intro hn
    have := (I.sdone i s hs hS).2 (by omega)
    rw [hD] at this; cases this
  have hlt := (List.getElem?_eq_some_iff.1 hs).1
  rcases I.top with h | ⟨q, hq, hqS⟩
  · omega
  · apply Classical.byContradiction; intro hn
    have := (I.sdone c q hq hqS).1 (I.waited R hs hk (R.ok.sord i c s q hs hq hS hqS (by omega)))
    omega
theorem step_S (R : Region' P nt ops steps call al L0 e0 st0 st') (I : Inv nt w0 O ρ0 B0 call al steps e0 st0 D a w c st ρ) {i : Nat} {s : IStep} {o : Oper} (hs : steps[i]? = some s) (ho : ops[i]? = some o)
    (ht : trStep P nt ops.toList o = some s) (hD : D i = false) (hk : ∀ k ∈ s.after, D k = true) (hA : s.isA = false) (hS : s.isS = true) {K : Act → World → Prop} {Q : Exit → Act → World → Prop}
    (hK : ∀ a w c st ρ, Inv nt w0 O ρ0 B0 call al steps e0 st0 (add D i) a w c st ρ → K a w) : wpOp P ops Q i K a w := by
  have hci := (I.at_S R hs hS hD hk).symm
  subst hci
  obtain ⟨t1, t2, t3, t4, _, _⟩ := trStep_parts ht
  obtain ⟨hg, hnc⟩ := isS_notCall ht hS
  have hlt := (List.getElem?_eq_some_iff.1 hs).1
  have hsl : ∀ t ∈ s.op.slots, t ∈ s.reads := fun t ht => by unfold IStep.reads; exact List.mem_append_left _ ht
  obtain ⟨st1, hst1⟩ := pre_some R.run (i + 1)
  have hst1' := hst1
  rw [pre_succ hs, I.at_, Option.bind_some] at hst1'
  rcases stepS_cases hst1' with ⟨hf, _⟩ | ⟨_, v, B', L', h3, h4, _, rfl⟩ | ⟨hf, _⟩
  · rw [hS] at hf; cases hf
  case inr.inr => rw [hS] at hf; cases hf
  have hsub : ∀ p, hidD al D p = true → hidFor (clos steps) al i p = true := fun p h => hid_sub R I hs hk h
  have hmm : maskL (hidFor (clos steps) al i) (maskL (hidD al D) st.L) = maskL (hidFor (clos steps) al i) st.L := by
    refine maskL_ext (maskL_length _ _) fun p _ => ?_
    split
    · rfl
    · rename_i hf
      rw [getD_maskL, if_neg (fun h => hf (hsub p h))]
  rw [evA_congr s.op (e' := st.env.keep s.op.slots) fun t ht => (get_keep_mem ht).symm, ← hmm] at h3
  have hh := heap_mask I.sim.heap (hidFor (clos steps) al i)
  have acts := evA_run (P := P) o hh (ops_of (fun t => sv_mask _ (I.keep_env R hs hk hsl t)) o.op) t1 hnc h3
  have hel : st.L.length ≤ L'.length := by
    have := (evA_ents h3).2.1
    rw [maskL_length, maskL_length] at this; exact this
  obtain ⟨f0, f1, f2⟩ := frzNew_weak steps s st.L.length v B' L'
  generalize hB2 : (frzNew steps s st.L.length v B' L').1 = B2 at *
  generalize hL2 : (frzNew steps s st.L.length v B' L').2 = L2 at *
  have hrest : restL (hidFor (clos steps) al i) (maskL (hidD al D) st.L) L2 = maskL (hidD al D) (restL (hidFor (clos steps) al i) st.L L2) := by
    refine ext_getD (by rw [restL_length, maskL_length, restL_length]) fun p => ?_
    rw [getD_restL, getD_maskL, getD_maskL, getD_restL]
    by_cases h1 : hidD al D p = true
    · rw [if_pos h1, if_pos h1]
      by_cases h2 : p < L2.length
      · rw [if_pos ⟨h2, hsub p h1⟩]
      · rw [if_neg (fun h => h2 h.1), List.getD_eq_getElem?_getD, List.getElem?_eq_none (by omega)]; rfl
    · rw [if_neg h1, if_neg h1]
  unfold wpOp
  simp only [ho]
  rw [if_pos (wanted_none (by rw [t4, hg]))]
  refine .inl (acts.wp fun u w' ρ' hx0 hr0 => ?_)
  have hx := hx0.trans (Ext.weaken hx0.heap f0 f1 f2) hh
  have hr := SvRel.weak f0 f1 (Nat.le_of_eq f2.symm) hr0
  have hx2 := unmask_ext I.sim.heap _ hx
  have hr2 := unmask_sv I.sim.heap _ hx hr
  rw [hrest] at hx2 hr2
  have hadd : hidD al (add D i) = hidD al D := hid_add R hs hA
  obtain ⟨c', c1, c2, c3, c4⟩ := nextS steps (steps.length - (i + 1)) (i + 1) (by omega)
  obtain ⟨st2, hst2⟩ := pre_some R.run c'
  have P' := pf_le (pre_he R (by omega) hst1) hst1 c1 c2 hst2
  obtain ⟨e1, e2⟩ := P'.noS c3
  refine hK _ _ c' st2 ρ' ⟨closed_add I hs hk, c2, c4, fun k q hq hqS => ?_, hst2, ?_, fun t hcl => ?_⟩
  · rw [add_iff, I.sdone k q hq hqS]
    constructor
    · intro h; omega
    · intro h
      apply Classical.byContradiction; intro hn
      rw [c3 k q (by omega) h hq] at hqS; cases hqS
  · rw [hadd, e1, e2]
    exact (I.sim.step hx2 (d := o.dst) (v := u) (s := v) t3 hr2).noenv
  · have he : st2.env.get t = (putO st.env s.dst v).get t := by
      rw [P'.env t fun k q k1 k2 hq hw hd => ?_]
      have hqS := c3 k q k1 k2 hq
      simp only [writes, hqS, Bool.false_or, Bool.and_eq_true, Bool.not_eq_true'] at hw
      have hDk := hcl k q hq hqS hd
      rcases add_iff.1 hDk with h | h
      · have := I.waited R hq (I.closed k q hq h) (R.ok.lat k i q s hq hqS hw.2 hs hS (by omega))
        rw [hD] at this; cases this
      · omega
    rw [he, hadd, e1, e2, put_getD a o.dst u t (fun u hu => by rw [I.sim.size]; exact t3 u hu), get_putO, t2]
    split
    · refine ⟨hr2, fun p hp => ?_⟩
      cases hh : hidD al D p with
      | false => rfl
      | true =>
        unfold okIds at h4
        rw [List.all_eq_true] at h4
        have := h4 _ hp
        simp [hsub p hh] at this
    · obtain ⟨e1, e2⟩ := I.env t fun k q hq hqS hqd => by
        rcases add_iff.1 (hcl k q hq hqS hqd) with h | rfl
        · exact h
        · rw [hs] at hq; injection hq with hq; subst hq
          rw [hS] at hqS; cases hqS
      exact ⟨hx2.sv e1, e2⟩
theorem step_A (R : Region' P nt ops steps call al L0 e0 st0 st') (I : Inv nt w0 O ρ0 B0 call al steps e0 st0 D a w c st ρ) {i : Nat} {s : IStep} {o : Oper} (hs : steps[i]? = some s) (ho : ops[i]? = some o)
    (ht : trStep P nt ops.toList o = some s) (hD : D i = false) (hk : ∀ k ∈ s.after, D k = true) (hA : s.isA = true) {K : Act → World → Prop} {Q : Exit → Act → World → Prop}
    (hK : ∀ a w c st ρ, Inv nt w0 O ρ0 B0 call al steps e0 st0 (add D i) a w c st ρ → K a w) : wpOp P ops Q i K a w := by
  obtain ⟨t1, t2, t3, t4, _, _⟩ := trStep_parts ht
  have hS := isA_notS ht hA
  obtain ⟨sz, z, hop, hg⟩ := isA_of hA
  obtain ⟨p, p1, p2, p3, p4, p5, p6, p7⟩ := R.as i s sz z hs hop hg
  rw [hop] at t1
  obtain ⟨e, he, e1, e2⟩ := trOp_alloc t1
  obtain ⟨zv, z1, z2, z3, z4⟩ := zeroOf_run e2
  have hLp : st.L.getD p .dead = .own sz [z] := by
    rw [← p4]
    refine (I.pf R).hid p p3 fun k q _ hkc hq hqS => hidFor_iff.2 ⟨i, p1, I.not_waited R hD hkc hq hqS⟩
  have hpl : p < (maskL (hidD al D) st.L).length := by rw [maskL_length]; have := (I.pf R).lenL; omega
  have hhp : hidD al D p = true := hidD_iff.2 ⟨i, p1, hD⟩
  have hdead : (maskL (hidD al D) st.L).getD p .dead = .dead := by rw [getD_maskL, if_pos hhp]
  have hadd : ∀ q, hidD al (add D i) q = true ↔ hidD al D q = true ∧ q ≠ p := by
    intro q
    rw [hidD_iff, hidD_iff]
    constructor
    · rintro ⟨k, h1, h2⟩
      simp only [add, Bool.or_eq_false_iff, beq_eq_false_iff_ne] at h2
      refine ⟨⟨k, h1, h2.1⟩, fun e => h2.2 ?_⟩
      subst e
      have := p1
      rw [R.hal] at h1 this
      exact (allocs_inj steps _ _ _ _ _ _ h1 this).2 rfl
    · rintro ⟨⟨k, h1, h2⟩, hne⟩
      refine ⟨k, h1, ?_⟩
      simp only [add, Bool.or_eq_false_iff, beq_eq_false_iff_ne]
      refine ⟨h2, fun e => hne ?_⟩
      subst e
      have := p1
      rw [R.hal] at h1 this
      exact (allocs_inj steps _ _ _ _ _ _ h1 this).1 rfl
  have hset : (maskL (hidD al D) st.L).set p (.own sz [z]) = maskL (hidD al (add D i)) st.L := by
    refine ext_getD (by simp [maskL_length]) fun q => ?_
    rw [getD_set _ _ _ _ hpl, getD_maskL, getD_maskL]
    by_cases hq : q = p
    · subst hq
      rw [if_pos rfl, if_neg (fun h => ((hadd q).1 h).2 rfl), hLp]
    · rw [if_neg hq]
      by_cases h1 : hidD al D q = true
      · rw [if_pos h1, if_pos ((hadd q).2 ⟨h1, hq⟩)]
      · rw [if_neg h1, if_neg (fun h => h1 ((hadd q).1 h).1)]
  obtain ⟨f1, f2, f3⟩ := fill_ext I.sim.heap e p5 p6 (z4 w _) hpl hdead
  rw [hset] at f1 f2 f3
  unfold wpOp
  simp only [ho]
  rw [if_pos (wanted_none (by rw [t4, hg]))]
  refine .inl ?_
  have hrun : (execOp a.eval o).run P w = .ok (.value (.pointer (some ⟨w.heap.size, 0, none⟩))) (w.alloc (.cells zv.cells e)) := by
    obtain ⟨dst, op, type, pos, after, guard⟩ := o
    simp only at he
    subst he
    simp [execOp, Instr.alloc, z1, newVar, newRow]
  unfold Oper.wp
  rw [hrun, Oper.upon_value]
  refine hK _ _ c st (upd ρ (.l p) (w.heap.size, 1)) ⟨closed_add I hs hk, I.le, I.top, fun k q hq hqS => ?_, I.at_, ?_, fun t hcl => ?_⟩
  · rw [add_iff, I.sdone k q hq hqS]
    refine ⟨fun h => h.elim id fun e => ?_, .inl⟩
    subst e; rw [hs] at hq; injection hq with hq; subst hq; rw [hS] at hqS; cases hqS
  · refine ⟨f1, fun t => trivial, by rw [(put_size a o.dst _).1]; exact I.sim.size, by rw [(put_size a o.dst _).2]; exact I.sim.dfr, I.sim.chg.then (Chg.alloc (fun _ => False) _ _) (fun _ _ h => h.elim), fun j hj => ?_, fun b hb hAv => ?_, I.sim.lenB, I.sim.noO⟩
    · rw [← I.sim.rho j hj]; simp [upd]
    · exact I.sim.av b hb (f2 b (Nat.lt_of_lt_of_le hb I.sim.chg.size) hAv)
  · rw [put_getD a o.dst _ t (fun u hu => by rw [I.sim.size]; exact t3 u hu)]
    by_cases hdt : o.dst = some t
    · rw [if_pos hdt, I.same_dst R hs hS (by simp [writes, hS, hA]) (t2.trans hdt), p7 t (t2.trans hdt)]
      refine ⟨⟨?_, ?_⟩, fun q hq => ?_⟩
      · simp only [Id.valid, maskL_length]; rw [maskL_length] at hpl; exact hpl
      · simp [upd]
      · simp only [SV.ids, List.mem_singleton, Id.l.injEq] at hq
        subst hq
        cases hh : hidD al (add D i) q with
        | false => rfl
        | true => exact absurd rfl ((hadd q).1 hh).2
    · rw [if_neg hdt]
      obtain ⟨e1', e2'⟩ := I.env t fun k q hq hqS hqd => by
        rcases add_iff.1 (hcl k q hq hqS hqd) with h | rfl
        · exact h
        · rw [hs] at hq; injection hq with hq; subst hq
          exact absurd (t2.symm.trans hqd) hdt
      refine ⟨f3 _ _ (fun j hj e => ?_) e1', fun q hq => ?_⟩
      · subst e
        rw [e2' p hj] at hhp; cases hhp
      · cases hh : hidD al (add D i) q with
        | false => rfl
        | true =>
        have := ((hadd q).1 hh).1
        rw [e2' q hq] at this; cases this
theorem inv_any (good : Good P call) (R : Region' P nt ops steps call al L0 e0 st0 st') {Q : Exit → Act → World → Prop} (hQ : ∀ a w ρ, Sim nt w0 O ρ0 B0 st' a w ρ → Q .normal a w) :
    ∀ (fuel : Nat) (listed : Array Bool) (U : List Nat) (a : Act) (w : World) (c : Nat) (st : St) (ρ : Rho), Inv nt w0 O ρ0 B0 call al steps e0 st0 (fun i => listed.getD i false) a w c st ρ →
      listed.size = ops.size → U.length ≤ fuel → (∀ i, i < ops.size → listed.getD i false = false → i ∈ U) → wpAny P .any ops Q fuel listed a w := by
  obtain ⟨hlen, hget⟩ := trSteps_get _ _ R.tr
  simp only [Array.length_toList] at hlen
  have hget : ∀ (i : Nat) (o : Oper), ops[i]? = some o → ∃ s, steps[i]? = some s ∧ trStep P nt ops.toList o = some s := fun i o ho => hget i o (by simpa using ho)
  have hready : ∀ (listed : Array Bool) (i : Nat), listed.size = ops.size → (i ∈ Region.ready .any ops listed ↔ i < ops.size ∧ listed.getD i false = false ∧ ∃ s, steps[i]? = some s ∧ ∀ k ∈ s.after, listed.getD k false = true) := by
    intro listed i hsz
    unfold Region.ready
    simp only [List.mem_filter, List.mem_range, Bool.and_eq_true, Bool.not_eq_true']
    refine and_congr_right fun hi => and_congr ?_ ?_
    · simp [Array.getD_eq_getD_getElem?, hsz, hi]
    · have ho := Array.getElem?_eq_getElem hi
      rw [ho]
      obtain ⟨s, h1, h2⟩ := hget i _ ho
      obtain ⟨_, _, _, _, t5, _⟩ := trStep_parts h2
      simp only [Option.map_some, Option.getD_some, Array.all_eq_true', Bool.or_eq_true, Bool.not_eq_true']
      constructor
      · intro h
        refine ⟨s, h1, fun k hk => ?_⟩
        rw [t5] at hk
        simp only [List.mem_eraseDups, List.mem_filterMap, Array.mem_toList_iff] at hk
        obtain ⟨e, he, hk⟩ := hk
        split at hk
        · rename_i hb
          injection hk with hk; subst hk
          rcases h e he with h | h
          · rw [hb] at h; cases h
          · exact h
        · cases hk
      · rintro ⟨s', h1', h⟩ e he
        rw [h1] at h1'; injection h1' with h1'; subst h1'
        cases hb : Region.binds .any e with
        | false => exact .inl rfl
        | true =>
          refine .inr (h e.on ?_)
          rw [t5]
          simp only [List.mem_eraseDups, List.mem_filterMap, Array.mem_toList_iff]
          exact ⟨e, he, by rw [if_pos hb]⟩
  have done : ∀ (listed : Array Bool) (a : Act) (w : World) (c : Nat) (st : St) (ρ : Rho), Inv nt w0 O ρ0 B0 call al steps e0 st0 (fun i => listed.getD i false) a w c st ρ → listed.size = ops.size → Region.ready .any ops listed = [] → Q .normal a w := by
    intro listed a w c st ρ I hsz hr
    have all : ∀ i, i < ops.size → listed.getD i false = true := by
      intro i
      induction i using Nat.strongRecOn with
      | _ i ih =>
        intro hi
        cases hD : listed.getD i false with
        | true => rfl
        | false =>
          obtain ⟨s, h1, h2⟩ := hget i _ (Array.getElem?_eq_getElem hi)
          have : i ∈ Region.ready .any ops listed := (hready listed i hsz).2 ⟨hi, hD, s, h1, fun k hk => by
            have hlt := R.ok.lt i s h1 k hk
            exact ih k hlt (by omega)⟩
          rw [hr] at this; cases this
    have hcn : c = steps.length := by
      rcases I.top with h | ⟨q, hq, hqS⟩
      · exact h
      · have hk := (List.getElem?_eq_some_iff.1 hq).1
        have := (I.sdone c q hq hqS).1 (all c (by omega))
        omega
    have hpre : pre call (clos steps) al steps e0 steps.length st0 = some st := by rw [← hcn]; exact I.at_
    rw [pre_all, R.run] at hpre
    injection hpre with hpre; subst hpre
    have hm : maskL (hidD al fun i => listed.getD i false) st'.L = st'.L := by
      refine ext_getD (maskL_length _ _) fun p => ?_
      rw [getD_maskL, if_neg]
      intro h
      obtain ⟨k, h1, h2⟩ := hidD_iff.1 h
      obtain ⟨_, s, h3, _⟩ := al_isA R h1
      have hk := (List.getElem?_eq_some_iff.1 h3).1
      rw [all k (by omega)] at h2; cases h2
    have hs := I.sim
    have he := I.env
    rw [hm] at hs he
    refine hQ a w ρ ⟨hs.heap, fun t => (he t fun k q hq _ _ => ?_).1, hs.size, hs.dfr, hs.chg, hs.rho, hs.av, hs.lenB, hs.noO⟩
    have hk := (List.getElem?_eq_some_iff.1 hq).1
    exact all k (by omega)
  intro fuel
  induction fuel with
  | zero =>
    intro listed U a w c st ρ I hsz hU hall
    have hr : Region.ready .any ops listed = [] := by
      apply List.eq_nil_iff_forall_not_mem.2
      intro i hi
      obtain ⟨h1, h2, _⟩ := (hready listed i hsz).1 hi
      have := hall i h1 h2
      rw [List.eq_nil_of_length_eq_zero (by omega : U.length = 0)] at this
      cases this
    exact ⟨hr, done listed a w c st ρ I hsz hr⟩
  | succ fuel ih =>
    intro listed U a w c st ρ I hsz hU hall
    refine ⟨done listed a w c st ρ I hsz, fun i hi => ?_⟩
    obtain ⟨h1, h2, s, h3, h4⟩ := (hready listed i hsz).1 hi
    have ho := Array.getElem?_eq_getElem h1
    obtain ⟨s', h5, h6⟩ := hget i _ ho
    rw [h3] at h5; injection h5 with h5; subst h5
    have hadd : (fun k => (listed.setIfInBounds i true).getD k false) = add (fun k => listed.getD k false) i := by
      funext k
      simp only [add, Array.getD_eq_getD_getElem?, Array.getElem?_setIfInBounds]
      by_cases hki : i = k
      · subst hki; simp [hsz, h1]
      · rw [if_neg hki]
        have : (k == i) = false := by simpa using fun e => hki e.symm
        rw [this, Bool.or_false]
    have hK : ∀ a w c st ρ, Inv nt w0 O ρ0 B0 call al steps e0 st0 (add (fun k => listed.getD k false) i) a w c st ρ → wpAny P .any ops Q fuel (listed.setIfInBounds i true) a w := by
      intro a w c st ρ I'
      refine ih _ (U.erase i) a w c st ρ (by rw [hadd]; exact I') (by simp [hsz]) ?_ fun k hk1 hk2 => ?_
      · rw [List.length_erase_of_mem (hall i h1 h2)]; omega
      · have : (add (fun k => listed.getD k false) i) k = false := by rw [← hadd]; exact hk2
        simp only [add, Bool.or_eq_false_iff, beq_eq_false_iff_ne] at this
        exact (List.mem_erase_of_ne this.2).2 (hall k hk1 this.1)
    cases hA : s.isA with
    | true => exact step_A R I h3 ho h6 h2 h4 hA hK
    | false =>
      cases hS : s.isS with
      | true => exact step_S R I h3 ho h6 h2 h4 hA hS hK
      | false => exact step_Q good R I h3 ho h6 h2 h4 (by simp [IStep.isQ, hA, hS]) hK
end
theorem okAllocs_mem : ∀ (l : List IStep), okAllocs l = true → ∀ s ∈ l, s.isA = true → ∀ sz z, s.op = .alloc sz z → 0 < sz ∧ z.cells.length = sz
  | [], _, s, hs, _, _, _, _ => by simp at hs
  | x :: l, h, s, hs, ha, sz, z, ho => by
    simp only [okAllocs, Bool.and_eq_true] at h
    rcases List.mem_cons.1 hs with rfl | hs
    · have := h.1
      simpa [ha, ho] using this
    · exact okAllocs_mem l h.2 s hs ha sz z ho
theorem draw_wp {nt : Nat} {call : Disp} (good : Good P call) (hm : P.follows .mixedOrders = true) {w0 : World} {ρ0 : Rho} {B0 : List Ent} {ops : Array Oper} {id : Nat} {steps : List IStep} {st st' : St} {a : Act} {Q : Exit → Act → World → Prop}
    (ht : trSteps P nt ops.toList ops.toList = some steps) (hok : okDraw steps = true) (he : evDraw call steps st = some st') (hs : Sim nt w0 O ρ0 B0 st a w ρ)
    (hQ : ∀ a w ρ, Sim nt w0 O ρ0 B0 st' a w ρ → Q .normal a w) : (Code.region id ops true).wp P Q a w := by
  have ok := okD hok
  unfold evDraw at he
  simp only at he
  split at he
  case isFalse => cases he
  case isTrue hoa =>
  obtain ⟨E, hE, hrun⟩ := Option.bind_eq_some_iff.1 he
  obtain ⟨k1, k2, k3⟩ := frzs_weak (preIds st.env steps) st.B st.L
  have hx := Ext.weaken hs.heap k1 k2 k3
  have hsim := hs.ext hx
  generalize (frzs (preIds st.env steps) st.B st.L).1 = B1 at *
  generalize (frzs (preIds st.env steps) st.B st.L).2 = L1 at *
  have hg2 := hsim.heap.grow (Chg.drew (fun _ => False) w)
  have hsim2 := hsim.ext hg2
  obtain ⟨hlen, hget⟩ := trSteps_get _ _ ht
  simp only [Array.length_toList] at hlen
  have hgetS : ∀ (i : Nat) (s : IStep), steps[i]? = some s → ∃ o, trStep P nt ops.toList o = some s := by
    intro i s h
    have hi := (List.getElem?_eq_some_iff.1 h).1
    obtain ⟨s', h1, h2⟩ := hget i _ (by simpa using Array.getElem?_eq_getElem (xs := ops) (i := i) (by omega))
    rw [h] at h1; injection h1 with h1; subst h1
    exact ⟨_, h2⟩
  have notS : ∀ (i : Nat) (s : IStep), steps[i]? = some s → s.isA = true → s.isS = false := fun i s h hA => by obtain ⟨o, ho⟩ := hgetS i s h; exact isA_notS ho hA
  have R : Region' P nt ops steps call (allocsAt 0 L1.length steps) L1 st.env ⟨E, B1, L1 ++ drawEnts steps⟩ st' := by
    refine ⟨ht, ok, rfl, rfl, fun i s h hq => ?_, fun i s sz z h hop hg => ?_, fun t hu => ?_, hrun⟩
    · have := drawQ_spec steps 0 _ E hE (fun a b s q d ha hb hab hsq hqq hd hr => ?_) (fun a b s q d ha hb hab hsq hqq hd hsd => ?_) i s h (by rw [Nat.zero_add]; exact hq)
      · rw [Nat.zero_add] at this; exact this
      · have hsS : s.isS = false := (isE_iff.1 hsq).2.1
        have hqS : q.isS = false := (isE_iff.1 hqq).2.1
        by_cases hne : a = b
        · subst hne
          rw [ha] at hb; injection hb with hb; subst hb
          exact ok.self a s ha hsS d hd hr
        · have := ok.rd a b s q d ha hb hne hd hr
          rw [if_neg (by simp [hqS])] at this
          have := waits_lt ok.lt a b s ha this
          omega
      · have hqS : q.isS = false := (isE_iff.1 hqq).2.1
        exact ok.dst a b s q d ha hb (by omega) hd (.inr hqS) hsd
    · have hA : s.isA = true := by simp [IStep.isA, hop, hg, IOp.isAlloc]
      have hS := notS i s h hA
      obtain ⟨p, p1, p2, p3, p4, p5⟩ := drawA_at steps L1.length 0 i st.env s sz z h hop hg fun k' s' hk hs' hA' d hd => ok.dst k' i s' s d hs' h (by omega) hd (.inr hS)
      rw [Nat.zero_add] at p1
      obtain ⟨q1, q2⟩ := okAllocs_mem steps hoa s (List.mem_of_getElem? h) hA sz z hop
      refine ⟨p, p1, p2, by simpa using p3, ?_, q1, q2, fun d hd => ?_⟩
      · simp only
        rw [List.getD_eq_getElem?_getD, List.getElem?_append_right p2, ← List.getD_eq_getElem?_getD]; exact p4
      · rw [drawQ_other steps 0 _ E d hE fun k' s' hk' hq' hd' => ?_]
        · exact p5 d hd
        · have hne : k' ≠ i := by
            rintro rfl
            rw [h] at hk'; injection hk' with hk'; subst hk'
            simp [isE, hA] at hq'
          exact ok.dst k' i s' s d hk' h hne hd (.inr hS) hd'
    · simp only
      rw [drawQ_other steps 0 _ E t hE fun k s hk _ => unwritten_dst hu hk, drawA_other steps _ _ t fun s hs' _ => ?_]
      obtain ⟨k, hk⟩ := List.getElem?_of_mem hs'
      exact unwritten_dst hu hk
  obtain ⟨c0, _, c2, c3, c4⟩ := nextS steps steps.length 0 (by omega)
  obtain ⟨st2, hst2⟩ := pre_some R.run c0
  have P' := pf_le R.he (pre_zero _ _) (Nat.zero_le c0) c2 hst2
  obtain ⟨e1, e2⟩ := P'.noS c3
  have e3 : ∀ t, st2.env.get t = E.get t := fun t => P'.env t fun k q k1 k2 hq hw _ => by
    have hqS := c3 k q k1 k2 hq
    simp only [writes, hqS, Bool.false_or, Bool.and_eq_true] at hw
    obtain ⟨j, r, hj, hr, hrS, _⟩ := late_iff.1 hw.2
    rw [c3 j r (Nat.zero_le _) (by omega) hr] at hrS; cases hrS
  refine wp_region_any hm (inv_any good R hQ ops.size _ (List.range ops.size) a _ c0 st2 ρ ?_ (by simp) (by simp) fun i hi _ => List.mem_range.2 hi)
  have hfalse : (fun i => (Array.replicate ops.size false).getD i false) = fun _ => false := by
    funext i
    simp only [Array.getD_eq_getD_getElem?, Array.getElem?_replicate]
    split <;> rfl
  rw [hfalse]
  have hmask : ∀ p, (maskL (hidD (allocsAt 0 L1.length steps) fun _ => false) (L1 ++ drawEnts steps)).getD p .dead = L1.getD p .dead := by
    intro p
    rw [getD_maskL]
    by_cases hp : p < L1.length
    · rw [if_neg (by rw [hid_new R hp]; simp)]
      rw [List.getD_eq_getElem?_getD, List.getElem?_append_left hp, ← List.getD_eq_getElem?_getD]
    · rw [List.getD_eq_getElem?_getD (l := L1), List.getElem?_eq_none (by omega)]
      split
      · rfl
      · rename_i hn
        rw [List.getD_eq_getElem?_getD, List.getElem?_append_right (by omega)]
        cases hq : (drawEnts steps)[p - L1.length]? with
        | none => rfl
        | some e =>
          exfalso
          apply hn
          have hlt := (List.getElem?_eq_some_iff.1 hq).1
          have key : ∀ (l : List IStep) (i0 n k : Nat), k < (drawEnts l).length → ∃ i, (i, n + k) ∈ allocsAt i0 n l := by
            intro l
            induction l with
            | nil => intro i0 n k hk; simp [drawEnts] at hk
            | cons x l ih =>
              intro i0 n k hk
              cases hx : x.isA with
              | true =>
                simp only [drawEnts, hx, if_true, List.length_cons] at hk
                simp only [allocsAt, hx, if_true]
                cases k with
                | zero => exact ⟨i0, by simp⟩
                | succ k =>
                  obtain ⟨i, hi⟩ := ih (i0 + 1) (n + 1) k (by omega)
                  exact ⟨i, List.mem_cons_of_mem _ (by rw [show n + (k + 1) = n + 1 + k by omega]; exact hi)⟩
              | false =>
                simp only [drawEnts, hx, Bool.false_eq_true, if_false] at hk
                simp only [allocsAt, hx, Bool.false_eq_true, if_false]
                exact ih _ _ _ hk
          obtain ⟨i, hi⟩ := key steps 0 L1.length _ hlt
          rw [show L1.length + (p - L1.length) = p by omega] at hi
          exact hidD_iff.2 ⟨i, hi, rfl⟩
  have hent : ∀ i, ent B1 (maskL (hidD (allocsAt 0 L1.length steps) fun _ => false) (L1 ++ drawEnts steps)) i = ent B1 L1 i := by
    intro i
    cases i with
    | b j => rfl
    | l p => exact hmask p
  have hwk : Weak B1 L1 B1 (maskL (hidD (allocsAt 0 L1.length steps) fun _ => false) (L1 ++ drawEnts steps)) := fun i => .inl (hent i)
  have hle : L1.length ≤ (maskL (hidD (allocsAt 0 L1.length steps) fun _ => false) (L1 ++ drawEnts steps)).length := by rw [maskL_length, List.length_append]; omega
  simp only at e1 e2
  refine ⟨fun i s _ h => by simp at h, c2, c4, fun i s hi hS => ?_, hst2, ?_, fun t hcl => ?_⟩
  · constructor
    · intro h; cases h
    · intro h; rw [c3 i s (Nat.zero_le _) h hi] at hS; cases hS
  all_goals rw [e1, e2]
  · refine ⟨hsim2.heap.weaken hwk, fun t => trivial, hsim2.size, hsim2.dfr, hsim2.chg, hsim2.rho, fun b hb hA => hsim2.av b hb (hwk.av hA), hsim2.lenB, hsim2.noO⟩
  · have hEt : E.get t = st.env.get t := by
      rw [drawQ_other steps 0 _ E t hE fun k s hk hq hd => ?_, drawA_other steps _ _ t fun s hs' hA hd => ?_]
      · obtain ⟨k, hk⟩ := List.getElem?_of_mem hs'
        have := hcl k s hk (notS k s hk hA) hd
        simp at this
      · rw [Nat.zero_add] at hq
        have := hcl k s hk (isE_iff.1 hq).2.1 hd
        simp at this
    rw [e3, hEt]
    refine ⟨SvRel.weak hwk rfl hle (hsim2.env t), fun p hp => ?_⟩
    have := sv_ids_valid (hsim2.env t) _ hp
    exact hid_new R this
end
end Go.Ab
namespace Go.Ab
section
variable {P : Program} {w w' : World} {O : Nat → Prop} {ρ : Rho} {B L : List Ent}
theorem Sim.keep {nt : Nat} {w0 : World} {ρ0 : Rho} {B0 : List Ent} {st : St} {a : Act} (h : Sim nt w0 O ρ0 B0 st a w ρ) (ks : List Nat) : Sim nt w0 O ρ0 B0 { st with env := st.env.keep ks } a w ρ :=
  ⟨h.heap, fun t => by
    rcases get_keep ks st.env t with e | e
    · simp only [e]; exact h.env t
    · simp only [e]; trivial, h.size, h.dfr, h.chg, h.rho, h.av, h.lenB, h.noO⟩
def gcRho (ρ : Rho) (ls : List Nat) : Rho
  | .b i => ρ (.b i)
  | .l j => ρ (.l (ls.getD j 0))
theorem get_map (e : Env) (f : SV → SV) (hf : f .unk = .unk) (t : Nat) : Env.get (e.map fun p => (p.1, f p.2)) t = f (e.get t) := by
  induction e with
  | nil => simp [Env.get, hf]
  | cons p e ih =>
    obtain ⟨k, x⟩ := p
    simp only [List.map_cons, Env.get]
    split
    · rfl
    · exact ih
theorem get_mem {e : Env} {t : Nat} {s : SV} (h : e.get t = s) (hs : s ≠ .unk) : ∃ p ∈ e, p.2 = s := by
  induction e with
  | nil => simp [Env.get] at h; exact absurd h.symm hs
  | cons p e ih =>
    obtain ⟨k, x⟩ := p
    simp only [Env.get] at h
    split at h
    · exact ⟨(k, x), by simp, h⟩
    · obtain ⟨q, hq, e'⟩ := ih h
      exact ⟨q, List.mem_cons_of_mem _ hq, e'⟩
theorem Sim.gc {nt : Nat} {w0 : World} {ρ0 : Rho} {B0 : List Ent} {st : St} {a : Act} (h : Sim nt w0 O ρ0 B0 st a w ρ) (ks : List Nat) : ∃ ρ', Sim nt w0 O ρ0 B0 (gc ks st) a w ρ' := by
  have hk := h.keep ks
  unfold Ab.gc
  generalize st.env.keep ks = e at hk
  suffices H : ∀ ls, gcL e st.L.length = ls → ∃ ρ', Sim nt w0 O ρ0 B0 ⟨e.map fun p => (p.1, p.2.ren (gcR ls)), st.B, ls.map fun i => st.L.getD i .dead⟩ a w ρ' from H _ rfl
  intro ls hls
  have hlt : ∀ i ∈ ls, i < st.L.length := by
    intro i hi
    rw [← hls] at hi
    simp only [gcL, List.mem_filter, List.mem_range] at hi
    exact hi.1
  have hnd : ls.Nodup := by
    rw [← hls]
    exact List.Pairwise.filter _ List.nodup_range
  have hmem : ∀ t i, (.l i) ∈ (e.get t).ids → i < st.L.length → i ∈ ls := by
    intro t i hi hlt
    rw [← hls]
    simp only [gcL, List.mem_filter, List.mem_range]
    refine ⟨hlt, ?_⟩
    obtain ⟨p, hp, e'⟩ := get_mem (e := e) (t := t) rfl (by intro h; rw [h] at hi; simp [SV.ids] at hi)
    rw [List.any_eq_true]
    exact ⟨p, hp, by rw [e']; simpa using hi⟩
  have hent : ∀ i, ent st.B (ls.map fun i => st.L.getD i .dead) i = match i with | .b j => ent st.B st.L (.b j) | .l j => (match ls[j]? with | some k => ent st.B st.L (.l k) | none => .dead) := by
    intro i
    cases i with
    | b j => rfl
    | l j => simp only [ent, List.getD_eq_getElem?_getD, List.getElem?_map]; cases ls[j]? <;> rfl
  have hold : ∀ i, ent st.B (ls.map fun i => st.L.getD i .dead) i ≠ .dead → ∃ k, ent st.B (ls.map fun i => st.L.getD i .dead) i = ent st.B st.L k ∧ gcRho ρ ls i = ρ k ∧
      ((∃ j, i = .b j ∧ k = .b j) ∨ ∃ j n, i = .l j ∧ k = .l n ∧ ls[j]? = some n) := by
    intro i hi
    rw [hent] at hi ⊢
    cases i with
    | b j => exact ⟨.b j, rfl, rfl, .inl ⟨j, rfl, rfl⟩⟩
    | l j =>
      simp only at hi ⊢
      cases hj : ls[j]? with
      | none => rw [hj] at hi; exact absurd rfl hi
      | some n => exact ⟨.l n, rfl, by simp [gcRho, List.getD_eq_getElem?_getD, hj], .inr ⟨j, n, rfl, rfl, hj⟩⟩
  have hav : ∀ b, Av O (gcRho ρ ls) st.B (ls.map fun i => st.L.getD i .dead) b → Av O ρ st.B st.L b := by
    rintro b (hb | ⟨i, hi, e'⟩)
    · exact .inl hb
    · obtain ⟨k, h1, h2, _⟩ := hold i (by intro hd; rw [hd] at hi; simp [Ent.isOwn] at hi)
      exact .inr ⟨k, by rw [← h1]; exact hi, by rw [← h2]; exact e'⟩
  have hrd : ∀ {v x}, Rd w (Av O ρ st.B st.L) v x → Rd w (Av O (gcRho ρ ls) st.B (ls.map fun i => st.L.getD i .dead)) v x := fun h => Rd.congrA hav h
  have hid : ∀ i, i.valid st.B st.L → (∀ n, i = .l n → n ∈ ls) → gcRho ρ ls (gcR ls i) = ρ i ∧ (gcR ls i).valid st.B (ls.map fun i => st.L.getD i .dead) := by
    intro i hv hm
    cases i with
    | b j => exact ⟨rfl, hv⟩
    | l n =>
      have hn := hm n rfl
      have hl := List.idxOf_lt_length_iff.2 hn
      refine ⟨?_, by simpa [gcR, Id.valid] using hl⟩
      simp only [gcR, gcRho, List.getD_eq_getElem?_getD, List.getElem?_eq_getElem hl]
      simp
  refine ⟨gcRho ρ ls, ⟨?_, ?_, h.heap.oLt, ?_, ?_⟩, fun t => ?_, h.size, h.dfr, h.chg, fun i hi => h.rho i hi, fun b hb hA => h.av b hb (hav b hA), h.lenB, h.noO⟩
  · intro i j hi hj e'
    obtain ⟨k, h1, h2, h3⟩ := hold i (by intro hd; rw [hd] at hi; simp [Ent.isOwn] at hi)
    obtain ⟨k', h1', h2', h3'⟩ := hold j (by intro hd; rw [hd] at hj; simp [Ent.isOwn] at hj)
    have := h.heap.inj k k' (by rw [← h1]; exact hi) (by rw [← h1']; exact hj) (by rw [← h2, ← h2']; exact e')
    subst this
    rcases h3 with ⟨a1, rfl, rfl⟩ | ⟨a1, n, rfl, rfl, hn⟩
    · rcases h3' with ⟨b1, rfl, hk⟩ | ⟨b1, m, rfl, hk, _⟩
      · injection hk with hk; rw [hk]
      · cases hk
    · rcases h3' with ⟨b1, rfl, hk⟩ | ⟨b1, m, rfl, hk, hm⟩
      · cases hk
      · injection hk with hk; subst hk
        rw [(List.getElem?_inj (List.getElem?_eq_some_iff.1 hn).1 hnd).1 (hn.trans hm.symm)]
  · intro i hi
    obtain ⟨k, h1, h2, _⟩ := hold i (by intro hd; rw [hd] at hi; simp [Ent.isOwn] at hi)
    rw [h2]; exact h.heap.notO k (by rw [← h1]; exact hi)
  · intro i sz xs he
    obtain ⟨k, h1, h2, _⟩ := hold i (by rw [he]; simp)
    obtain ⟨k1, k2, k3, k4, cur, t, k5, k6, k7⟩ := h.heap.own k sz xs (by rw [← h1]; exact he)
    rw [h2]
    refine ⟨k1, k2, k3, k4, cur, t, k5, k6, fun j x hx => ?_⟩
    obtain ⟨v, hv, hr⟩ := k7 j x hx; exact ⟨v, hv, hrd hr⟩
  · intro i sz xs he
    obtain ⟨k, h1, h2, _⟩ := hold i (by rw [he]; simp)
    obtain ⟨k1, k2, k3, k4, k5⟩ := h.heap.frz k sz xs (by rw [← h1]; exact he)
    rw [h2]
    refine ⟨k1, k2, fun hA => k3 (hav _ hA), k4, fun j x hx => ?_⟩
    obtain ⟨v, hv, hr⟩ := k5 j x hx; exact ⟨v, hv, hrd hr⟩
  · simp only
    rw [get_map e (SV.ren (gcR ls)) rfl t]
    have hr := hk.env t
    simp only at hr
    cases hs : e.get t with
    | unk => trivial
    | fv x => rw [hs] at hr; exact hrd hr
    | ref id sz off len ap =>
      rw [hs] at hr
      obtain ⟨q1, q2⟩ := hid id hr.1 (fun n hn => by subst hn; exact hmem t n (by rw [hs]; simp [SV.ids]) hr.1)
      refine ⟨q2, ?_⟩; rw [q1]; exact hr.2
    | ptr id sz i c =>
      rw [hs] at hr
      obtain ⟨q1, q2⟩ := hid id hr.1 (fun n hn => by subst hn; exact hmem t n (by rw [hs]; simp [SV.ids]) hr.1)
      refine ⟨q2, ?_⟩; rw [q1]; exact hr.2
    | clo f nf caps =>
      rw [hs] at hr
      obtain ⟨fs, cs, e', h1, h2, h4⟩ := hr
      refine ⟨fs, cs, e', h1, by simpa using h2, fun j u x hu hx => ?_⟩
      simp only [List.getElem?_map, Option.map_eq_some_iff] at hx
      obtain ⟨c, hc, rfl⟩ := hx
      have hcr := h4 j u c hu hc
      cases c with
      | fz y => exact hrd hcr
      | own id sz =>
        obtain ⟨q1, q2⟩ := hid id hcr.1 (fun n hn => by
          subst hn
          refine hmem t n ?_ hcr.1
          rw [hs]
          simp only [SV.ids, List.mem_flatMap]
          exact ⟨_, List.mem_of_getElem? hc, by simp [Cap.ids]⟩)
        exact ⟨q2, by rw [q1]; exact hcr.2⟩
def exitOf : IExit → Exit
  | .normal => .normal
  | .exit id => .exit id
  | .ret => .ret
theorem steps_strip {ops : List Oper} {call : Disp} {an : Ann} {self : FuncId} : ∀ (ss : List IStep) (st : St), evSteps call an self (ss.map fun s => { s with after := [] }) st = evSteps call an self ss st
  | [], st => rfl
  | s :: ss, st => by
    simp only [List.map_cons, evSteps]
    have : evStep call an self { s with after := [] } st = evStep call an self s st := rfl
    rw [this]
    congr 1
    funext st'
    exact steps_strip (ops := ops) ss st'
theorem evC_wp {nt : Nat} {call : Disp} {an : Ann} {self : FuncId} (good : Good P call) (hm : P.follows .mixedOrders = true) {w0 : World} {ρ0 : Rho} {B0 : List Ent} (k : Nat) :
    ∀ (c : Code) (h h' : List (List Nat)) (ic : ICode) (st st' : St) (ex : IExit) (a : Act) (w : World) (ρ : Rho) (Q : Exit → Act → World → Prop), trC P nt c h = some (ic, h') → evC call an self k ic st = some (ex, st') →
      Sim nt w0 O ρ0 B0 st a w ρ → (∀ a w ρ, Sim nt w0 O ρ0 B0 st' a w ρ → Q (exitOf ex) a w) → c.wp P Q a w := by
  intro c
  induction c with
  | skip =>
    intro h h' ic st st' ex a w ρ Q ht he hs hQ
    simp only [trC, Option.some.injEq, Prod.mk.injEq] at ht
    obtain ⟨rfl, rfl⟩ := ht
    simp only [evC, Option.some.injEq, Prod.mk.injEq] at he
    obtain ⟨rfl, rfl⟩ := he
    exact wp_skip (hQ a w ρ hs)
  | region id ops dr =>
    intro h h' ic st st' ex a w ρ Q ht he hs hQ
    simp only [trC, Option.bind_eq_some_iff] at ht
    obtain ⟨ss, h1, ht⟩ := ht
    cases dr with
    | true =>
      simp only [if_true] at ht
      split at ht
      · rename_i hok
        simp only [Option.some.injEq, Prod.mk.injEq] at ht
        obtain ⟨rfl, rfl⟩ := ht
        simp only [evC] at he
        obtain ⟨st1, h2, h3⟩ := Option.map_eq_some_iff.1 he
        simp only [Prod.mk.injEq] at h3
        obtain ⟨rfl, rfl⟩ := h3
        exact draw_wp good hm h1 hok h2 (hs.keep _) fun a w ρ h => hQ a w ρ h
      · cases ht
    | false =>
      simp only [Bool.false_eq_true, if_false, Option.some.injEq, Prod.mk.injEq] at ht
      obtain ⟨rfl, rfl⟩ := ht
      simp only [evC] at he
      obtain ⟨st1, h2, h3⟩ := Option.map_eq_some_iff.1 he
      simp only [Prod.mk.injEq] at h3
      obtain ⟨rfl, rfl⟩ := h3
      rw [steps_strip (ops := ops.toList)] at h2
      refine wp_region_list ?_
      have := evSteps_wp (P := P) (ops := ops.toList) (Q := Q) good (fun a w ρ h => hQ a w ρ h) ops.toList ss _ a w ρ h1 h2 (hs.keep _)
      simpa using this
  | seq x y ihx ihy =>
    intro h h' ic st st' ex a w ρ Q ht he hs hQ
    simp only [trC, Option.bind_eq_some_iff, Option.map_eq_some_iff, Prod.mk.injEq] at ht
    obtain ⟨⟨ix, h1⟩, hx, ⟨iy, h2⟩, hy, rfl, rfl⟩ := ht
    simp only [evC] at he
    refine wp_seq ?_
    split at he
    · rename_i st1 h3
      exact ihx _ _ _ _ _ _ _ _ _ _ hx h3 hs fun a w ρ h => ihy _ _ _ _ _ _ _ _ _ _ hy he h hQ
    · rename_i hne
      refine ihx _ _ _ _ _ _ _ _ _ _ hx he hs fun a w ρ h => ?_
      have := hQ a w ρ h
      cases ex with
      | normal => exact absurd he (hne st')
      | exit id => exact this
      | ret => exact this
  | cond c x y ihx ihy =>
    intro h h' ic st st' ex a w ρ Q ht he hs hQ
    simp only [trC, Option.bind_eq_some_iff, Option.map_eq_some_iff, Prod.mk.injEq] at ht
    obtain ⟨c', hc, ⟨ix, h1⟩, hx, ⟨iy, h2⟩, hy, rfl, rfl⟩ := ht
    simp only [evC] at he
    split at he
    · rename_i t hct
      have hr : SvRel w (Av O ρ st.B st.L) ρ st.B st.L (a.eval c) (opd st.env c') := by
        unfold trOpd at hc
        split at hc
        · split at hc
          · injection hc with hc; subst hc; exact hs.env _
          · cases hc
        · obtain ⟨z, hz, rfl⟩ := Option.map_eq_some_iff.1 hc
          exact (fvOf_rd hz _ _).1
        · injection hc with hc; subst hc; simp [opd] at hct
        · cases hc
      rw [hct] at hr
      have hv := Rd.inv_bool hr
      refine wp_cond hv ?_
      cases t with
      | true => exact ihx _ _ _ _ _ _ _ _ _ _ hx (by simpa using he) hs hQ
      | false => exact ihy _ _ _ _ _ _ _ _ _ _ hy (by simpa using he) hs hQ
    · cases he
  | block id b ih =>
    intro h h' ic st st' ex a w ρ Q ht he hs hQ
    simp only [trC, Option.map_eq_some_iff, Prod.mk.injEq] at ht
    obtain ⟨⟨ib, h1⟩, hb, rfl, rfl⟩ := ht
    simp only [evC] at he
    refine wp_block ?_
    split at he
    · rename_i i st1 h3
      split at he
      · rename_i hi
        simp only [Option.some.injEq, Prod.mk.injEq] at he
        obtain ⟨rfl, rfl⟩ := he
        exact ih _ _ _ _ _ _ _ _ _ _ hb h3 hs fun a w ρ h => by
          simp only [exitOf, Exit.inBlock, hi, if_true]; exact hQ a w ρ h
      · rename_i hi
        simp only [Option.some.injEq, Prod.mk.injEq] at he
        obtain ⟨rfl, rfl⟩ := he
        exact ih _ _ _ _ _ _ _ _ _ _ hb h3 hs fun a w ρ h => by
          simp only [exitOf, Exit.inBlock, hi, if_false]; exact hQ a w ρ h
    · rename_i hne
      refine ih _ _ _ _ _ _ _ _ _ _ hb he hs fun a w ρ h => ?_
      have := hQ a w ρ h
      cases ex with
      | normal => exact this
      | exit id' => exact absurd he (hne id' st')
      | ret => exact this
  | loop b ih =>
    intro h h' ic st st' ex a w ρ Q ht he hs hQ
    simp only [trC, Option.map_eq_some_iff, Prod.mk.injEq] at ht
    obtain ⟨⟨ib, h1⟩, hb, rfl, rfl⟩ := ht
    simp only [evC] at he
    have key : ∀ (n : Nat) (st : St) (a : Act) (w : World) (ρ : Rho), iter (fun st => evC call an self k ib (gc (h.headD []) st)) n st = some (ex, st') → Sim nt w0 O ρ0 B0 st a w ρ → Code.rounds P b Q n a w := by
      intro n
      induction n with
      | zero => intro st a w ρ h _; simp [iter] at h
      | succ n ihn =>
        intro st a w ρ hi hs
        simp only [iter] at hi
        rw [rounds_succ]
        obtain ⟨ρ', hs'⟩ := hs.gc (h.headD [])
        split at hi
        · rename_i st1 h3
          exact ih _ _ _ _ _ _ _ _ _ _ hb h3 hs' fun a w ρ h => ihn st1 a w ρ hi h
        · rename_i hne
          refine ih _ _ _ _ _ _ _ _ _ _ hb hi hs' fun a w ρ h => ?_
          have := hQ a w ρ h
          cases ex with
          | normal => exact absurd hi (hne st')
          | exit id => exact this
          | ret => exact this
    exact wp_loop_rounds k (key k st a w ρ he hs)
  | exit id =>
    intro h h' ic st st' ex a w ρ Q ht he hs hQ
    simp only [trC, Option.some.injEq, Prod.mk.injEq] at ht
    obtain ⟨rfl, rfl⟩ := ht
    simp only [evC, Option.some.injEq, Prod.mk.injEq] at he
    obtain ⟨rfl, rfl⟩ := he
    exact wp_exit (hQ a w ρ hs)
  | ret =>
    intro h h' ic st st' ex a w ρ Q ht he hs hQ
    simp only [trC, Option.some.injEq, Prod.mk.injEq] at ht
    obtain ⟨rfl, rfl⟩ := ht
    simp only [evC, Option.some.injEq, Prod.mk.injEq] at he
    obtain ⟨rfl, rfl⟩ := he
    exact wp_ret (hQ a w ρ hs)
  | _ => intro h h' ic st st' ex a w ρ Q ht; simp [trC] at ht
theorem res_run {nt : Nat} {w0 : World} {ρ0 : Rho} {B0 : List Ent} {st : St} {a : Act} (hs : Sim nt w0 O ρ0 B0 st a w ρ) {r : ResultVar} {ir : IRes} {s : SV} (ht : trRes P nt r = some ir) (he : evRes st.env st.B st.L ir = some s) :
    ∃ v, (match r with | .tmp t => pure (a.tmps.getD t undef) | .cell c t => do loadVar t (← asAddr (a.tmps.getD c undef)) : Sem Value).run P w = .ok v w ∧ SvRel w (Av O ρ st.B st.L) ρ st.B st.L v s := by
  unfold trRes at ht
  split at ht
  · split at ht
    · injection ht with ht; subst ht
      simp only [evRes] at he
      split at he
      · cases he
      · injection he with he; subst he
        exact ⟨_, rfl, hs.env _⟩
    · cases ht
  · rename_i t ty
    split at ht
    · simp only [Option.bind_eq_some_iff, Option.map_eq_some_iff] at ht
      obtain ⟨ag, h1, n, h2, rfl⟩ := ht
      simp only [evRes] at he
      split at he
      · rename_i id sz i c hg
        have hr := hs.env t
        rw [hg] at hr
        obtain ⟨_, hv⟩ := hr
        have key : ∀ sz2 xs, (ent st.B st.L id = .own sz2 xs ∨ ent st.B st.L id = .frz sz2 xs) → (if sz = sz2 then (xs[i]?).bind fun y => (ldElem ag n c y).map SV.fv else none) = some s →
            ∃ v, ((do loadVar ty (← asAddr (a.tmps.getD t undef))) : Sem Value).run P w = .ok v w ∧ SvRel w (Av O ρ st.B st.L) ρ st.B st.L v s := by
          intro sz2 xs hen h
          split at h
          · rename_i hsz; subst hsz
            simp only [Option.bind_eq_some_iff, Option.map_eq_some_iff] at h
            obtain ⟨x, hx, z, hz, rfl⟩ := h
            obtain ⟨k1, k2, k3⟩ := entRd hs.heap hen
            obtain ⟨u, hu1, hu2⟩ := load_elem (P := P) h1 h2 k2 k3 hx hz
            refine ⟨u, ?_, hu2⟩
            simp only [hv, asAddr, Sem.run_bind, Sem.run_pure, Result.andThen_ok]
            exact hu1
          · cases h
        split at he
        · rename_i sz2 xs hen; exact key _ _ (.inl hen) he
        · rename_i sz2 xs hen; exact key _ _ (.inr hen) he
        · cases he
      · cases he
    · cases ht
theorem ress_run {nt : Nat} {w0 : World} {ρ0 : Rho} {B0 : List Ent} {st : St} {a : Act} (hs : Sim nt w0 O ρ0 B0 st a w ρ) : ∀ (rs : List ResultVar) (irs : List IRes) (ss : List SV), trRess P nt rs = some irs → evRess st.env st.B st.L irs = some ss →
    ∃ vs : List Value, (List.mapM (fun r => match r with | .tmp t => pure (a.tmps.getD t undef) | .cell c t => do loadVar t (← asAddr (a.tmps.getD c undef)) : ResultVar → Sem Value) rs).run P w = .ok vs w ∧ vs.length = ss.length ∧
      ∀ (j : Nat) (v : Value) (s : SV), vs[j]? = some v → ss[j]? = some s → SvRel w (Av O ρ st.B st.L) ρ st.B st.L v s
  | [], irs, ss, h1, h2 => by
    simp only [trRess, Option.some.injEq] at h1; subst h1
    simp only [evRess, Option.some.injEq] at h2; subst h2
    exact ⟨[], rfl, rfl, by simp⟩
  | r :: rs, irs, ss, h1, h2 => by
    simp only [trRess, Option.bind_eq_some_iff, Option.map_eq_some_iff] at h1
    obtain ⟨ir, k1, irs', k2, rfl⟩ := h1
    simp only [evRess, Option.bind_eq_some_iff, Option.map_eq_some_iff] at h2
    obtain ⟨s, k3, ss', k4, rfl⟩ := h2
    obtain ⟨v, hv1, hv2⟩ := res_run hs k1 k3
    obtain ⟨vs, q1, q2, q3⟩ := ress_run hs rs irs' ss' k2 k4
    refine ⟨v :: vs, ?_, by simp [q2], fun j u x hu hx => ?_⟩
    · rw [List.mapM_cons]
      simp only [Sem.run_bind, hv1, Result.andThen_ok, q1, Sem.run_pure]
    · match j with
      | 0 => simp at hu hx; subst hu; subst hx; exact hv2
      | j + 1 => exact q3 j u x (by simpa using hu) (by simpa using hx)
theorem get_argEnv : ∀ (args : List SV) (i t : Nat), Env.get (argEnv i args) t = if i ≤ t then (args[t - i]?).getD .unk else .unk
  | [], i, t => by simp [argEnv, Env.get]
  | s :: r, i, t => by
    simp only [argEnv, Env.get]
    by_cases h : i = t
    · subst h; simp
    · rw [if_neg h, get_argEnv r (i + 1) t]
      by_cases h2 : i + 1 ≤ t
      · rw [if_pos h2, if_pos (by omega), show t - i = t - (i + 1) + 1 from by omega]
        simp
      · rw [if_neg h2, if_neg (by omega)]
def TabOK (P : Program) (fns : FuncId → Option IFn) : Prop := ∀ f fn, fns f = some fn → ∃ F h, P.funcs[f]? = some F ∧ trF P h F = some fn
theorem finish_ok {nt : Nat} {w0 : World} {ρ0 : Rho} {B0 : List Ent} {st : St} {a : Act} (hs : Sim nt w0 O ρ0 B0 st a w ρ) {vs : List Value} {ss : List SV} (hl : vs.length = ss.length)
    (hr : ∀ (j : Nat) (v : Value) (s : SV), vs[j]? = some v → ss[j]? = some s → SvRel w (Av O ρ st.B st.L) ρ st.B st.L v s) {r : SV} {B' L' : List Ent} (h : finish ss st.B st.L = some (r, B', L')) :
    Sim nt w0 O ρ0 B0 ⟨st.env, B', L'⟩ a w ρ ∧ SvRel w (Av O ρ B' L') ρ B' L' (if h : vs.toArray.size = 1 then vs.toArray[0] else .tuple vs.toArray) r := by
  have many : (∀ s, ss ≠ [s]) → ((toFVs (frzs (ss.flatMap SV.ids) st.B st.L).1 (frzs (ss.flatMap SV.ids) st.B st.L).2 ss).map fun xs => (SV.fv (.tup xs), (frzs (ss.flatMap SV.ids) st.B st.L).1, (frzs (ss.flatMap SV.ids) st.B st.L).2)) = some (r, B', L') →
      Sim nt w0 O ρ0 B0 ⟨st.env, B', L'⟩ a w ρ ∧ SvRel w (Av O ρ B' L') ρ B' L' (if h : vs.toArray.size = 1 then vs.toArray[0] else .tuple vs.toArray) r := by
    intro hne h
    obtain ⟨xs, hx, he⟩ := Option.map_eq_some_iff.1 h
    simp only [Prod.mk.injEq] at he
    obtain ⟨rfl, rfl, rfl⟩ := he
    obtain ⟨k1, k2, k3⟩ := frzs_weak (ss.flatMap SV.ids) st.B st.L
    have hx' := Ext.weaken hs.heap k1 k2 k3
    refine ⟨hs.ext hx', ?_⟩
    have hlen : vs.toArray.size ≠ 1 := by
      intro h1
      simp only [List.size_toArray] at h1
      rw [hl] at h1
      match ss, h1 with
      | [s], _ => exact hne s rfl
    rw [dif_neg hlen]
    obtain ⟨c1, c2⟩ := toFVs_rel hx'.heap ss vs xs hx hl (fun j v s hv hs' => hx'.sv (hr j v s hv hs'))
    exact Rd.tup _ _ (by simp [hl, c1]) (fun j v x hv hx => c2 j v x (by simpa [At] using hv) hx)
  unfold finish at h
  split at h
  · rename_i s
    simp only [Option.some.injEq, Prod.mk.injEq] at h
    obtain ⟨rfl, rfl, rfl⟩ := h
    match vs, hl, hr with
    | [v], _, hr => exact ⟨hs, hr 0 v s rfl rfl⟩
  · rename_i hne
    exact many (fun s e => hne s e) h
theorem good_evF {fns : FuncId → Option IFn} {an : Ann} (ht : TabOK P fns) (hm : P.follows .mixedOrders = true) : ∀ k, Good P (evF fns an k)
  | 0 => ⟨fun f args B r B' L' h => by simp [evF] at h, fun f args B r B' L' h => by simp [evF] at h⟩
  | k + 1 => by
    have good := good_evF (an := an) ht hm k
    constructor
    · intro f args B r B' L' h vs w
      simp only [evF, Option.bind_eq_some_iff] at h
      obtain ⟨fn, h1, h⟩ := h
      obtain ⟨F, hints, hF, htr⟩ := ht f fn h1
      simp only [trF, Option.bind_eq_some_iff] at htr
      obtain ⟨c, hc, ⟨b, _⟩, _, rs, _, htr⟩ := htr
      split at htr
      · rename_i hn
        have hname : (F.name == "runtime.NumGoroutine") = false := by simpa using hn.2
        simp only [callFunc, Sem.run_bind, run_program, Result.andThen_ok, hF, hname, Bool.false_eq_true, if_false, hc, Option.isNone_some, Sem.run_pure]
      · cases htr
    · intro f args B r B' L' h w O ρ vs hh hsz hargs
      simp only [evF, Option.bind_eq_some_iff] at h
      obtain ⟨fn, h1, h⟩ := h
      obtain ⟨F, hints, hF, htr⟩ := ht f fn h1
      simp only [trF, Option.bind_eq_some_iff] at htr
      obtain ⟨c, hc, ⟨b, hrest⟩, hb, rs, hrs, htr⟩ := htr
      split at htr
      · rename_i hn
        injection htr with htr
        split at h
        · cases h
        · rename_i hlen
          have hlen' : args.length = fn.nparams := by
            rcases Nat.lt_trichotomy args.length fn.nparams with hlt | he | hlt
            · exact absurd (by omega) hlen
            · exact he
            · exact absurd (by omega) hlen
          subst htr
          simp only at h hlen'
          have hsim : Sim F.ntmps w O ρ B ⟨argEnv 0 args, B, []⟩ { tmps := vs ++ Array.replicate (F.ntmps - vs.size) undef, defers := [] } w ρ := by
            refine ⟨hh, fun t => ?_, ?_, rfl, Chg.refl _ _, fun _ _ => rfl, fun _ _ h => h, rfl, fun b hb ⟨i, hi, e⟩ => hh.notO i hi (e ▸ hb)⟩
            · rw [get_argEnv args 0 t, if_pos (Nat.zero_le _)]
              simp only [Nat.sub_zero]
              cases ha : args[t]? with
              | none => trivial
              | some s =>
                have htl : t < vs.size := by rw [hsz]; exact (List.getElem?_eq_some_iff.1 ha).1
                refine hargs t _ s ?_ ha
                simp only [At, Array.getD_eq_getD_getElem?, Array.getElem?_append_left htl, Array.getElem?_eq_getElem htl, Option.getD_some]
            · simp only [Array.size_append, Array.size_replicate]
              have := hn.1
              omega
          have fin : ∀ st, ((evRess st.env st.B st.L rs).bind fun rs => finish rs st.B st.L) = some (r, B', L') → ∀ a w' ρ', Sim F.ntmps w O ρ B st a w' ρ' →
              ∃ v, (results F a.tmps).run P w' = .ok v w' ∧ ∃ v' ρ'', Ending.returned v = .returned v' ∧ Ext w O ρ B [] w' ρ'' B' L' ∧ SvRel w' (Av O ρ'' B' L') ρ'' B' L' v' r := by
            intro st hst a w' ρ' hs
            simp only [Option.bind_eq_some_iff] at hst
            obtain ⟨ss, hss, hfin⟩ := hst
            obtain ⟨us, q1, q2, q3⟩ := ress_run hs F.results.toList rs ss hrs hss
            obtain ⟨g1, g2⟩ := finish_ok hs q2 q3 hfin
            refine ⟨_, ?_, _, ρ', rfl, ⟨g1.chg, g1.heap, fun id hid => ?_, g1.av, g1.lenB, Nat.zero_le _⟩, g2⟩
            · unfold results
              simp only [Array.mapM_eq_mapM_toList, Sem.run_bind, Sem.run_map]
              erw [q1]
              rfl
            · cases id with
              | b i => exact g1.rho i hid
              | l i => simp [Id.valid] at hid
          refine calls_of_wp hF hc ?_
          split at h
          · rename_i st he
            refine evC_wp good hm k c _ _ _ _ _ _ _ _ _ _ hb he hsim fun a w' ρ' hs => ?_
            obtain ⟨v, h1, h2⟩ := fin st h a w' ρ' hs
            exact ⟨hs.dfr, v, h1, h2⟩
          · rename_i st he
            refine evC_wp good hm k c _ _ _ _ _ _ _ _ _ _ hb he hsim fun a w' ρ' hs => ?_
            obtain ⟨v, h1, h2⟩ := fin st h a w' ρ' hs
            exact ⟨hs.dfr, v, h1, h2⟩
          · cases h
      · cases htr
end
end Go.Ab
namespace Go.Ab
inductive Tr where
  | leaf
  | node (k : Nat) (v : IFn) (l r : Tr)
def Tr.get : Tr → Nat → Option IFn
  | .leaf, _ => none
  | .node k v l r, f => if f = k then some v else if f < k then l.get f else r.get f
def Tr.All (P : Program) : Tr → Prop
  | .leaf => True
  | .node k v l r => (∃ F h, P.funcs[k]? = some F ∧ trF P h F = some v) ∧ l.All P ∧ r.All P
theorem Tr.ok {P : Program} : ∀ (t : Tr), t.All P → TabOK P t.get
  | .leaf, _, f, fn, h => by cases h
  | .node k v l r, ha, f, fn, h => by
    simp only [Tr.get] at h
    split at h
    · rename_i e
      injection h with h
      subst e; subst h
      exact ha.1
    · split at h
      · exact l.ok ha.2.1 f fn h
      · exact r.ok ha.2.2 f fn h
end Go.Ab
namespace Go.Ab
def CLe (c c' : Disp) : Prop := ∀ f args B r, c f args B = some r → c' f args B = some r
section
variable {c c' : Disp}
theorem evQ_cle (h : CLe c c') {o : IOp} {g : Look} {B L : List Ent} {s : SV} (hs : evQ c o g B L = some s) : evQ c' o g B L = some s := by
  cases o <;> simp only [evQ] at hs ⊢ <;> try exact hs
  case call f as =>
    split at hs
    · obtain ⟨xs, h1, h2⟩ := Option.bind_eq_some_iff.1 hs
      split at h2
      · rename_i r B' L' hc
        simp only [h1, Option.bind_some, h _ _ _ _ hc]; exact h2
      · cases h2
    · cases hs
theorem evA_cle (h : CLe c c') {o : IOp} {g : Look} {B L : List Ent} {s : SV × List Ent × List Ent} (hs : evA c o g B L = some s) : evA c' o g B L = some s := by
  have q : ((evQ c o g B L).map fun s => (s, B, L)) = some s → ((evQ c' o g B L).map fun s => (s, B, L)) = some s := by
    intro h'
    obtain ⟨x, h1, h2⟩ := Option.map_eq_some_iff.1 h'
    rw [evQ_cle h h1]; exact congrArg some h2
  cases o <;> simp only [evA] at hs ⊢ <;> first | exact hs | exact q hs
theorem evI_cle (h : CLe c c') {raw : Bool} {g : Look} {f : Opd} {args : List Opd} {B L : List Ent} {s : SV × List Ent × List Ent} (hs : evI c raw g f args B L = some s) : evI c' raw g f args B L = some s := by
  unfold evI at hs ⊢
  obtain ⟨⟨n, as⟩, h1, h2⟩ := Option.bind_eq_some_iff.1 hs
  simp only [h1, Option.bind_some] at h2 ⊢
  split at h2
  · cases h2
  · rename_i hc
    rw [if_neg hc]
    obtain ⟨⟨r, B', L'⟩, h3, h4⟩ := Option.bind_eq_some_iff.1 h2
    rw [h _ _ _ _ h3]; exact h4
theorem evOp_cle (h : CLe c c') {an : Ann} {self : FuncId} {o : IOp} {g : Look} {B L : List Ent} {s : SV × List Ent × List Ent} (hs : evOp c an self o g B L = some s) : evOp c' an self o g B L = some s := by
  cases o <;> simp only [evOp] at hs ⊢ <;> try exact evA_cle h hs
  case call f as =>
    split at hs
    · rename_i hc; rw [if_pos hc]; exact evI_cle h hs
    · rename_i hc; rw [if_neg hc]
      obtain ⟨x, h1, h2⟩ := Option.map_eq_some_iff.1 hs
      rw [evQ_cle h h1]; exact congrArg some h2
theorem evStep_cle (h : CLe c c') {an : Ann} {self : FuncId} {s : IStep} {st st' : St} (hs : evStep c an self s st = some st') : evStep c' an self s st = some st' := by
  have run : ∀ st : St, ((evOp c an self s.op (opd st.env) st.B st.L).map fun (p : SV × List Ent × List Ent) => (⟨putO st.env s.dst p.1, p.2.1, p.2.2⟩ : St)) = some st' →
      ((evOp c' an self s.op (opd st.env) st.B st.L).map fun (p : SV × List Ent × List Ent) => (⟨putO st.env s.dst p.1, p.2.1, p.2.2⟩ : St)) = some st' := by
    intro st h'
    obtain ⟨x, h1, h2⟩ := Option.map_eq_some_iff.1 h'
    rw [evOp_cle h h1]; exact congrArg some h2
  unfold evStep at hs ⊢
  split at hs
  · exact run _ hs
  · rename_i t want hg
    split at hs
    · rename_i b hb
      split at hs
      · rename_i hbw; simp only [hbw, if_true]; exact run _ hs
      · rename_i hbw; simp only [hbw, if_false]; exact hs
    · cases hs
theorem evSteps_cle (h : CLe c c') {an : Ann} {self : FuncId} : ∀ {ss : List IStep} {st st' : St}, evSteps c an self ss st = some st' → evSteps c' an self ss st = some st'
  | [], st, st', hs => hs
  | s :: ss, st, st', hs => by
    simp only [evSteps] at hs ⊢
    obtain ⟨x, h1, h2⟩ := Option.bind_eq_some_iff.1 hs
    rw [evStep_cle h h1]; exact evSteps_cle h h2
theorem evQ2_cle (h : CLe c c') {b : Id → Bool} {o : IOp} {g : Look} {B L : List Ent} {s : SV} (hs : evQ2 c b o g B L = some s) : evQ2 c' b o g B L = some s := evQ_cle h hs
theorem drawQ_cle (h : CLe c c') {B L : List Ent} {cl : List (List Nat)} {al : List (Nat × Nat)} {all : List IStep} {e0 : Env} : ∀ {l : List IStep} {i : Nat} {e e' : Env}, drawQ c B L cl al all e0 i l e = some e' → drawQ c' B L cl al all e0 i l e = some e'
  | [], i, e, e', hs => hs
  | s :: l, i, e, e', hs => by
    simp only [drawQ] at hs ⊢
    have one : ((evQ2 c (mayTurn cl all e0 i) s.op (opd e) B L).bind fun v => (chk (okIds cl al i v) v).bind fun v => drawQ c B L cl al all e0 (i + 1) l (putO e s.dst v)) = some e' →
        ((evQ2 c' (mayTurn cl all e0 i) s.op (opd e) B L).bind fun v => (chk (okIds cl al i v) v).bind fun v => drawQ c' B L cl al all e0 (i + 1) l (putO e s.dst v)) = some e' := by
      intro h'
      obtain ⟨v, h1, h2⟩ := Option.bind_eq_some_iff.1 h'
      obtain ⟨u, h3, h4⟩ := Option.bind_eq_some_iff.1 h2
      simp only [evQ2_cle h h1, Option.bind_some, h3]
      exact drawQ_cle h h4
    split at hs
    · rename_i hc; rw [if_pos hc]; exact drawQ_cle h hs
    · rename_i hc
      rw [if_neg hc]
      split at hs
      · exact one hs
      · rename_i t want hg
        split at hs
        · rename_i b hb
          split at hs
          · rename_i hbw; simp only [hbw, if_true]; exact one hs
          · rename_i hbw; simp only [hbw, if_false]; exact drawQ_cle h hs
        · cases hs
theorem stepS_cle (h : CLe c c') {cl : List (List Nat)} {al : List (Nat × Nat)} {all : List IStep} {e0 : Env} {j : Nat} {s : IStep} {st st' : St} (hs : stepS c cl al all e0 j s st = some st') : stepS c' cl al all e0 j s st = some st' := by
  have one : ((evQ2 c (mayTurn cl all e0 j) s.op (opd st.env) st.B (maskL (hidFor cl al j) st.L)).bind fun v => (chk (okIds cl al j v) v).map fun v => (⟨putO st.env s.dst v, st.B, st.L⟩ : St)) = some st' →
      ((evQ2 c' (mayTurn cl all e0 j) s.op (opd st.env) st.B (maskL (hidFor cl al j) st.L)).bind fun v => (chk (okIds cl al j v) v).map fun v => (⟨putO st.env s.dst v, st.B, st.L⟩ : St)) = some st' := by
    intro h'
    obtain ⟨v, h1, h2⟩ := Option.bind_eq_some_iff.1 h'
    rw [evQ2_cle h h1]; exact h2
  unfold stepS at hs ⊢
  split at hs
  · rename_i hc
    rw [if_pos hc]
    obtain ⟨v, h1, h2⟩ := Option.bind_eq_some_iff.1 hs
    rw [evA_cle h h1]; exact h2
  · rename_i hc
    rw [if_neg hc]
    split at hs
    · rename_i hl
      rw [if_pos hl]
      split at hs
      · exact one hs
      · rename_i t want hg
        split at hs
        · rename_i b hb
          split at hs
          · rename_i hbw; simp only [hbw, if_true]; exact one hs
          · rename_i hbw; simp only [hbw, if_false]; exact hs
        · cases hs
    · rename_i hl; rw [if_neg hl]; exact hs
theorem drawS_cle (h : CLe c c') {cl : List (List Nat)} {al : List (Nat × Nat)} {all : List IStep} {e0 : Env} : ∀ {l : List IStep} {j : Nat} {st st' : St}, drawS c cl al all e0 j l st = some st' → drawS c' cl al all e0 j l st = some st'
  | [], j, st, st', hs => hs
  | s :: l, j, st, st', hs => by
    simp only [drawS] at hs ⊢
    obtain ⟨x, h1, h2⟩ := Option.bind_eq_some_iff.1 hs
    rw [stepS_cle h h1]; exact drawS_cle h h2
theorem evDraw_cle (h : CLe c c') {ss : List IStep} {st st' : St} (hs : evDraw c ss st = some st') : evDraw c' ss st = some st' := by
  unfold evDraw at hs ⊢
  simp only at hs ⊢
  split at hs
  · rename_i hc
    rw [if_pos hc]
    obtain ⟨e, h1, h2⟩ := Option.bind_eq_some_iff.1 hs
    rw [drawQ_cle h h1]; exact drawS_cle h h2
  · cases hs
theorem iter_le {f f' : St → Option (IExit × St)} (h : ∀ st r, f st = some r → f' st = some r) : ∀ {n m : Nat} {st : St} {r : IExit × St}, n ≤ m → iter f n st = some r → iter f' m st = some r
  | 0, m, st, r, _, hs => by cases hs
  | n + 1, 0, st, r, hn, hs => by omega
  | n + 1, m + 1, st, r, hn, hs => by
    simp only [iter] at hs ⊢
    cases hf : f st with
    | none => rw [hf] at hs; cases hs
    | some p =>
      rw [hf] at hs
      rw [h _ _ hf]
      obtain ⟨x, st'⟩ := p
      cases x with
      | normal => exact iter_le h (by omega) hs
      | exit i => exact hs
      | ret => exact hs
theorem evC_cle (h : CLe c c') {an : Ann} {self : FuncId} {k k' : Nat} (hk : k ≤ k') : ∀ {x : ICode} {st : St} {r : IExit × St}, evC c an self k x st = some r → evC c' an self k' x st = some r := by
  intro x
  induction x with
  | skip => intro st r hs; exact hs
  | reg keep ss =>
    intro st r hs
    simp only [evC] at hs ⊢
    obtain ⟨y, h1, h2⟩ := Option.map_eq_some_iff.1 hs
    rw [evSteps_cle h h1]; exact congrArg some h2
  | draw keep ss =>
    intro st r hs
    simp only [evC] at hs ⊢
    obtain ⟨y, h1, h2⟩ := Option.map_eq_some_iff.1 hs
    rw [evDraw_cle h h1]; exact congrArg some h2
  | seq a b iha ihb =>
    intro st r hs
    simp only [evC] at hs ⊢
    cases ha : evC c an self k a st with
    | none => rw [ha] at hs; cases hs
    | some p =>
      rw [ha] at hs
      rw [iha ha]
      obtain ⟨x, st'⟩ := p
      cases x with
      | normal => exact ihb hs
      | exit i => exact hs
      | ret => exact hs
  | cond z a b iha ihb =>
    intro st r hs
    simp only [evC] at hs ⊢
    split at hs
    · split at hs
      · rename_i hb; simp only [hb, if_true]; exact iha hs
      · rename_i hb; simp only [hb, if_false]; exact ihb hs
    · cases hs
  | block id b ih =>
    intro st r hs
    simp only [evC] at hs ⊢
    cases hb : evC c an self k b st with
    | none => rw [hb] at hs; cases hs
    | some p => rw [hb] at hs; rw [ih hb]; exact hs
  | loop keep b ih =>
    intro st r hs
    simp only [evC] at hs ⊢
    exact iter_le (fun st r h' => ih h') hk hs
  | exit id => intro st r hs; exact hs
  | ret => intro st r hs; exact hs
end
def evB (fns : FuncId → Option IFn) (an : Ann) (call : Disp) (k : Nat) : Disp := fun f args B =>
  (fns f).bind fun fn =>
    if args.length ≠ fn.nparams then none else
    match evC call an f k fn.body ⟨argEnv 0 args, B, []⟩ with
    | some (.normal, st) | some (.ret, st) => (evRess st.env st.B st.L fn.results).bind fun rs => finish rs st.B st.L
    | _ => none
theorem evF_succ (fns : FuncId → Option IFn) (an : Ann) (k : Nat) : evF fns an (k + 1) = evB fns an (evF fns an k) k := rfl
theorem evB_cle {fns : FuncId → Option IFn} {an : Ann} {c c' : Disp} (h : CLe c c') {k k' : Nat} (hk : k ≤ k') : CLe (evB fns an c k) (evB fns an c' k') := by
  intro f args B r hs
  unfold evB at hs ⊢
  obtain ⟨fn, h1, h2⟩ := Option.bind_eq_some_iff.1 hs
  rw [h1, Option.bind_some]
  split at h2
  · cases h2
  · rename_i hc
    rw [if_neg hc]
    split at h2
    · rename_i st he; rw [evC_cle h hk he]; exact h2
    · rename_i st he; rw [evC_cle h hk he]; exact h2
    · cases h2
theorem evF_le (fns : FuncId → Option IFn) (an : Ann) : ∀ {k k' : Nat}, k ≤ k' → CLe (evF fns an k) (evF fns an k')
  | 0, _, _ => fun f args B r hs => by cases hs
  | k + 1, 0, h => by omega
  | k + 1, k' + 1, h => by
    rw [evF_succ, evF_succ]
    exact evB_cle (evF_le fns an (by omega)) (by omega)
structure Kn where
  f : FuncId
  args : List SV
  B : List Ent
  r : SV × List Ent × List Ent
def Has (fns : FuncId → Option IFn) (an : Ann) (e : Kn) : Prop := ∃ n, evF fns an n e.f e.args e.B = some e.r
mutual
def FV.eqb : FV → FV → Bool
  | .int k n, .int k' n' => decide (k = k') && decide (n = n')
  | .bool b, .bool b' => b == b'
  | .str s, .str s' => s.data.toList == s'.data.toList
  | .agg xs, .agg ys => eqbs xs ys
  | .sl t xs, .sl t' ys => decide (t = t') && eqbs xs ys
  | .fn f a b, .fn f' a' b' => decide (f = f') && (eqbs a a' && eqbs b b')
  | .nilFn, .nilFn => true
  | .ptr x, .ptr y => FV.eqb x y
  | .nilPtr, .nilPtr => true
  | .tup xs, .tup ys => eqbs xs ys
  | .iface t x, .iface t' y => decide (t = t') && FV.eqb x y
  | .nilIface, .nilIface => true
  | _, _ => false
def eqbs : List FV → List FV → Bool
  | [], [] => true
  | x :: xs, y :: ys => FV.eqb x y && eqbs xs ys
  | _, _ => false
end
def Cap.eqb : Cap → Cap → Bool
  | .fz x, .fz y => x.eqb y
  | .own i s, .own i' s' => decide (i = i') && decide (s = s')
  | _, _ => false
def all2 {α : Type} (f : α → α → Bool) : List α → List α → Bool
  | [], [] => true
  | x :: xs, y :: ys => f x y && all2 f xs ys
  | _, _ => false
def SV.eqb : SV → SV → Bool
  | .fv x, .fv y => x.eqb y
  | .ref i a b c d, .ref i' a' b' c' d' => decide (i = i') && (decide (a = a') && (decide (b = b') && (decide (c = c') && d == d')))
  | .ptr i a b c, .ptr i' a' b' c' => decide (i = i') && (decide (a = a') && (decide (b = b') && decide (c = c')))
  | .clo f n cs, .clo f' n' cs' => decide (f = f') && (decide (n = n') && all2 Cap.eqb cs cs')
  | _, _ => false
def Ent.eqb : Ent → Ent → Bool
  | .dead, .dead => true
  | .own s xs, .own s' xs' => decide (s = s') && eqbs xs xs'
  | .frz s xs, .frz s' xs' => decide (s = s') && eqbs xs xs'
  | _, _ => false
theorem bytes_eq {a b : ByteArray} (h : a.data.toList = b.data.toList) : a = b := by
  cases a; cases b
  simp only [ByteArray.mk.injEq]
  exact Array.toList_inj.1 h
mutual
theorem FV.eqb_eq : ∀ (x y : FV), x.eqb y = true → x = y
  | .int k n, y, h => by cases y <;> simp [FV.eqb] at h; rw [h.1, h.2]
  | .bool b, y, h => by cases y <;> simp [FV.eqb] at h; rw [h]
  | .str s, y, h => by
    cases y <;> simp only [FV.eqb, beq_iff_eq, Bool.false_eq_true] at h
    rw [bytes_eq h]
  | .agg xs, y, h => by cases y <;> simp [FV.eqb] at h; rw [eqbs_eq _ _ h]
  | .sl t xs, y, h => by cases y <;> simp [FV.eqb] at h; rw [h.1, eqbs_eq _ _ h.2]
  | .fn f a b, y, h => by cases y <;> simp [FV.eqb] at h; rw [h.1, eqbs_eq _ _ h.2.1, eqbs_eq _ _ h.2.2]
  | .nilFn, y, h => by cases y <;> simp [FV.eqb] at h; rfl
  | .ptr x, y, h => by cases y <;> simp [FV.eqb] at h; rw [FV.eqb_eq _ _ h]
  | .nilPtr, y, h => by cases y <;> simp [FV.eqb] at h; rfl
  | .tup xs, y, h => by cases y <;> simp [FV.eqb] at h; rw [eqbs_eq _ _ h]
  | .iface t x, y, h => by cases y <;> simp [FV.eqb] at h; rw [h.1, FV.eqb_eq _ _ h.2]
  | .nilIface, y, h => by cases y <;> simp [FV.eqb] at h; rfl
theorem eqbs_eq : ∀ (xs ys : List FV), eqbs xs ys = true → xs = ys
  | [], ys, h => by cases ys <;> simp [eqbs] at h; rfl
  | x :: xs, ys, h => by
    cases ys with
    | nil => simp [eqbs] at h
    | cons y ys => simp [eqbs] at h; rw [FV.eqb_eq _ _ h.1, eqbs_eq _ _ h.2]
end
theorem all2_eq {α : Type} {f : α → α → Bool} (hf : ∀ x y, f x y = true → x = y) : ∀ (xs ys : List α), all2 f xs ys = true → xs = ys
  | [], ys, h => by cases ys <;> simp [all2] at h; rfl
  | x :: xs, ys, h => by
    cases ys with
    | nil => simp [all2] at h
    | cons y ys => simp [all2] at h; rw [hf _ _ h.1, all2_eq hf _ _ h.2]
theorem Cap.eqb_eq (x y : Cap) (h : x.eqb y = true) : x = y := by
  cases x <;> cases y <;> simp [Cap.eqb] at h
  · rw [FV.eqb_eq _ _ h]
  · rw [h.1, h.2]
theorem SV.eqb_eq (x y : SV) (h : x.eqb y = true) : x = y := by
  cases x <;> cases y <;> simp [SV.eqb] at h
  · rw [FV.eqb_eq _ _ h]
  · simp [h]
  · simp [h]
  · rw [h.1, h.2.1, all2_eq Cap.eqb_eq _ _ h.2.2]
theorem Ent.eqb_eq (x y : Ent) (h : x.eqb y = true) : x = y := by
  cases x <;> cases y <;> simp [Ent.eqb] at h
  · rfl
  · rw [h.1, eqbs_eq _ _ h.2]
  · rw [h.1, eqbs_eq _ _ h.2]
def look : List Kn → Disp
  | [], _, _, _ => none
  | e :: T, f, args, B => if decide (e.f = f) && (all2 SV.eqb e.args args && all2 Ent.eqb e.B B) then some e.r else look T f args B
def HasAll (fns : FuncId → Option IFn) (an : Ann) : List Kn → Prop
  | [] => True
  | e :: T => Has fns an e ∧ HasAll fns an T
theorem look_has {fns : FuncId → Option IFn} {an : Ann} : ∀ {T : List Kn}, HasAll fns an T → ∃ n, CLe (look T) (evF fns an n)
  | [], _ => ⟨0, fun f args B r h => by cases h⟩
  | e :: T, h => by
    obtain ⟨⟨n, hn⟩, h2⟩ := h
    obtain ⟨m, hm⟩ := look_has h2
    refine ⟨max n m, fun f args B r h => ?_⟩
    simp only [look] at h
    split at h
    · rename_i hc
      simp only [Bool.and_eq_true, decide_eq_true_eq] at hc
      obtain ⟨rfl, h1, h2⟩ := hc
      rw [← all2_eq SV.eqb_eq _ _ h1, ← all2_eq Ent.eqb_eq _ _ h2]
      injection h with h; subst h
      exact evF_le fns an (Nat.le_max_left _ _) _ _ _ _ hn
    · exact evF_le fns an (Nat.le_max_right _ _) _ _ _ _ (hm _ _ _ _ h)
theorem Has.of {fns : FuncId → Option IFn} {an : Ann} {e : Kn} (T : List Kn) (hT : HasAll fns an T) (k : Nat) (h : evB fns an (look T) k e.f e.args e.B = some e.r) : Has fns an e := by
  obtain ⟨n, hn⟩ := look_has hT
  refine ⟨max n k + 1, ?_⟩
  rw [evF_succ]
  refine evB_cle (fun f args B r h => evF_le fns an (Nat.le_max_left n k) f args B r (hn f args B r h)) (Nat.le_max_right _ _) _ _ _ _ h
end Go.Ab
namespace Go.Ab
open Classical in
noncomputable def lim (fns : FuncId → Option IFn) (an : Ann) : Disp := fun f args B =>
  if h : ∃ r n, evF fns an n f args B = some r then some h.choose else none
section
variable {fns : FuncId → Option IFn} {an : Ann}
theorem evF_det {n m : Nat} {f : FuncId} {args : List SV} {B : List Ent} {r r' : SV × List Ent × List Ent} (h : evF fns an n f args B = some r) (k : evF fns an m f args B = some r') : r = r' := by
  have h1 := evF_le fns an (Nat.le_max_left n m) _ _ _ _ h
  have h2 := evF_le fns an (Nat.le_max_right n m) _ _ _ _ k
  rw [h1] at h2; injection h2
theorem lim_iff {f : FuncId} {args : List SV} {B : List Ent} {r : SV × List Ent × List Ent} : lim fns an f args B = some r ↔ ∃ n, evF fns an n f args B = some r := by
  unfold lim
  constructor
  · intro h
    split at h
    · rename_i hx
      injection h with h
      rw [← h]; exact hx.choose_spec
    · cases h
  · rintro ⟨n, hn⟩
    have hx : ∃ r n, evF fns an n f args B = some r := ⟨r, n, hn⟩
    rw [dif_pos hx]
    obtain ⟨m, hm⟩ := hx.choose_spec
    rw [evF_det hm hn]
theorem lim_has {e : Kn} (h : Has fns an e) : lim fns an e.f e.args e.B = some e.r := lim_iff.2 h
theorem le_lim (n : Nat) : CLe (evF fns an n) (lim fns an) := fun f args B r h => lim_iff.2 ⟨n, h⟩
def En {α : Type} (F : Disp → Option α) (fns : FuncId → Option IFn) (an : Ann) (y : α) : Prop := ∃ n, ∀ m, n ≤ m → F (evF fns an m) = some y
theorem evQ_en {o : IOp} {g : Look} {B L : List Ent} {s : SV} (hs : evQ (lim fns an) o g B L = some s) : En (fun c => evQ c o g B L) fns an s := by
  cases o <;> simp only [evQ, En] at hs ⊢ <;> try exact ⟨0, fun m _ => hs⟩
  case call f as =>
    split at hs
    · obtain ⟨xs, h1, h2⟩ := Option.bind_eq_some_iff.1 hs
      split at h2
      · rename_i r B' L' hc
        obtain ⟨n, hn⟩ := lim_iff.1 hc
        refine ⟨n, fun m hm => ?_⟩
        simp only [h1, Option.bind_some, evF_le fns an hm _ _ _ _ hn]; exact h2
      · cases h2
    · cases hs
theorem evQ_none {o : IOp} {g : Look} {B L : List Ent} (hs : evQ (lim fns an) o g B L = none) (n : Nat) : evQ (evF fns an n) o g B L = none := by
  cases h : evQ (evF fns an n) o g B L with
  | none => rfl
  | some v => rw [evQ_cle (le_lim n) h] at hs; cases hs
theorem evA_en {o : IOp} {g : Look} {B L : List Ent} {s : SV × List Ent × List Ent} (hs : evA (lim fns an) o g B L = some s) : En (fun c => evA c o g B L) fns an s := by
  have q : ((evQ (lim fns an) o g B L).map fun s => (s, B, L)) = some s → ∃ n, ∀ m, n ≤ m → ((evQ (evF fns an m) o g B L).map fun s => (s, B, L)) = some s := by
    intro h'
    obtain ⟨x, h1, h2⟩ := Option.map_eq_some_iff.1 h'
    obtain ⟨n, hn⟩ := evQ_en h1
    exact ⟨n, fun m hm => by have a1 := hn m hm; simp only at a1; rw [a1]; exact congrArg some h2⟩
  cases o <;> simp only [evA, En] at hs ⊢ <;> first | exact ⟨0, fun m _ => hs⟩ | exact q hs
theorem evI_en {raw : Bool} {g : Look} {f : Opd} {args : List Opd} {B L : List Ent} {s : SV × List Ent × List Ent} (hs : evI (lim fns an) raw g f args B L = some s) : En (fun c => evI c raw g f args B L) fns an s := by
  unfold En evI at *
  obtain ⟨⟨k, as⟩, h1, h2⟩ := Option.bind_eq_some_iff.1 hs
  simp only [h1, Option.bind_some] at h2 ⊢
  split at h2
  · cases h2
  · rename_i hc
    obtain ⟨⟨r, B', L'⟩, h3, h4⟩ := Option.bind_eq_some_iff.1 h2
    obtain ⟨n, hn⟩ := lim_iff.1 h3
    refine ⟨n, fun m hm => ?_⟩
    rw [if_neg hc, evF_le fns an hm _ _ _ _ hn]; exact h4
theorem evOp_en {self : FuncId} {o : IOp} {g : Look} {B L : List Ent} {s : SV × List Ent × List Ent} (hs : evOp (lim fns an) an self o g B L = some s) : En (fun c => evOp c an self o g B L) fns an s := by
  cases o <;> simp only [evOp, En] at hs ⊢ <;> try exact evA_en hs
  case call f as =>
    split at hs
    · rename_i hc; simp only [hc, if_true]; exact evI_en hs
    · rename_i hc
      obtain ⟨x, h1, h2⟩ := Option.map_eq_some_iff.1 hs
      obtain ⟨n, hn⟩ := evQ_en h1
      refine ⟨n, fun m hm => ?_⟩
      have a1 := hn m hm
      simp only at a1
      rw [if_neg hc, a1]; exact congrArg some h2
theorem evStep_en {self : FuncId} {s : IStep} {st st' : St} (hs : evStep (lim fns an) an self s st = some st') : En (fun c => evStep c an self s st) fns an st' := by
  have run : ∀ st : St, ((evOp (lim fns an) an self s.op (opd st.env) st.B st.L).map fun (p : SV × List Ent × List Ent) => (⟨putO st.env s.dst p.1, p.2.1, p.2.2⟩ : St)) = some st' →
      ∃ n, ∀ m, n ≤ m → ((evOp (evF fns an m) an self s.op (opd st.env) st.B st.L).map fun (p : SV × List Ent × List Ent) => (⟨putO st.env s.dst p.1, p.2.1, p.2.2⟩ : St)) = some st' := by
    intro st h'
    obtain ⟨x, h1, h2⟩ := Option.map_eq_some_iff.1 h'
    obtain ⟨n, hn⟩ := evOp_en h1
    exact ⟨n, fun m hm => by have a1 := hn m hm; simp only at a1; rw [a1]; exact congrArg some h2⟩
  unfold En evStep at *
  split at hs
  · exact run _ hs
  · rename_i t want hg
    split at hs
    · rename_i b hb
      split at hs
      · rename_i hbw; simp only [hbw, if_true]; exact run _ hs
      · rename_i hbw; simp only [hbw, if_false]; exact ⟨0, fun m _ => hs⟩
    · cases hs
theorem evSteps_en {self : FuncId} : ∀ {ss : List IStep} {st st' : St}, evSteps (lim fns an) an self ss st = some st' → En (fun c => evSteps c an self ss st) fns an st'
  | [], st, st', hs => ⟨0, fun m _ => hs⟩
  | s :: ss, st, st', hs => by
    simp only [evSteps] at hs
    obtain ⟨x, h1, h2⟩ := Option.bind_eq_some_iff.1 hs
    obtain ⟨n, hn⟩ := evStep_en h1
    obtain ⟨k, hk⟩ := evSteps_en h2
    refine ⟨max n k, fun m hm => ?_⟩
    have := hn m (by omega)
    have h3 := hk m (by omega)
    simp only at this h3
    simp only [evSteps]
    rw [this]; exact h3
theorem evQ2_en {b : Id → Bool} {o : IOp} {g : Look} {B L : List Ent} {s : SV} (hs : evQ2 (lim fns an) b o g B L = some s) : En (fun c => evQ2 c b o g B L) fns an s := evQ_en hs
theorem drawQ_en {B L : List Ent} {cl : List (List Nat)} {al : List (Nat × Nat)} {all : List IStep} {e0 : Env} : ∀ {l : List IStep} {i : Nat} {e e' : Env}, drawQ (lim fns an) B L cl al all e0 i l e = some e' → En (fun c => drawQ c B L cl al all e0 i l e) fns an e'
  | [], i, e, e', hs => ⟨0, fun m _ => hs⟩
  | s :: l, i, e, e', hs => by
    have one : ((evQ2 (lim fns an) (mayTurn cl all e0 i) s.op (opd e) B L).bind fun v => (chk (okIds cl al i v) v).bind fun v => drawQ (lim fns an) B L cl al all e0 (i + 1) l (putO e s.dst v)) = some e' →
        ∃ n, ∀ m, n ≤ m → ((evQ2 (evF fns an m) (mayTurn cl all e0 i) s.op (opd e) B L).bind fun v => (chk (okIds cl al i v) v).bind fun v => drawQ (evF fns an m) B L cl al all e0 (i + 1) l (putO e s.dst v)) = some e' := by
      intro h'
      obtain ⟨v, h1, h2⟩ := Option.bind_eq_some_iff.1 h'
      obtain ⟨u, h3, h4⟩ := Option.bind_eq_some_iff.1 h2
      obtain ⟨n, hn⟩ := evQ2_en h1
      obtain ⟨k, hk⟩ := drawQ_en h4
      refine ⟨max n k, fun m hm => ?_⟩
      have a1 := hn m (by omega)
      have a2 := hk m (by omega)
      simp only at a1 a2
      simp only [a1, Option.bind_some, h3]
      exact a2
    simp only [drawQ, En] at hs ⊢
    split at hs
    · rename_i hc; simp only [hc, if_true]; exact drawQ_en hs
    · rename_i hc
      simp only [hc, if_false]
      split at hs
      · exact one hs
      · rename_i t want hg
        split at hs
        · rename_i b hb
          split at hs
          · rename_i hbw; simp only [hbw, if_true]; exact one hs
          · rename_i hbw; simp only [hbw, if_false]; exact drawQ_en hs
        · cases hs
theorem stepS_en {cl : List (List Nat)} {al : List (Nat × Nat)} {all : List IStep} {e0 : Env} {j : Nat} {s : IStep} {st st' : St} (hs : stepS (lim fns an) cl al all e0 j s st = some st') : En (fun c => stepS c cl al all e0 j s st) fns an st' := by
  have one : ((evQ2 (lim fns an) (mayTurn cl all e0 j) s.op (opd st.env) st.B (maskL (hidFor cl al j) st.L)).bind fun v => (chk (okIds cl al j v) v).map fun v => (⟨putO st.env s.dst v, st.B, st.L⟩ : St)) = some st' →
      ∃ n, ∀ m, n ≤ m → ((evQ2 (evF fns an m) (mayTurn cl all e0 j) s.op (opd st.env) st.B (maskL (hidFor cl al j) st.L)).bind fun v => (chk (okIds cl al j v) v).map fun v => (⟨putO st.env s.dst v, st.B, st.L⟩ : St)) = some st' := by
    intro h'
    obtain ⟨v, h1, h2⟩ := Option.bind_eq_some_iff.1 h'
    obtain ⟨n, hn⟩ := evQ2_en h1
    exact ⟨n, fun m hm => by have a1 := hn m hm; simp only at a1; rw [a1]; exact h2⟩
  unfold En stepS at *
  split at hs
  · rename_i hc
    obtain ⟨v, h1, h2⟩ := Option.bind_eq_some_iff.1 hs
    obtain ⟨n, hn⟩ := evA_en h1
    refine ⟨n, fun m hm => ?_⟩
    have := hn m hm
    dsimp only at this ⊢
    rw [if_pos hc, this]; exact h2
  · rename_i hc
    split at hs
    · rename_i hl
      split at hs
      · obtain ⟨n, hn⟩ := one hs
        exact ⟨n, fun m hm => by dsimp only; rw [if_neg hc, if_pos hl]; exact hn m hm⟩
      · rename_i t want hg
        split at hs
        · rename_i b hb
          split at hs
          · rename_i hbw
            obtain ⟨n, hn⟩ := one hs
            exact ⟨n, fun m hm => by dsimp only; rw [if_neg hc, if_pos hl]; simp only [hbw, if_true]; exact hn m hm⟩
          · rename_i hbw
            exact ⟨0, fun m _ => by dsimp only; rw [if_neg hc, if_pos hl]; simp only [hbw, if_false]; exact hs⟩
        · cases hs
    · rename_i hl; exact ⟨0, fun m _ => by dsimp only; rw [if_neg hc, if_neg hl]; exact hs⟩
theorem drawS_en {cl : List (List Nat)} {al : List (Nat × Nat)} {all : List IStep} {e0 : Env} : ∀ {l : List IStep} {j : Nat} {st st' : St}, drawS (lim fns an) cl al all e0 j l st = some st' → En (fun c => drawS c cl al all e0 j l st) fns an st'
  | [], j, st, st', hs => ⟨0, fun m _ => hs⟩
  | s :: l, j, st, st', hs => by
    simp only [drawS] at hs
    obtain ⟨x, h1, h2⟩ := Option.bind_eq_some_iff.1 hs
    obtain ⟨n, hn⟩ := stepS_en h1
    obtain ⟨k, hk⟩ := drawS_en h2
    refine ⟨max n k, fun m hm => ?_⟩
    have a1 := hn m (by omega)
    have a2 := hk m (by omega)
    simp only at a1 a2
    simp only [drawS]
    rw [a1]; exact a2
theorem evDraw_en {ss : List IStep} {st st' : St} (hs : evDraw (lim fns an) ss st = some st') : En (fun c => evDraw c ss st) fns an st' := by
  unfold En evDraw at *
  simp only at hs ⊢
  split at hs
  · rename_i hc
    obtain ⟨e, h1, h2⟩ := Option.bind_eq_some_iff.1 hs
    obtain ⟨n, hn⟩ := drawQ_en h1
    obtain ⟨k, hk⟩ := drawS_en h2
    refine ⟨max n k, fun m hm => ?_⟩
    have a1 := hn m (by omega)
    have a2 := hk m (by omega)
    simp only at a1 a2
    rw [if_pos hc, a1]; exact a2
  · cases hs
theorem iter_en {F : Disp → St → Option (IExit × St)} (h : ∀ st r, F (lim fns an) st = some r → En (fun c => F c st) fns an r) : ∀ {k : Nat} {st : St} {r : IExit × St}, iter (F (lim fns an)) k st = some r → En (fun c => iter (F c) k st) fns an r
  | 0, st, r, hs => by cases hs
  | k + 1, st, r, hs => by
    simp only [iter] at hs
    cases hf : F (lim fns an) st with
    | none => rw [hf] at hs; cases hs
    | some p =>
      rw [hf] at hs
      obtain ⟨n, hn⟩ := h _ _ hf
      obtain ⟨x, st'⟩ := p
      cases x with
      | normal =>
        obtain ⟨l, hl⟩ := iter_en h hs
        refine ⟨max n l, fun m hm => ?_⟩
        have a1 := hn m (by omega)
        have a2 := hl m (by omega)
        simp only at a1 a2
        simp only [iter, a1]; exact a2
      | exit i =>
        refine ⟨n, fun m hm => ?_⟩
        have a1 := hn m hm
        simp only at a1
        simp only [iter, a1]; exact hs
      | ret =>
        refine ⟨n, fun m hm => ?_⟩
        have a1 := hn m hm
        simp only at a1
        simp only [iter, a1]; exact hs
theorem evC_en {self : FuncId} {k : Nat} : ∀ {x : ICode} {st : St} {r : IExit × St}, evC (lim fns an) an self k x st = some r → En (fun c => evC c an self k x st) fns an r := by
  intro x
  induction x with
  | skip => intro st r hs; exact ⟨0, fun m _ => hs⟩
  | reg keep ss =>
    intro st r hs
    simp only [evC, En] at hs ⊢
    obtain ⟨y, h1, h2⟩ := Option.map_eq_some_iff.1 hs
    obtain ⟨n, hn⟩ := evSteps_en h1
    exact ⟨n, fun m hm => by have := hn m hm; simp only at this; rw [this]; exact congrArg some h2⟩
  | draw keep ss =>
    intro st r hs
    simp only [evC, En] at hs ⊢
    obtain ⟨y, h1, h2⟩ := Option.map_eq_some_iff.1 hs
    obtain ⟨n, hn⟩ := evDraw_en h1
    exact ⟨n, fun m hm => by have := hn m hm; simp only at this; rw [this]; exact congrArg some h2⟩
  | seq a b iha ihb =>
    intro st r hs
    simp only [evC, En] at hs ⊢
    cases ha : evC (lim fns an) an self k a st with
    | none => rw [ha] at hs; cases hs
    | some p =>
      rw [ha] at hs
      obtain ⟨n, hn⟩ := iha ha
      obtain ⟨x, st'⟩ := p
      cases x with
      | normal =>
        obtain ⟨l, hl⟩ := ihb hs
        refine ⟨max n l, fun m hm => ?_⟩
        have a1 := hn m (by omega)
        have a2 := hl m (by omega)
        simp only at a1 a2
        rw [a1]; exact a2
      | exit i => exact ⟨n, fun m hm => by have a1 := hn m hm; simp only at a1; rw [a1]; exact hs⟩
      | ret => exact ⟨n, fun m hm => by have a1 := hn m hm; simp only at a1; rw [a1]; exact hs⟩
  | cond z a b iha ihb =>
    intro st r hs
    simp only [evC, En] at hs ⊢
    split at hs
    · split at hs
      · rename_i hb; simp only [hb, if_true]; exact iha hs
      · rename_i hb; simp only [hb, if_false]; exact ihb hs
    · cases hs
  | block id b ih =>
    intro st r hs
    simp only [evC, En] at hs ⊢
    cases hb : evC (lim fns an) an self k b st with
    | none => rw [hb] at hs; cases hs
    | some p =>
      rw [hb] at hs
      obtain ⟨n, hn⟩ := ih hb
      exact ⟨n, fun m hm => by have a1 := hn m hm; simp only at a1; rw [a1]; exact hs⟩
  | loop keep b ih =>
    intro st r hs
    simp only [evC] at hs
    exact iter_en (F := fun c st => evC c an self k b (gc keep st)) (fun st r h' => ih h') hs
  | exit id => intro st r hs; exact ⟨0, fun m _ => hs⟩
  | ret => intro st r hs; exact ⟨0, fun m _ => hs⟩
theorem lim_of_body {k : Nat} {f : FuncId} {args : List SV} {B : List Ent} {r : SV × List Ent × List Ent} (hs : evB fns an (lim fns an) k f args B = some r) : lim fns an f args B = some r := by
  have : ∃ n, evB fns an (evF fns an n) k f args B = some r := by
    unfold evB at hs ⊢
    obtain ⟨fn, h1, h2⟩ := Option.bind_eq_some_iff.1 hs
    simp only [h1, Option.bind_some]
    split at h2
    · cases h2
    · rename_i hc
      simp only [hc, if_false]
      split at h2
      · rename_i st he
        obtain ⟨n, hn⟩ := evC_en he
        exact ⟨n, by have a1 := hn n (Nat.le_refl _); simp only at a1; rw [a1]; exact h2⟩
      · rename_i st he
        obtain ⟨n, hn⟩ := evC_en he
        exact ⟨n, by have a1 := hn n (Nat.le_refl _); simp only at a1; rw [a1]; exact h2⟩
      · cases h2
  obtain ⟨n, hn⟩ := this
  refine lim_iff.2 ⟨max n k + 1, ?_⟩
  rw [evF_succ]
  exact evB_cle (evF_le fns an (Nat.le_max_left n k)) (Nat.le_max_right n k) _ _ _ _ hn
theorem has_of_lim {e : Kn} (h : lim fns an e.f e.args e.B = some e.r) : Has fns an e := lim_iff.1 h
end
end Go.Ab
namespace Go.Ab
open Classical in
noncomputable def iterW (f : St → Option (IExit × St)) : St → Option (IExit × St) := fun st =>
  if h : ∃ r n, iter f n st = some r then some h.choose else none
theorem iter_det {f : St → Option (IExit × St)} {n m : Nat} {st : St} {r r' : IExit × St} (h : iter f n st = some r) (k : iter f m st = some r') : r = r' := by
  have h1 := iter_le (fun _ _ h => h) (Nat.le_max_left n m) h
  have h2 := iter_le (fun _ _ h => h) (Nat.le_max_right n m) k
  rw [h1] at h2; injection h2
theorem iterW_iff {f : St → Option (IExit × St)} {st : St} {r : IExit × St} : iterW f st = some r ↔ ∃ n, iter f n st = some r := by
  unfold iterW
  constructor
  · intro h
    split at h
    · rename_i hx
      injection h with h
      rw [← h]; exact hx.choose_spec
    · cases h
  · rintro ⟨n, hn⟩
    have hx : ∃ r n, iter f n st = some r := ⟨r, n, hn⟩
    rw [dif_pos hx]
    obtain ⟨m, hm⟩ := hx.choose_spec
    rw [iter_det hm hn]
theorem iterW_step {f : St → Option (IExit × St)} {st : St} {r : IExit × St} (h : (match f st with | some (.normal, st') => iterW f st' | r => r) = some r) : iterW f st = some r := by
  rw [iterW_iff]
  cases hf : f st with
  | none => rw [hf] at h; cases h
  | some p =>
    obtain ⟨x, st'⟩ := p
    rw [hf] at h
    cases x with
    | normal =>
      obtain ⟨n, hn⟩ := iterW_iff.1 h
      exact ⟨n + 1, by simp only [iter, hf]; exact hn⟩
    | exit i => exact ⟨1, by simp only [iter, hf]; exact h⟩
    | ret => exact ⟨1, by simp only [iter, hf]; exact h⟩
noncomputable def evW (fns : FuncId → Option IFn) (an : Ann) (self : FuncId) : ICode → St → Option (IExit × St)
  | .skip, st => some (.normal, st)
  | .reg keep steps, st => (evSteps (lim fns an) an self steps { st with env := st.env.keep keep }).map fun st => (.normal, st)
  | .draw keep steps, st => (evDraw (lim fns an) steps { st with env := st.env.keep keep }).map fun st => (.normal, st)
  | .seq a b, st => match evW fns an self a st with
    | some (.normal, st') => evW fns an self b st'
    | r => r
  | .cond c a b, st => match opd st.env c with
    | .fv (.bool t) => if t then evW fns an self a st else evW fns an self b st
    | _ => none
  | .block id b, st => match evW fns an self b st with
    | some (.exit i, st') => if i = id then some (.normal, st') else some (.exit i, st')
    | r => r
  | .loop keep b, st => iterW (fun st => evW fns an self b (gc keep st)) st
  | .exit id, st => some (.exit id, st)
  | .ret, st => some (.ret, st)
section
variable {fns : FuncId → Option IFn} {an : Ann} {self : FuncId}
theorem evC_up {c : Disp} {k k' : Nat} (hk : k ≤ k') {x : ICode} {st : St} {r : IExit × St} (h : evC c an self k x st = some r) : evC c an self k' x st = some r :=
  evC_cle (fun _ _ _ _ h => h) hk h
theorem evW_evC : ∀ {x : ICode} {st : St} {r : IExit × St}, evW fns an self x st = some r → ∃ k, evC (lim fns an) an self k x st = some r := by
  intro x
  induction x with
  | skip => intro st r hs; exact ⟨0, hs⟩
  | reg keep ss => intro st r hs; exact ⟨0, hs⟩
  | draw keep ss => intro st r hs; exact ⟨0, hs⟩
  | seq a b iha ihb =>
    intro st r hs
    simp only [evW] at hs
    cases ha : evW fns an self a st with
    | none => rw [ha] at hs; cases hs
    | some p =>
      rw [ha] at hs
      obtain ⟨n, hn⟩ := iha ha
      obtain ⟨x, st'⟩ := p
      cases x with
      | normal =>
        obtain ⟨l, hl⟩ := ihb hs
        exact ⟨max n l, by simp only [evC]; rw [evC_up (Nat.le_max_left n l) hn]; exact evC_up (Nat.le_max_right n l) hl⟩
      | exit i => exact ⟨n, by simp only [evC]; rw [hn]; exact hs⟩
      | ret => exact ⟨n, by simp only [evC]; rw [hn]; exact hs⟩
  | cond z a b iha ihb =>
    intro st r hs
    simp only [evW] at hs
    split at hs
    · rename_i t ht
      split at hs
      · rename_i hb
        obtain ⟨k, hk⟩ := iha hs
        exact ⟨k, by simp only [evC, ht, hb, if_true]; exact hk⟩
      · rename_i hb
        obtain ⟨k, hk⟩ := ihb hs
        exact ⟨k, by simp only [evC, ht, hb, if_false]; exact hk⟩
    · cases hs
  | block id b ih =>
    intro st r hs
    simp only [evW] at hs
    cases hb : evW fns an self b st with
    | none => rw [hb] at hs; cases hs
    | some p =>
      rw [hb] at hs
      obtain ⟨n, hn⟩ := ih hb
      exact ⟨n, by simp only [evC]; rw [hn]; exact hs⟩
  | loop keep b ih =>
    intro st r hs
    simp only [evW] at hs
    obtain ⟨n, hn⟩ := iterW_iff.1 hs
    simp only [evC]
    clear hs
    induction n generalizing st with
    | zero => cases hn
    | succ n ihn =>
      simp only [iter] at hn
      cases hb : evW fns an self b (gc keep st) with
      | none => rw [hb] at hn; cases hn
      | some p =>
        rw [hb] at hn
        obtain ⟨k, hk⟩ := ih hb
        obtain ⟨x, st'⟩ := p
        cases x with
        | normal =>
          obtain ⟨l, hl⟩ := ihn hn
          refine ⟨max k l + 1, ?_⟩
          simp only [iter]
          rw [evC_up (k' := max k l + 1) (by omega) hk]
          refine iter_le (fun st r h => evC_up (by omega) h) ?_ hl
          omega
        | exit i => exact ⟨k + 1, by simp only [iter]; rw [evC_up (Nat.le_succ k) hk]; exact hn⟩
        | ret => exact ⟨k + 1, by simp only [iter]; rw [evC_up (Nat.le_succ k) hk]; exact hn⟩
  | exit id => intro st r hs; exact ⟨0, hs⟩
  | ret => intro st r hs; exact ⟨0, hs⟩
noncomputable def evL (fns : FuncId → Option IFn) (an : Ann) (self : FuncId) (keep : List Nat) (b : ICode) (st : St) : Option (IExit × St) :=
  match evW fns an self b st with
  | some (.normal, st') => iterW (fun st => evW fns an self b (gc keep st)) st'
  | r => r
theorem evW_loop {keep : List Nat} {b : ICode} {st : St} {r : IExit × St} (h : evL fns an self keep b (gc keep st) = some r) : evW fns an self (.loop keep b) st = some r := by
  simp only [evW]
  exact iterW_step h
theorem evL_step {keep : List Nat} {b : ICode} {st : St} {r : IExit × St} (h : (match evW fns an self b st with
    | some (.normal, st') => evL fns an self keep b (gc keep st')
    | r => r) = some r) : evL fns an self keep b st = some r := by
  unfold evL
  cases hb : evW fns an self b st with
  | none => rw [hb] at h; cases h
  | some p =>
    rw [hb] at h
    obtain ⟨x, st'⟩ := p
    cases x with
    | normal => exact iterW_step h
    | exit i => exact h
    | ret => exact h
theorem lim_of {f : FuncId} {fn : IFn} {args : List SV} {B : List Ent} {x : IExit} {st : St} {rs : List SV} {r : SV × List Ent × List Ent} (hf : fns f = some fn) (hl : args.length = fn.nparams)
    (hb : evW fns an f fn.body ⟨argEnv 0 args, B, []⟩ = some (x, st)) (hx : x = .normal ∨ x = .ret) (hrs : evRess st.env st.B st.L fn.results = some rs) (hr : finish rs st.B st.L = some r) :
    lim fns an f args B = some r := by
  obtain ⟨k, hk⟩ := evW_evC hb
  refine lim_of_body (k := k) ?_
  unfold evB
  rw [hf, Option.bind_some, if_neg (by simp [hl]), hk]
  rcases hx with rfl | rfl
  · simp only [hrs, Option.bind_some]; exact hr
  · simp only [hrs, Option.bind_some]; exact hr
def Ret (fns : FuncId → Option IFn) (an : Ann) (f : FuncId) (xs : List FV) (y : FV) : Prop :=
  ∃ r B' L', lim fns an f (xs.map .fv) [] = some (r, B', L') ∧ toFV [] (L'.map Ent.fz) r = some y
theorem evQ_ret {f : FuncId} {xs : List FV} {y : FV} (h : Ret fns an f xs y) {g : Look} {B L : List Ent} {x : Opd} {as : List Opd} {first caps : List FV} (hf : g x = .fv (.fn (.func f) first caps)) {zs : List FV} (ha : toFVs B L (as.map g) = some zs)
    (hx : first ++ zs ++ caps = xs) : evQ (lim fns an) (.call x as) g B L = some (.fv y) := by
  obtain ⟨r, B', L', h1, h2⟩ := h
  simp only [evQ, hf, ha, Option.bind_some, hx, h1, h2, Option.map_some]
end
end Go.Ab
namespace Go.Ab
section
variable {fns : FuncId → Option IFn} {an : Ann} {self : FuncId}
noncomputable def ret (fns : FuncId → Option IFn) (an : Ann) (f : FuncId) (xs : List FV) : Option FV :=
  (lim fns an f (xs.map .fv) []).bind fun r => toFV [] (r.2.2.map Ent.fz) r.1
def Wp (fns : FuncId → Option IFn) (an : Ann) (self : FuncId) (c : ICode) (st : St) (Q : IExit → St → Prop) : Prop :=
  ∃ x st', evW fns an self c st = some (x, st') ∧ Q x st'
def WpS (fns : FuncId → Option IFn) (an : Ann) (self : FuncId) (ss : List IStep) (st : St) (K : St → Prop) : Prop :=
  ∃ st', evSteps (lim fns an) an self ss st = some st' ∧ K st'
def WpO (fns : FuncId → Option IFn) (an : Ann) (self : FuncId) (o : IOp) (g : Look) (B L : List Ent) (K : SV → List Ent → List Ent → Prop) : Prop :=
  ∃ v B' L', evOp (lim fns an) an self o g B L = some (v, B', L') ∧ K v B' L'
theorem ex2 {α β : Type} {x : α} {st : β} {Q : α → β → Prop} : (∃ y st', some (x, st) = some (y, st') ∧ Q y st') ↔ Q x st := by
  constructor
  · rintro ⟨y, st', h, hq⟩
    injection h with h; injection h with h1 h2; subst h1; subst h2; exact hq
  · exact fun h => ⟨x, st, rfl, h⟩
theorem ex3 {α β γ : Type} {x : α} {y : β} {z : γ} {Q : α → β → γ → Prop} : (∃ a b c, some (x, y, z) = some (a, b, c) ∧ Q a b c) ↔ Q x y z := by
  constructor
  · rintro ⟨a, b, c, h, hq⟩
    injection h with h; injection h with h1 h2; injection h2 with h2 h3; subst h1; subst h2; subst h3; exact hq
  · exact fun h => ⟨x, y, z, rfl, h⟩
theorem ex1 {α : Type} {x : α} {Q : α → Prop} : (∃ a, some x = some a ∧ Q a) ↔ Q x := by simp
theorem ex0 {α : Type} {Q : α → Prop} : ¬ (∃ a, (none : Option α) = some a ∧ Q a) := by simp
theorem ex00 {α β : Type} {Q : α → β → Prop} : ¬ (∃ a b, (none : Option (α × β)) = some (a, b) ∧ Q a b) := by simp
theorem ex000 {α β γ : Type} {Q : α → β → γ → Prop} : ¬ (∃ a b c, (none : Option (α × β × γ)) = some (a, b, c) ∧ Q a b c) := by simp
theorem Wp_skip {st : St} {Q : IExit → St → Prop} : Wp fns an self .skip st Q ↔ Q .normal st := ex2
theorem Wp_ret {st : St} {Q : IExit → St → Prop} : Wp fns an self .ret st Q ↔ Q .ret st := ex2
theorem Wp_exit {i : Nat} {st : St} {Q : IExit → St → Prop} : Wp fns an self (.exit i) st Q ↔ Q (.exit i) st := ex2
def thenQ (R : St → Prop) (Q : IExit → St → Prop) : IExit → St → Prop
  | .normal, st => R st
  | x, st => Q x st
theorem thenQ_normal {R : St → Prop} {Q : IExit → St → Prop} {st : St} : thenQ R Q .normal st ↔ R st := Iff.rfl
theorem thenQ_exit {R : St → Prop} {Q : IExit → St → Prop} {i : Nat} {st : St} : thenQ R Q (.exit i) st ↔ Q (.exit i) st := Iff.rfl
theorem thenQ_ret {R : St → Prop} {Q : IExit → St → Prop} {st : St} : thenQ R Q .ret st ↔ Q .ret st := Iff.rfl
def outQ (id : Nat) (Q : IExit → St → Prop) : IExit → St → Prop
  | .exit i, st => if i = id then Q .normal st else Q (.exit i) st
  | x, st => Q x st
theorem outQ_normal {Q : IExit → St → Prop} {id : Nat} {st : St} : outQ id Q .normal st ↔ Q .normal st := Iff.rfl
theorem outQ_ret {Q : IExit → St → Prop} {id : Nat} {st : St} : outQ id Q .ret st ↔ Q .ret st := Iff.rfl
theorem outQ_exit {Q : IExit → St → Prop} {id i : Nat} {st : St} : outQ id Q (.exit i) st ↔ if i = id then Q .normal st else Q (.exit i) st := Iff.rfl
theorem Wp_seq {a b : ICode} {st : St} {Q : IExit → St → Prop} : Wp fns an self (.seq a b) st Q ↔ Wp fns an self a st (thenQ (fun st' => Wp fns an self b st' Q) Q) := by
  simp only [Wp, evW]
  cases ha : evW fns an self a st with
  | none => simp only [ex00]
  | some p =>
    obtain ⟨x, st'⟩ := p
    cases x <;> simp only [ex2, thenQ]
theorem Wp_block {id : Nat} {b : ICode} {st : St} {Q : IExit → St → Prop} : Wp fns an self (.block id b) st Q ↔ Wp fns an self b st (outQ id Q) := by
  simp only [Wp, evW]
  cases ha : evW fns an self b st with
  | none => simp only [ex00]
  | some p =>
    obtain ⟨x, st'⟩ := p
    cases x with
    | normal => simp only [ex2, outQ]
    | ret => simp only [ex2, outQ]
    | exit i => by_cases h : i = id <;> simp only [h, if_true, if_false, ex2, outQ]
def condQ (s : SV) (A B : Prop) : Prop :=
  match s with
  | .fv (.bool t) => if t = true then A else B
  | _ => False
theorem condQ_bool {t : Bool} {A B : Prop} : condQ (.fv (.bool t)) A B ↔ if t = true then A else B := Iff.rfl
theorem Wp_cond {c : Opd} {a b : ICode} {st : St} {Q : IExit → St → Prop} : Wp fns an self (.cond c a b) st Q ↔ condQ (opd st.env c) (Wp fns an self a st Q) (Wp fns an self b st Q) := by
  simp only [Wp, evW]
  cases opd st.env c with
  | fv x =>
    cases x with
    | bool t => cases t <;> simp only [condQ, if_true, Bool.false_eq_true, if_false]
    | _ => simp only [condQ, ex00]
  | _ => simp only [condQ, ex00]
theorem Wp_reg {keep : List Nat} {ss : List IStep} {e : Env} {B L : List Ent} {Q : IExit → St → Prop} : Wp fns an self (.reg keep ss) ⟨e, B, L⟩ Q ↔ WpS fns an self ss ⟨e.keep keep, B, L⟩ (Q .normal) := by
  simp only [Wp, evW, WpS]
  cases evSteps (lim fns an) an self ss ⟨e.keep keep, B, L⟩ with
  | none => simp only [Option.map_none, ex00, ex0]
  | some st => simp only [Option.map_some, ex2, ex1]
theorem WpS_nil {st : St} {K : St → Prop} : WpS fns an self [] st K ↔ K st := ex1
theorem WpS_cons {dst : Option Nat} {op : IOp} {after : List Nat} {asg : Bool} {r : List IStep} {e : Env} {B L : List Ent} {K : St → Prop} :
    WpS fns an self (⟨dst, op, none, after, asg⟩ :: r) ⟨e, B, L⟩ K ↔ WpO fns an self op (opd e) B L (fun v B' L' => WpS fns an self r ⟨putO e dst v, B', L'⟩ K) := by
  simp only [WpS, evSteps, evStep, WpO]
  cases evOp (lim fns an) an self op (opd e) B L with
  | none => simp only [Option.map_none, Option.bind_none, ex000, ex0]
  | some p => obtain ⟨v, B', L'⟩ := p; simp only [Option.map_some, Option.bind_some, ex3]
def guardQ (s : SV) (want : Bool) (A B : Prop) : Prop :=
  match s with
  | .fv (.bool b) => if b = want then A else B
  | _ => False
theorem WpS_guard {dst : Option Nat} {op : IOp} {t : Nat} {want : Bool} {after : List Nat} {asg : Bool} {r : List IStep} {e : Env} {B L : List Ent} {K : St → Prop} :
    WpS fns an self (⟨dst, op, some (t, want), after, asg⟩ :: r) ⟨e, B, L⟩ K ↔
      guardQ (e.get t) want (WpO fns an self op (opd e) B L (fun v B' L' => WpS fns an self r ⟨putO e dst v, B', L'⟩ K)) (WpS fns an self r ⟨putO e dst .unk, B, L⟩ K) := by
  simp only [WpS, evSteps, evStep, WpO]
  cases e.get t with
  | fv x =>
    cases x with
    | bool b =>
      by_cases hw : b = want
      · simp only [guardQ, hw, if_true]
        cases evOp (lim fns an) an self op (opd e) B L with
        | none => simp only [Option.map_none, Option.bind_none, ex000, ex0]
        | some p => obtain ⟨v, B', L'⟩ := p; simp only [Option.map_some, Option.bind_some, ex3]
      · simp only [guardQ, hw, if_false, Option.bind_some]
    | _ => simp only [guardQ, Option.bind_none, ex0]
  | _ => simp only [guardQ, Option.bind_none, ex0]
theorem Wp_loop {α : Type} (S : α → St) (I : α → Prop) (μ : α → Nat) {keep : List Nat} {b : ICode} {st : St} {Q : IExit → St → Prop}
    (hstep : ∀ a, I a → Wp fns an self b (S a) (fun x st' => match x with
      | .normal => ∃ a', gc keep st' = S a' ∧ I a' ∧ μ a' < μ a
      | x => Q x st'))
    (a : α) (h0 : gc keep st = S a) (hI : I a) : Wp fns an self (.loop keep b) st Q := by
  have key : ∀ n a, μ a = n → I a → ∃ x st', evL fns an self keep b (S a) = some (x, st') ∧ Q x st' := by
    intro n
    induction n using Nat.strongRecOn with
    | _ n ih =>
      intro a hn hI
      obtain ⟨x, st', h1, h2⟩ := hstep a hI
      cases x with
      | normal =>
        obtain ⟨a', h3, h4, h5⟩ := h2
        obtain ⟨y, st2, k1, k2⟩ := ih (μ a') (by omega) a' rfl h4
        exact ⟨y, st2, evL_step (by rw [h1]; simp only [h3]; exact k1), k2⟩
      | exit i => exact ⟨_, _, evL_step (by rw [h1]), h2⟩
      | ret => exact ⟨_, _, evL_step (by rw [h1]), h2⟩
  obtain ⟨x, st', h1, h2⟩ := key _ a rfl hI
  exact ⟨x, st', evW_loop (by rw [h0]; exact h1), h2⟩
theorem Wp_mono {c : ICode} {st : St} {Q Q' : IExit → St → Prop} (h : Wp fns an self c st Q) (hq : ∀ x st', Q x st' → Q' x st') : Wp fns an self c st Q' := by
  obtain ⟨x, st', h1, h2⟩ := h
  exact ⟨x, st', h1, hq _ _ h2⟩
def endQ (rs : List IRes) (R : SV → List Ent → List Ent → Prop) : IExit → St → Prop := fun x st =>
  (x = .normal ∨ x = .ret) ∧ ∃ vs, evRess st.env st.B st.L rs = some vs ∧ ∃ r B' L', finish vs st.B st.L = some (r, B', L') ∧ R r B' L'
theorem lim_wp {f : FuncId} {fn : IFn} {args : List SV} {B : List Ent} {R : SV → List Ent → List Ent → Prop} (hf : fns f = some fn) (hl : args.length = fn.nparams)
    (h : Wp fns an f fn.body ⟨argEnv 0 args, B, []⟩ (endQ fn.results R)) : ∃ r B' L', lim fns an f args B = some (r, B', L') ∧ R r B' L' := by
  obtain ⟨x, st, h1, h2, vs, h3, r, B', L', h4, h5⟩ := h
  exact ⟨r, B', L', lim_of hf hl h1 h2 h3 h4, h5⟩
theorem ret_wp {f : FuncId} {fn : IFn} {xs : List FV} {R : FV → Prop} (hf : fns f = some fn) (hl : xs.length = fn.nparams)
    (h : Wp fns an f fn.body ⟨argEnv 0 (xs.map .fv), [], []⟩ (endQ fn.results fun r B' L' => ∃ y, toFV [] (L'.map Ent.fz) r = some y ∧ R y)) : ∃ y, ret fns an f xs = some y ∧ R y := by
  obtain ⟨r, B', L', h1, y, h2, h3⟩ := lim_wp hf (by simp [hl]) h
  exact ⟨y, by simp [ret, h1, h2], h3⟩
variable {g : Look} {B L : List Ent} {K : SV → List Ent → List Ent → Prop}
theorem WpO_quiet {o : IOp} (h : ∀ c, evOp c an self o g B L = (evQ c o g B L).map fun s => (s, B, L)) : WpO fns an self o g B L K ↔ ∃ s, evQ (lim fns an) o g B L = some s ∧ K s B L := by
  simp only [WpO, h]
  cases evQ (lim fns an) o g B L with
  | none => simp only [Option.map_none, ex000, ex0]
  | some s => simp only [Option.map_some, ex3, ex1]
theorem WpO_mv {x : Opd} : WpO fns an self (.mv x) g B L K ↔ match g x with
    | .unk => False
    | s => K s B L := by
  rw [WpO_quiet (fun c => rfl)]
  simp only [evQ]
  cases g x <;> simp only [ex1, ex0]
def idxV (sz : Nat) : SV → SV → Option SV
  | .fv (.sl _ xs), .fv (.int _ n) => if 0 ≤ n then (xs[n.toNat]?).bind fun y => if y.cells.length = sz then some (.fv (.ptr y)) else none else none
  | .ref id sz' off len _, .fv (.int _ n) => if sz = sz' ∧ 0 ≤ n ∧ n < len then some (.ptr id sz (off + n.toNat) 0) else none
  | _, _ => none
theorem WpO_idxA {sz : Nat} {x i : Opd} : WpO fns an self (.idxA sz x i) g B L K ↔ ∃ s, idxV sz (g x) (g i) = some s ∧ K s B L := by
  have : evQ (lim fns an) (.idxA sz x i) g B L = idxV sz (g x) (g i) := by
    simp only [evQ]
    generalize g x = a
    generalize g i = c
    cases a
    case fv x =>
      cases c
      case fv y =>
        cases x
        case sl t xs =>
          cases y
          case int k n =>
            simp only [idxV]
            split
            · cases xs[n.toNat]? <;> rfl
            · rfl
          all_goals rfl
        all_goals (cases y <;> rfl)
      all_goals (cases x <;> rfl)
    case ref id sz' off len ap =>
      cases c
      case fv y => cases y <;> rfl
      all_goals rfl
    all_goals rfl
  rw [WpO_quiet (fun c => rfl), this]
theorem exMap {α β : Type} {f : α → β} {E : Option α} {Q : β → Prop} : (∃ s, E.map f = some s ∧ Q s) ↔ ∃ a, E = some a ∧ Q (f a) := by
  cases E <;> simp
theorem exBind {α β : Type} {f : α → Option β} {E : Option α} {Q : β → Prop} : (∃ s, E.bind f = some s ∧ Q s) ↔ ∃ a, E = some a ∧ ∃ s, f a = some s ∧ Q s := by
  cases E <;> simp
theorem exIf {α : Type} {c : Prop} [Decidable c] {E : Option α} {Q : α → Prop} : (∃ s, (if c then E else none) = some s ∧ Q s) ↔ c ∧ ∃ s, E = some s ∧ Q s := by
  by_cases h : c <;> simp [h]
theorem exIfn {α : Type} {c : Prop} [Decidable c] {E : Option α} {Q : α → Prop} : (∃ s, (if c then none else E) = some s ∧ Q s) ↔ ¬ c ∧ ∃ s, E = some s ∧ Q s := by
  by_cases h : c <;> simp [h]
theorem exMap3 {α : Type} {f : α → SV × List Ent × List Ent} {E : Option α} {Q : SV → List Ent → List Ent → Prop} : (∃ a b c, E.map f = some (a, b, c) ∧ Q a b c) ↔ ∃ x, E = some x ∧ Q (f x).1 (f x).2.1 (f x).2.2 := by
  cases E with
  | none => simp
  | some x => simp only [Option.map_some, ex1]; exact ex3 (x := (f x).1) (y := (f x).2.1) (z := (f x).2.2)
theorem exBind3 {α : Type} {f : α → Option (SV × List Ent × List Ent)} {E : Option α} {Q : SV → List Ent → List Ent → Prop} : (∃ a b c, E.bind f = some (a, b, c) ∧ Q a b c) ↔ ∃ x, E = some x ∧ ∃ a b c, f x = some (a, b, c) ∧ Q a b c := by
  cases E <;> simp
theorem exIf3 {p : Prop} [Decidable p] {E : Option (SV × List Ent × List Ent)} {Q : SV → List Ent → List Ent → Prop} : (∃ a b c, (if p then E else none) = some (a, b, c) ∧ Q a b c) ↔ p ∧ ∃ a b c, E = some (a, b, c) ∧ Q a b c := by
  by_cases h : p <;> simp [h]
theorem exIfn3 {p : Prop} [Decidable p] {E : Option (SV × List Ent × List Ent)} {Q : SV → List Ent → List Ent → Prop} : (∃ a b c, (if p then none else E) = some (a, b, c) ∧ Q a b c) ↔ ¬ p ∧ ∃ a b c, E = some (a, b, c) ∧ Q a b c := by
  by_cases h : p <;> simp [h]
noncomputable def callV (fns : FuncId → Option IFn) (an : Ann) (s : SV) (zs : Option (List FV)) : Option FV :=
  match s with
  | .fv (.fn (.func n) first caps) => zs.bind fun zs => ret fns an n (first ++ zs ++ caps)
  | _ => none
theorem callV_fn {n : FuncId} {first caps : List FV} {zs : Option (List FV)} : callV fns an (.fv (.fn (.func n) first caps)) zs = zs.bind fun zs => ret fns an n (first ++ zs ++ caps) := rfl
theorem WpO_call {f : Opd} {as : List Opd} (h : (keepsOwn an g f as || rawCall an self (g f)) = false) :
    WpO fns an self (.call f as) g B L K ↔ ∃ y, callV fns an (g f) (toFVs (frzs (as.flatMap fun x => (g x).ids) B L).1 (frzs (as.flatMap fun x => (g x).ids) B L).2 (as.map g)) = some y ∧
      K (.fv y) (frzs (as.flatMap fun x => (g x).ids) B L).1 (frzs (as.flatMap fun x => (g x).ids) B L).2 := by
  have hk : keepsOwn an g f as = false := by rw [Bool.or_eq_false_iff] at h; exact h.1
  have hr : rawCall an self (g f) = false := by rw [Bool.or_eq_false_iff] at h; exact h.2
  simp only [WpO, evOp, hr, toFreeze, hk, Bool.false_eq_true, if_false, evQ, Bool.or_self]
  generalize frzs (as.flatMap fun x => (g x).ids) B L = BL
  simp only [exMap3]
  have e2 : ∀ E : Option FV, (∃ x, E.map SV.fv = some x ∧ K x BL.1 BL.2) ↔ ∃ y, E = some y ∧ K (.fv y) BL.1 BL.2 := fun E => exMap
  rw [← e2]
  have e3 : (match g f with
    | .fv (.fn (.func n) first caps) => (toFVs BL.1 BL.2 (as.map g)).bind fun as =>
        match lim fns an n ((first ++ as ++ caps).map .fv) [] with
        | some (r, _, L') => (toFV [] (L'.map Ent.fz) r).map .fv
        | none => none
    | _ => none) = (callV fns an (g f) (toFVs BL.1 BL.2 (as.map g))).map SV.fv := by
    unfold callV
    split
    · rename_i n first caps hf
      cases toFVs BL.1 BL.2 (as.map g) with
      | none => rfl
      | some zs =>
        simp only [Option.bind_some, ret]
        cases lim fns an n ((first ++ zs ++ caps).map .fv) [] with
        | none => rfl
        | some p => rfl
    · rfl
  exact Iff.of_eq (by rw [← e3]; rfl)
end
end Go.Ab
namespace Go.Ab
def sq (d : Nat) (o : IOp) : IStep := ⟨some d, o, none, [], false⟩
def sa (d : Nat) (o : IOp) : IStep := ⟨some d, o, none, [], true⟩
def se (o : IOp) : IStep := ⟨none, o, none, [], false⟩
def memN (x : Nat) : List Nat → Bool
  | [] => false
  | y :: r => x == y || memN x r
def memP (a b : Nat) : List (Nat × Nat) → Bool
  | [] => false
  | (c, d) :: r => (a == c && b == d) || memP a b r
def okQ (cl : List (List Nat)) (all : List IStep) (i : Nat) (s : IStep) : Bool :=
  !s.isA && !s.isS && (List.range all.length).all fun j => match all[j]? with
    | some t => !t.isS || waits cl j i || !turnsS all t
    | none => false
def okS (all : List IStep) (s : IStep) : Bool := !s.isA && s.isS && !handed all s && (turnsS all s || !s.op.turns)
def okQs (cl : List (List Nat)) (all : List IStep) : Nat → List IStep → Bool
  | _, [] => true
  | i, s :: r => if s.isS then (s :: r).all (okS all) else okQ cl all i s && okQs cl all (i + 1) r
def tame (all : List IStep) : Bool := okQs (clos all) all 0 all
end Go.Ab
namespace Go.Ab
inductive Pin {α : Type} (a : α) : Type where
  | mk
def bq {α : Type} (K : α → Prop) (E : Option α) (_ : Pin K) : Prop := ∃ s, E = some s ∧ K s
section
variable {α β : Type} {K : β → Prop}
theorem bq_some {v : β} {p : Pin K} : bq K (some v) p = K v := by simp [bq]
theorem bq_none {p : Pin K} : bq K none p = False := by simp [bq]
theorem bq_bind {E : Option α} {f : α → Option β} {p : Pin K} : bq K (E.bind f) p = bq (fun a => bq K (f a) .mk) E .mk := by
  cases E <;> simp [bq]
theorem bq_map {E : Option α} {f : α → β} {p : Pin K} : bq K (E.map f) p = bq (fun a => K (f a)) E .mk := by
  cases E <;> simp [bq]
theorem bq_if {c : Prop} [Decidable c] {E : Option β} {p : Pin K} : bq K (if c then E else none) p = (c ∧ bq K E .mk) := by
  by_cases h : c <;> simp [bq, h]
theorem bq_ifn {c : Prop} [Decidable c] {E : Option β} {p : Pin K} : bq K (if c then none else E) p = (¬ c ∧ bq K E .mk) := by
  by_cases h : c <;> simp [bq, h]
theorem bq_iff {E : Option β} {p : Pin K} : bq K E p ↔ ∃ s, E = some s ∧ K s := Iff.rfl
theorem bq_of {E : Option β} {p : Pin K} {v : β} (h : E = some v) (k : K v) : bq K E p := ⟨v, h, k⟩
end
def bq3 (K : SV → List Ent → List Ent → Prop) (E : Option (SV × List Ent × List Ent)) (_ : Pin K) : Prop := ∃ s, E = some s ∧ K s.1 s.2.1 s.2.2
section
variable {α : Type} {K : SV → List Ent → List Ent → Prop}
theorem bq3_some {v : SV} {B L : List Ent} {p : Pin K} : bq3 K (some (v, B, L)) p = K v B L := by simp [bq3]
theorem bq3_some' {v : SV} {BL : List Ent × List Ent} {p : Pin K} : bq3 K (some (v, BL)) p = K v BL.1 BL.2 := by simp [bq3]
theorem bq3_none {p : Pin K} : bq3 K none p = False := by simp [bq3]
theorem bq3_bind {E : Option α} {f : α → Option (SV × List Ent × List Ent)} {p : Pin K} : bq3 K (E.bind f) p = bq (fun a => bq3 K (f a) .mk) E .mk := by
  cases E <;> simp [bq, bq3]
theorem bq3_map {E : Option α} {f : α → SV × List Ent × List Ent} {p : Pin K} : bq3 K (E.map f) p = bq (fun a => bq3 K (some (f a)) .mk) E .mk := by
  cases E <;> simp [bq, bq3]
theorem bq3_if {c : Prop} [Decidable c] {E : Option (SV × List Ent × List Ent)} {p : Pin K} : bq3 K (if c then E else none) p = (c ∧ bq3 K E .mk) := by
  by_cases h : c <;> simp [bq3, h]
theorem bq3_ifn {c : Prop} [Decidable c] {E : Option (SV × List Ent × List Ent)} {p : Pin K} : bq3 K (if c then none else E) p = (¬ c ∧ bq3 K E .mk) := by
  by_cases h : c <;> simp [bq3, h]
theorem bq3_if_t {c : Prop} [Decidable c] {E : Option (SV × List Ent × List Ent)} {p : Pin K} (h : c) : bq3 K (if c then E else none) p = bq3 K E .mk := by rw [bq3_if]; simp [h]
theorem bq3_ifn_t {c : Prop} [Decidable c] {E : Option (SV × List Ent × List Ent)} {p : Pin K} (h : ¬ c) : bq3 K (if c then none else E) p = bq3 K E .mk := by rw [bq3_ifn]; simp [h]
end
def pW (Q : IExit → St → Prop) (fns : FuncId → Option IFn) (an : Ann) (self : FuncId) (c : ICode) (st : St) (_ : Pin Q) : Prop := Wp fns an self c st Q
def pS (k : St → Prop) (fns : FuncId → Option IFn) (an : Ann) (self : FuncId) (ss : List IStep) (st : St) (_ : Pin k) : Prop := WpS fns an self ss st k
def pO (K : SV → List Ent → List Ent → Prop) (fns : FuncId → Option IFn) (an : Ann) (self : FuncId) (o : IOp) (g : Look) (B L : List Ent) (_ : Pin K) : Prop := WpO fns an self o g B L K
def pC (A B : Prop) (s : SV) (_ : Pin A) (_ : Pin B) : Prop := condQ s A B
def pG (A B : Prop) (s : SV) (want : Bool) (_ : Pin A) (_ : Pin B) : Prop := guardQ s want A B
theorem pC_t {A B : Prop} {p : Pin A} {q : Pin B} : pC A B (.fv (.bool true)) p q = A := by simp [pC, condQ]
theorem pC_f {A B : Prop} {p : Pin A} {q : Pin B} : pC A B (.fv (.bool false)) p q = B := by simp [pC, condQ]
theorem pG_tt {A B : Prop} {p : Pin A} {q : Pin B} : pG A B (.fv (.bool true)) true p q = A := by simp [pG, guardQ]
theorem pG_ff {A B : Prop} {p : Pin A} {q : Pin B} : pG A B (.fv (.bool false)) false p q = A := by simp [pG, guardQ]
theorem pG_tf {A B : Prop} {p : Pin A} {q : Pin B} : pG A B (.fv (.bool true)) false p q = B := by simp [pG, guardQ]
theorem pG_ft {A B : Prop} {p : Pin A} {q : Pin B} : pG A B (.fv (.bool false)) true p q = B := by simp [pG, guardQ]
section
variable {fns : FuncId → Option IFn} {an : Ann} {self : FuncId} {g : Look} {e : Env} {st : St} {B L : List Ent} {K : SV → List Ent → List Ent → Prop} {p : Pin K} {k : St → Prop} {pk : Pin k} {r : List IStep}
variable {Q : IExit → St → Prop} {pq : Pin Q}
theorem pW_skip : pW Q fns an self .skip st pq = Q .normal st := propext Wp_skip
theorem pW_ret : pW Q fns an self .ret st pq = Q .ret st := propext Wp_ret
theorem pW_exit {i : Nat} : pW Q fns an self (.exit i) st pq = Q (.exit i) st := propext Wp_exit
theorem pW_seq {a b : ICode} : pW Q fns an self (.seq a b) st pq = pW (thenQ (fun st' => pW Q fns an self b st' .mk) Q) fns an self a st .mk := propext Wp_seq
theorem pW_block {id : Nat} {b : ICode} : pW Q fns an self (.block id b) st pq = pW (outQ id Q) fns an self b st .mk := propext Wp_block
theorem pW_cond {c : Opd} {a b : ICode} : pW Q fns an self (.cond c a b) ⟨e, B, L⟩ pq = pC (pW Q fns an self a ⟨e, B, L⟩ .mk) (pW Q fns an self b ⟨e, B, L⟩ .mk) (opd e c) .mk .mk := propext Wp_cond
theorem pW_reg {keep : List Nat} {ss : List IStep} : pW Q fns an self (.reg keep ss) ⟨e, B, L⟩ pq = pS (Q .normal) fns an self ss ⟨e.keep keep, B, L⟩ .mk := propext Wp_reg
theorem tQ_normal {R : St → Prop} : thenQ R Q .normal st = R st := rfl
theorem tQ_exit {R : St → Prop} {i : Nat} : thenQ R Q (.exit i) st = Q (.exit i) st := rfl
theorem tQ_ret {R : St → Prop} : thenQ R Q .ret st = Q .ret st := rfl
theorem oQ_normal {id : Nat} : outQ id Q .normal st = Q .normal st := rfl
theorem oQ_ret {id : Nat} : outQ id Q .ret st = Q .ret st := rfl
theorem oQ_same {id : Nat} : outQ id Q (.exit id) st = Q .normal st := by simp [outQ]
theorem oQ_other {id i : Nat} (h : (i == id) = false) : outQ id Q (.exit i) st = Q (.exit i) st := by
  have : i ≠ id := by simpa using h
  simp [outQ, this]
theorem pS_nil : pS k fns an self [] st pk = k st := propext WpS_nil
theorem pS_q {d : Nat} {op : IOp} : pS k fns an self (sq d op :: r) ⟨e, B, L⟩ pk = pO (fun v B' L' => pS k fns an self r ⟨e.put d v, B', L'⟩ .mk) fns an self op (opd e) B L .mk := propext WpS_cons
theorem pS_a {d : Nat} {op : IOp} : pS k fns an self (sa d op :: r) ⟨e, B, L⟩ pk = pO (fun v B' L' => pS k fns an self r ⟨e.put d v, B', L'⟩ .mk) fns an self op (opd e) B L .mk := propext WpS_cons
theorem pS_e {op : IOp} : pS k fns an self (se op :: r) ⟨e, B, L⟩ pk = pO (fun v B' L' => pS k fns an self r ⟨e, B', L'⟩ .mk) fns an self op (opd e) B L .mk := propext WpS_cons
theorem pS_g {dst : Option Nat} {op : IOp} {t : Nat} {want : Bool} {after : List Nat} {asg : Bool} :
    pS k fns an self (⟨dst, op, some (t, want), after, asg⟩ :: r) ⟨e, B, L⟩ pk =
      pG (pO (fun v B' L' => pS k fns an self r ⟨putO e dst v, B', L'⟩ .mk) fns an self op (opd e) B L .mk) (pS k fns an self r ⟨putO e dst .unk, B, L⟩ .mk) (e.get t) want .mk .mk := propext WpS_guard
theorem getKeep {e : Env} {ks : List Nat} {t : Nat} : (e.keep ks).get t = if t ∈ ks then e.get t else .unk := by
  by_cases h : t ∈ ks
  · rw [if_pos h, get_keep_mem h]
  · rw [if_neg h]
    induction ks with
    | nil => rfl
    | cons k r ih =>
      simp only [List.mem_cons, not_or] at h
      have := ih h.2
      simp only [Env.keep, List.map_cons, Env.get] at this ⊢
      rw [if_neg (Ne.symm h.1)]; exact this
theorem getPut {e : Env} {d t : Nat} {v : SV} : (e.put d v).get t = if t = d then v else e.get t := get_put e d t v
theorem opd_s {e : Env} {t : Nat} : opd e (.s t) = e.get t := rfl
theorem opd_c {e : Env} {x : FV} : opd e (.c x) = .fv x := rfl
theorem quietO {o : IOp} (h : ∀ c, evOp c an self o g B L = (evQ c o g B L).map fun s => (s, B, L)) : pO K fns an self o g B L p = bq (fun s => K s B L) (evQ (lim fns an) o g B L) .mk := propext (WpO_quiet h)
def mvV : SV → Option SV
  | .unk => none
  | s => some s
theorem mvV_fv {x : FV} : mvV (.fv x) = some (.fv x) := rfl
theorem mvV_ref {id : Id} {sz off len : Nat} {ap : Bool} : mvV (.ref id sz off len ap) = some (.ref id sz off len ap) := rfl
theorem mvV_ptr {id : Id} {sz i c : Nat} : mvV (.ptr id sz i c) = some (.ptr id sz i c) := rfl
theorem mvV_clo {f : Fn} {n : Nat} {cs : List Cap} : mvV (.clo f n cs) = some (.clo f n cs) := rfl
theorem mvV_eq {s : SV} (B L : List Ent) (c : Disp) {x : Opd} (h : g x = s) : evQ c (.mv x) g B L = mvV s := by
  simp only [evQ, h, mvV]
  cases s <;> rfl
theorem pO_mv {x : Opd} : pO K fns an self (.mv x) g B L p = bq (fun s => K s B L) (mvV (g x)) .mk := (quietO (fun c => rfl)).trans (by rw [mvV_eq B L _ rfl])
theorem pO_bin {op : BinOp} {t : TK} {x y : Opd} : pO K fns an self (.bin op t x y) g B L p = bq (fun s => K (.fv s) B L) (evBin op t (g x) (g y)) .mk := (quietO (fun c => rfl)).trans bq_map
theorem pO_un {op : UnOp} {x : Opd} : pO K fns an self (.un op x) g B L p = bq (fun s => K (.fv s) B L) (evUn op (g x)) .mk := (quietO (fun c => rfl)).trans bq_map
theorem pO_len {st : Bool} {x : Opd} : pO K fns an self (.len st x) g B L p = bq (fun n : Nat => K (.fv (.int .i64 (n : Int))) B L) (lenSl st (g x)) .mk := (quietO (fun c => rfl)).trans bq_map
def convV (t : IntKind) : SV → Option SV
  | .fv (.int _ n) => some (.fv (.int t (t.wrap n)))
  | _ => none
theorem pO_conv {t : IntKind} {x : Opd} : pO K fns an self (.conv t x) g B L p = bq (fun s => K s B L) (convV t (g x)) .mk := quietO (fun c => rfl)
def pickV : SV → SV → SV → Option SV
  | .fv (.bool true), a, _ => mvV a
  | .fv (.bool false), _, b => mvV b
  | _, _, _ => none
theorem pO_pick {x a b : Opd} : pO K fns an self (.pick x a b) g B L p = bq (fun s => K s B L) (pickV (g x) (g a) (g b)) .mk := by
  refine (quietO (fun c => rfl)).trans ?_
  congr 1
  simp only [evQ]
  generalize g x = c; generalize g a = u; generalize g b = v
  cases c with
  | fv y =>
    cases y with
    | bool t => cases t <;> simp only [pickV, mvV, if_true, Bool.false_eq_true, if_false] <;> first | (cases u <;> rfl) | (cases v <;> rfl)
    | _ => rfl
  | _ => rfl
theorem pO_nilc {x : Opd} : pO K fns an self (.nilc x) g B L p = bq (fun s => K s B L) (evQ (lim fns an) (.nilc x) g B L) .mk := quietO (fun c => rfl)
theorem pO_load {ag : Bool} {sz : Nat} {x : Opd} : pO K fns an self (.load ag sz x) g B L p = bq (fun s => K s B L) (evQ (lim fns an) (.load ag sz x) g B L) .mk := quietO (fun c => rfl)
theorem pO_slice {sz : Nat} {x : Opd} {lo hi mx : Option Opd} : pO K fns an self (.slice sz x lo hi mx) g B L p = bq (fun s => K s B L) (evQ (lim fns an) (.slice sz x lo hi mx) g B L) .mk := quietO (fun c => rfl)
theorem pO_fldA {off : Nat} {ag : Bool} {sz : Nat} {x : Opd} : pO K fns an self (.fldA off ag sz x) g B L p = bq (fun s => K s B L) (evQ (lim fns an) (.fldA off ag sz x) g B L) .mk := quietO (fun c => rfl)
theorem pO_fld {off : Nat} {ag : Bool} {sz : Nat} {x : Opd} : pO K fns an self (.fld off ag sz x) g B L p = bq (fun s => K s B L) (evQ (lim fns an) (.fld off ag sz x) g B L) .mk := quietO (fun c => rfl)
theorem pO_idxS {x i : Opd} : pO K fns an self (.idxS x i) g B L p = bq (fun s => K s B L) (evQ (lim fns an) (.idxS x i) g B L) .mk := quietO (fun c => rfl)
theorem pO_mx {xs : List Opd} : pO K fns an self (.mx xs) g B L p = bq (fun s => K s B L) (evQ (lim fns an) (.mx xs) g B L) .mk := quietO (fun c => rfl)
theorem pO_mn {xs : List Opd} : pO K fns an self (.mn xs) g B L p = bq (fun s => K s B L) (evQ (lim fns an) (.mn xs) g B L) .mk := quietO (fun c => rfl)
theorem pO_extr {x : Opd} {i : Nat} : pO K fns an self (.extr x i) g B L p = bq (fun s => K s B L) (evQ (lim fns an) (.extr x i) g B L) .mk := quietO (fun c => rfl)
theorem pO_idxA {sz : Nat} {x i : Opd} : pO K fns an self (.idxA sz x i) g B L p = bq (fun s => K s B L) (idxV sz (g x) (g i)) .mk := propext WpO_idxA
theorem pO_fz {o : IOp} {BL : List Ent × List Ent} (h : ∀ c, evOp c an self o g B L = (evQ c o g BL.1 BL.2).map fun s => (s, BL)) :
    pO K fns an self o g B L p = bq (fun s => K s BL.1 BL.2) (evQ (lim fns an) o g BL.1 BL.2) .mk := by
  apply propext
  unfold pO WpO bq
  rw [h]
  exact exMap3
def fzQ (K : List Ent → List Ent → Prop) (BL : List Ent × List Ent) (_ : Pin K) : Prop := K BL.1 BL.2
theorem fzQ_mk {K : List Ent → List Ent → Prop} {B L : List Ent} {p : Pin K} : fzQ K (B, L) p = K B L := rfl
theorem pO_build {zero : List FV} {ps : List (Nat × Nat × Opd)} : pO K fns an self (.build zero ps) g B L p =
    fzQ (fun B L => bq (fun s => K s B L) (evQ (lim fns an) (.build zero ps) g B L) .mk) (frzs (ps.flatMap fun p => (g p.2.2).ids) B L) .mk := pO_fz (fun c => rfl)
theorem pO_bsl {sz n : Nat} {zero : FV} {ps : List (Nat × Opd)} : pO K fns an self (.bsl sz zero n ps) g B L p =
    fzQ (fun B L => bq (fun s => K s B L) (evQ (lim fns an) (.bsl sz zero n ps) g B L) .mk) (frzs (ps.flatMap fun p => (g p.2).ids) B L) .mk := pO_fz (fun c => rfl)
theorem pO_mkfn {fn : Fn} {first caps : List Opd} : pO K fns an self (.mkfn fn first caps) g B L p =
    fzQ (fun B L => bq (fun s => K s B L) (evQ (lim fns an) (.mkfn fn first caps) g B L) .mk) (frzs ((first ++ caps).flatMap fun x => (g x).refIds) B L) .mk := pO_fz (fun c => rfl)
theorem actO {E : Option (SV × List Ent × List Ent)} : (∃ v B' L', E = some (v, B', L') ∧ K v B' L') = bq3 K E .mk := by
  apply propext
  constructor
  · rintro ⟨v, B', L', h, k⟩; exact ⟨_, h, k⟩
  · rintro ⟨x, h, k⟩; exact ⟨_, _, _, h, k⟩
theorem pO_box {sz : Nat} {x : Opd} : pO K fns an self (.box sz x) g B L p =
    fzQ (fun B L => bq3 K (evA (lim fns an) (.box sz x) g B L) .mk) (frzs (g x).ids B L) .mk := actO
theorem pO_store {sz : Nat} {a x : Opd} : pO K fns an self (.store sz a x) g B L p =
    fzQ (fun B L => bq3 K (evA (lim fns an) (.store sz a x) g B L) .mk) (frzs (g x).ids B L) .mk := actO
theorem pO_alloc {sz : Nat} {z : FV} : pO K fns an self (.alloc sz z) g B L p = bq3 K (evA (lim fns an) (.alloc sz z) g B L) .mk := actO
theorem pO_mksl {sz bytes : Nat} {zero : FV} {n c : Opd} : pO K fns an self (.mksl sz bytes zero n c) g B L p = bq3 K (evA (lim fns an) (.mksl sz bytes zero n c) g B L) .mk := actO
theorem pO_app {sz bytes : Nat} {x y : Opd} : pO K fns an self (.app sz bytes x y) g B L p = bq3 K (evA (lim fns an) (.app sz bytes x y) g B L) .mk := actO
def callQ (A B : Prop) (own : Bool) (_ : Pin A) (_ : Pin B) : Prop := if own then A else B
theorem callQ_t {A B : Prop} {p : Pin A} {q : Pin B} : callQ A B true p q = A := rfl
theorem callQ_f {A B : Prop} {p : Pin A} {q : Pin B} : callQ A B false p q = B := rfl
theorem pO_call {f : Opd} {xs : List Opd} : pO K fns an self (.call f xs) g B L p =
    callQ (bq3 K (evI (lim fns an) (rawCall an self (g f)) g f xs B L) .mk)
      (fzQ (fun B L => bq (fun y => K (.fv y) B L) (callV fns an (g f) (toFVs B L (xs.map g))) .mk) (frzs (xs.flatMap fun x => (g x).ids) B L) .mk)
      (keepsOwn an g f xs || rawCall an self (g f)) .mk .mk := by
  cases h : keepsOwn an g f xs || rawCall an self (g f) with
  | false => rw [callQ_f]; exact propext (WpO_call h)
  | true =>
    rw [callQ_t, ← actO]
    unfold pO WpO
    simp only [evOp, h, if_true]
def loopQ (R : St → Prop) (Q : IExit → St → Prop) : IExit → St → Prop
  | .normal, st => R st
  | x, st => Q x st
theorem lQ_normal {R : St → Prop} : loopQ R Q .normal st = R st := rfl
theorem lQ_exit {R : St → Prop} {i : Nat} : loopQ R Q (.exit i) st = Q (.exit i) st := rfl
theorem lQ_ret {R : St → Prop} : loopQ R Q .ret st = Q .ret st := rfl
def nextQ (P : St → Prop) (s : St) (_ : Pin P) : Prop := P s
theorem next {P : St → Prop} {s : St} {p : Pin P} (h : P s) : nextQ P s p := h
theorem pW_loop {α : Type} (S : α → St) (I : α → Prop) (μ : α → Nat) {keep : List Nat} {b : ICode} (a : α) (h0 : gc keep st = S a) (hI : I a)
    (hstep : ∀ a, I a → pW (loopQ (fun st' => nextQ (fun s => ∃ a', s = S a' ∧ I a' ∧ μ a' < μ a) (gc keep st') .mk) Q) fns an self b (S a) .mk) : pW Q fns an self (.loop keep b) st pq := by
  refine Wp_loop S I μ (fun a ha => Wp_mono (hstep a ha) ?_) a h0 hI
  intro x st' h
  cases x <;> exact h
def eQ (rs : List IRes) (R : FV → Prop) : IExit → St → Prop := fun x st =>
  (x = .normal ∨ x = .ret) ∧ bq (fun vs => bq3 (fun r B' L' => bq R (toFV [] (L'.map Ent.fz) r) .mk) (finish vs st.B st.L) .mk) (evRess st.env st.B st.L rs) .mk
theorem eQ_ret {rs : List IRes} {R : FV → Prop} : eQ rs R .ret ⟨e, B, L⟩ = bq (fun vs => bq3 (fun r B' L' => bq R (toFV [] (L'.map Ent.fz) r) .mk) (finish vs B L) .mk) (evRess e B L rs) .mk := by simp [eQ]
theorem eQ_normal {rs : List IRes} {R : FV → Prop} : eQ rs R .normal ⟨e, B, L⟩ = bq (fun vs => bq3 (fun r B' L' => bq R (toFV [] (L'.map Ent.fz) r) .mk) (finish vs B L) .mk) (evRess e B L rs) .mk := by simp [eQ]
theorem ret_of {f : FuncId} {fn : IFn} {xs : List FV} {R : FV → Prop} (hf : fns f = some fn) (hl : xs.length = fn.nparams)
    (h : pW (eQ fn.results R) fns an f fn.body ⟨argEnv 0 (xs.map .fv), [], []⟩ .mk) : ∃ y, ret fns an f xs = some y ∧ R y := by
  refine ret_wp hf hl (Wp_mono h ?_)
  rintro x st ⟨h1, vs, h2, ⟨r, B', L'⟩, h3, y, h4, h5⟩
  exact ⟨h1, vs, h2, r, B', L', h3, y, h4, h5⟩
theorem ret_eq {f : FuncId} {fn : IFn} {xs : List FV} {y : FV} (hf : fns f = some fn) (hl : xs.length = fn.nparams)
    (h : pW (eQ fn.results (· = y)) fns an f fn.body ⟨argEnv 0 (xs.map .fv), [], []⟩ .mk) : ret fns an f xs = some y := by
  obtain ⟨z, hz, rfl⟩ := ret_of hf hl h
  exact hz
def eL (rs : List IRes) (R : SV → List Ent → List Ent → Prop) : IExit → St → Prop := fun x st =>
  (x = .normal ∨ x = .ret) ∧ bq (fun vs => bq3 R (finish vs st.B st.L) .mk) (evRess st.env st.B st.L rs) .mk
theorem eL_ret {rs : List IRes} {R : SV → List Ent → List Ent → Prop} : eL rs R .ret ⟨e, B, L⟩ = bq (fun vs => bq3 R (finish vs B L) .mk) (evRess e B L rs) .mk := by simp [eL]
theorem eL_normal {rs : List IRes} {R : SV → List Ent → List Ent → Prop} : eL rs R .normal ⟨e, B, L⟩ = bq (fun vs => bq3 R (finish vs B L) .mk) (evRess e B L rs) .mk := by simp [eL]
theorem lim_ofW {f : FuncId} {fn : IFn} {xs : List SV} {B0 : List Ent} {R : SV → List Ent → List Ent → Prop} (hf : fns f = some fn) (hl : xs.length = fn.nparams)
    (h : pW (eL fn.results R) fns an f fn.body ⟨argEnv 0 xs, B0, []⟩ .mk) : ∃ r B' L', lim fns an f xs B0 = some (r, B', L') ∧ R r B' L' := by
  refine lim_wp hf hl (Wp_mono h ?_)
  rintro x st ⟨h1, vs, h2, ⟨r, B', L'⟩, h3, h4⟩
  exact ⟨h1, vs, h2, r, B', L', h3, h4⟩
theorem ret_lim {f : FuncId} {xs : List FV} {r : SV} {B' L' : List Ent} (h : lim fns an f (xs.map .fv) [] = some (r, B', L')) : ret fns an f xs = toFV [] (L'.map Ent.fz) r := by
  simp [ret, h]
theorem downTo1 {i : Id} : downTo [i] i = .b 0 := by simp [downTo]
theorem dedup1 {i : Id} : dedup [i] = [i] := rfl
theorem dedup0 : dedup [] = [] := rfl
theorem wb_nil {es B L : List Ent} : writeBack [] es B L = (B, L) := by simp [writeBack]
theorem wb_cons {i : Id} {is : List Id} {e' : Ent} {es B L : List Ent} : writeBack (i :: is) (e' :: es) B L = writeBack is es (setE i e' B L).1 (setE i e' B L).2 := rfl
theorem range0 : List.range 0 = [] := rfl
theorem range1 : List.range 1 = [0] := rfl
theorem range2 : List.range 2 = [0, 1] := rfl
theorem range3 : List.range 3 = [0, 1, 2] := rfl
theorem range4 : List.range 4 = [0, 1, 2, 3] := rfl
theorem range5 : List.range 5 = [0, 1, 2, 3, 4] := rfl
theorem range6 : List.range 6 = [0, 1, 2, 3, 4, 5] := rfl
end
abbrev u32s (xs : List Nat) : List FV := xs.map fun n : Nat => .int .u32 (n : Int)
abbrev i64s (xs : List Nat) : List FV := xs.map fun n : Nat => .int .i64 (n : Int)
theorem wid_u32s (xs : List Nat) : wid 1 (u32s xs) = true := by
  simp [wid, FV.cells]
theorem wid_i64s (xs : List Nat) : wid 1 (i64s xs) = true := by
  simp [wid, FV.cells]
theorem cutL_map {α : Type} (f : α → FV) (xs : List α) (i n : Nat) : cutL (xs.map f) i n = ((xs.drop i).take n).map f := by
  simp [cutL, List.map_drop, List.map_take]
end Go.Ab
namespace Go.Ab
theorem dlt_t {a b : Int} (h : a < b) : decide (a < b) = true := decide_eq_true h
theorem dlt_f {a b : Int} (h : b ≤ a) : decide (a < b) = false := decide_eq_false (by omega)
theorem dle_t {a b : Int} (h : a ≤ b) : decide (a ≤ b) = true := decide_eq_true h
theorem dle_f {a b : Int} (h : b < a) : decide (a ≤ b) = false := decide_eq_false (by omega)
theorem dgt_t {a b : Int} (h : a > b) : decide (a > b) = true := decide_eq_true h
theorem dgt_f {a b : Int} (h : a ≤ b) : decide (a > b) = false := decide_eq_false (by omega)
theorem dge_t {a b : Int} (h : a ≥ b) : decide (a ≥ b) = true := decide_eq_true h
theorem dge_f {a b : Int} (h : a < b) : decide (a ≥ b) = false := decide_eq_false (by omega)
theorem beq_t {a b : Int} (h : a = b) : (a == b) = true := by simp [h]
theorem beq_f {a b : Int} (h : a ≠ b) : (a == b) = false := by simp [h]
theorem bne_t {a b : Int} (h : a ≠ b) : (a != b) = true := by simp [h]
theorem bne_f {a b : Int} (h : a = b) : (a != b) = false := by simp [h]
theorem bq_if_t {β : Type} {K : β → Prop} {c : Prop} [Decidable c] {E : Option β} {p : Pin K} (h : c) : bq K (if c then E else none) p = bq K E .mk := by rw [bq_if]; simp [h]
theorem bq_ifn_t {β : Type} {K : β → Prop} {c : Prop} [Decidable c] {E : Option β} {p : Pin K} (h : ¬ c) : bq K (if c then none else E) p = bq K E .mk := by rw [bq_ifn]; simp [h]
def at0 (xs : List Nat) (i : Nat) : Nat := xs[i]?.getD 0
theorem get0 {xs : List Nat} {i : Nat} (h : i < xs.length) : xs[i]? = some (at0 xs i) := by
  simp [at0, h]
theorem at0_eq {xs : List Nat} {i v : Nat} (h : xs[i]? = some v) : at0 xs i = v := by simp [at0, h]
theorem at0_out {xs : List Nat} {i : Nat} (h : xs.length ≤ i) : at0 xs i = 0 := by simp [at0, List.getElem?_eq_none h]
theorem len_set {α : Type} (xs : List α) (i : Nat) (v : α) : (xs.set i v).length = xs.length := List.length_set
theorem set_map {α : Type} (f : α → FV) (xs : List α) (i : Nat) (v : α) : (xs.map f).set i (f v) = (xs.set i v).map f := by
  rw [List.map_set]
theorem u32s_set (xs : List Nat) (i v : Nat) : (u32s xs).set i (.int .u32 (v : Int)) = u32s (xs.set i v) := set_map (fun n : Nat => FV.int .u32 (n : Int)) xs i v
theorem i64s_set (xs : List Nat) (i v : Nat) : (i64s xs).set i (.int .i64 (v : Int)) = i64s (xs.set i v) := set_map (fun n : Nat => FV.int .i64 (n : Int)) xs i v
theorem u32s_append (xs ys : List Nat) : u32s xs ++ u32s ys = u32s (xs ++ ys) := (List.map_append ..).symm
theorem i64s_append (xs ys : List Nat) : i64s xs ++ i64s ys = i64s (xs ++ ys) := (List.map_append ..).symm
theorem u32s_zeros (n : Nat) : List.replicate n (.int .u32 0) = u32s (List.replicate n 0) := by simp
theorem i64s_zeros (n : Nat) : List.replicate n (.int .i64 0) = i64s (List.replicate n 0) := by simp
theorem foldAdd (a b : Nat) : (a : Int) + (b : Int) = ((a + b : Nat) : Int) := by omega
theorem foldMul (a b : Nat) : (a : Int) * (b : Int) = ((a * b : Nat) : Int) := by simp
theorem foldSub {a b : Nat} (h : b ≤ a) : (a : Int) - (b : Int) = ((a - b : Nat) : Int) := by omega
theorem foldSub1 {a : Nat} (h : 1 ≤ a) : (a : Int) - 1 = ((a - 1 : Nat) : Int) := by omega
theorem foldAddL (a k : Nat) : (a : Int) + (no_index (@OfNat.ofNat Int k _)) = ((a + (@OfNat.ofNat Nat k _) : Nat) : Int) := by simp
theorem foldMulL (a k : Nat) : (a : Int) * (no_index (@OfNat.ofNat Int k _)) = ((a * (@OfNat.ofNat Nat k _) : Nat) : Int) := by simp
theorem foldMulL' (a k : Nat) : (no_index (@OfNat.ofNat Int k _)) * (a : Int) = (((@OfNat.ofNat Nat k _) * a : Nat) : Int) := by simp
theorem foldSubL {a k : Nat} (h : (@OfNat.ofNat Nat k _) ≤ a) : (a : Int) - (no_index (@OfNat.ofNat Int k _)) = ((a - (@OfNat.ofNat Nat k _) : Nat) : Int) := by
  rw [Int.ofNat_sub h]; rfl
theorem foldDiv (a b : Nat) : Int.tdiv (a : Int) (b : Int) = ((a / b : Nat) : Int) := by
  rw [Int.ofNat_tdiv]
theorem foldDivL (a k : Nat) : Int.tdiv (a : Int) (no_index (@OfNat.ofNat Int k _)) = ((a / (@OfNat.ofNat Nat k _) : Nat) : Int) := foldDiv a ((@OfNat.ofNat Nat k _))
theorem foldMod (a b : Nat) : Int.tmod (a : Int) (b : Int) = ((a % b : Nat) : Int) := by
  rw [Int.ofNat_tmod]
theorem foldModL (a k : Nat) : Int.tmod (a : Int) (no_index (@OfNat.ofNat Int k _)) = ((a % (@OfNat.ofNat Nat k _) : Nat) : Int) := foldMod a ((@OfNat.ofNat Nat k _))
theorem foldShr0 (a b : Nat) : Int.fdiv (a : Int) (b : Int) = ((a / b : Nat) : Int) := by
  rw [Int.fdiv_eq_ediv_of_nonneg _ (Int.natCast_nonneg b)]; rfl
theorem foldShr (a k : Nat) : Int.fdiv (a : Int) (no_index (@OfNat.ofNat Int k _)) = ((a / (@OfNat.ofNat Nat k _) : Nat) : Int) := foldShr0 a _
theorem wrapU32 (a : Nat) : IntKind.u32.wrap (a : Int) = ((a % 4294967296 : Nat) : Int) := by
  rw [IntKind.wrap_u32]; omega
theorem wrapU64 {a : Nat} (h : a < 18446744073709551616) : IntKind.u64.wrap (a : Int) = (a : Int) := IntWalk.u64_in _ (by omega)
theorem wrapI64 {a : Nat} (h : a < 9223372036854775808) : IntKind.i64.wrap (a : Int) = (a : Int) := IntWalk.i64_in _ (by omega)
theorem wrapSub64 {a b : Nat} (h : a < b ∧ b ≤ 18446744073709551616) : IntKind.u64.wrap ((a : Int) - (b : Int)) = ((a + 18446744073709551616 - b : Nat) : Int) := by
  rw [IntKind.wrap_u64]; omega
theorem wrapSub32 {a b : Nat} (h : a < b ∧ b ≤ 4294967296) : IntKind.u32.wrap ((a : Int) - (b : Int)) = ((a + 4294967296 - b : Nat) : Int) := by
  rw [IntKind.wrap_u32]; omega
theorem bitsU64 : IntKind.bits .u64 = 64 := rfl
theorem bitsU32 : IntKind.bits .u32 = 32 := rfl
theorem bitsI64 : IntKind.bits .i64 = 64 := rfl
theorem bitsU8 : IntKind.bits .u8 = 8 := rfl
theorem beqN {a b : Nat} : ((a : Int) == (b : Int)) = (a == b) := by
  by_cases h : a = b
  · subst h; simp only [beq_self_eq_true]
  · have : (a : Int) ≠ (b : Int) := by omega
    rw [beq_eq_false_iff_ne.2 h, beq_eq_false_iff_ne.2 this]
def snap (e : Env) : List Nat → Env
  | [] => []
  | k :: r => (k, e.get k) :: snap e r
def renE (ls : List Nat) : Env → Env
  | [] => []
  | (t, s) :: r => (t, s.ren (gcR ls)) :: renE ls r
def namedIn (i : Nat) : Env → Bool
  | [] => false
  | (_, s) :: r => s.ids.contains (.l i) || namedIn i r
def sweep (e : Env) : List Nat → List Nat
  | [] => []
  | i :: r => if namedIn i e = true then i :: sweep e r else sweep e r
def pickE (L : List Ent) : List Nat → List Ent
  | [] => []
  | i :: r => L.getD i .dead :: pickE L r
def posIn (i : Nat) : List Nat → Nat
  | [] => 0
  | j :: r => if j = i then 0 else posIn i r + 1
theorem posIn_eq (i : Nat) : ∀ l : List Nat, l.idxOf i = posIn i l
  | [] => rfl
  | j :: r => by
    rw [List.idxOf_cons, posIn, posIn_eq i r]
    by_cases h : j = i
    · subst h; simp
    · rw [if_neg h, beq_eq_false_iff_ne.2 h]; rfl
theorem gcR_l {ls : List Nat} {i : Nat} : gcR ls (.l i) = .l (posIn i ls) := by simp only [gcR, posIn_eq]
theorem gcR_b {ls : List Nat} {i : Nat} : gcR ls (.b i) = .b i := rfl
def gcV (e : Env) (B L : List Ent) (ls : List Nat) : St := ⟨renE ls e, B, pickE L ls⟩
def gcW (e : Env) (B L : List Ent) : St := gcV e B L (sweep e (List.range L.length))
theorem snap_eq (e : Env) (ks : List Nat) : e.keep ks = snap e ks := by
  induction ks with
  | nil => rfl
  | cons k r ih => simp only [Env.keep, List.map_cons, snap] at ih ⊢; rw [← ih]
theorem renE_eq (ls : List Nat) (e : Env) : e.map (fun p => (p.1, p.2.ren (gcR ls))) = renE ls e := by
  induction e with
  | nil => rfl
  | cons p r ih => obtain ⟨t, s⟩ := p; simp only [List.map_cons, renE, ih]
theorem namedIn_eq (i : Nat) (e : Env) : (e.any fun p => p.2.ids.contains (.l i)) = namedIn i e := by
  induction e with
  | nil => rfl
  | cons p r ih => obtain ⟨t, s⟩ := p; simp only [List.any_cons, namedIn, ih]
theorem sweep_eq (e : Env) (is : List Nat) : (is.filter fun i => e.any fun p => p.2.ids.contains (.l i)) = sweep e is := by
  induction is with
  | nil => rfl
  | cons i r ih => rw [List.filter_cons, ih, namedIn_eq]; rfl
theorem pickE_eq (L : List Ent) (is : List Nat) : is.map (fun i => L.getD i .dead) = pickE L is := by
  induction is with
  | nil => rfl
  | cons i r ih => simp only [List.map_cons, pickE, ih]
theorem gc_mk {keep : List Nat} {e : Env} {B L : List Ent} : gc keep ⟨e, B, L⟩ = gcW (snap e keep) B L := by
  simp only [gc, gcW, gcV, gcL, snap_eq, sweep_eq, renE_eq, pickE_eq]
theorem cells_int {k : IntKind} {n : Int} : FV.cells (.int k n) = [.int k n] := rfl
theorem okPart_int {k : IntKind} {n : Int} : okPart (.int k n) = true := rfl
theorem one_int {k : IntKind} {n : Int} : FV.one (.int k n) = true := rfl
theorem ld_int {k : IntKind} {n : Int} : ldElem false 1 0 (.int k n) = some (.int k n) := rfl
theorem st_int {k : IntKind} {n : Int} {y : FV} : stElem 0 (.int k n) y = if y.one = true then some y else none := by simp [stElem]
theorem cells_bool {b : Bool} : FV.cells (.bool b) = [.bool b] := rfl
theorem okPart_bool {b : Bool} : okPart (.bool b) = true := rfl
theorem one_bool {b : Bool} : FV.one (.bool b) = true := rfl
theorem ld_bool {b : Bool} : ldElem false 1 0 (.bool b) = some (.bool b) := rfl
theorem st_bool {b : Bool} {y : FV} : stElem 0 (.bool b) y = if y.one = true then some y else none := by simp [stElem]
theorem cells_str {s : ByteArray} : FV.cells (.str s) = [.str s] := rfl
theorem okPart_str {s : ByteArray} : okPart (.str s) = true := rfl
theorem one_str {s : ByteArray} : FV.one (.str s) = true := rfl
theorem ld_str {s : ByteArray} : ldElem false 1 0 (.str s) = some (.str s) := rfl
theorem st_str {s : ByteArray} {y : FV} : stElem 0 (.str s) y = if y.one = true then some y else none := by simp [stElem]
theorem cells_sl {t : Tag} {xs : List FV} : FV.cells (.sl t xs) = [.sl t xs] := rfl
theorem okPart_sl {t : Tag} {xs : List FV} : okPart (.sl t xs) = true := rfl
theorem one_sl {t : Tag} {xs : List FV} : FV.one (.sl t xs) = true := rfl
theorem ld_sl {t : Tag} {xs : List FV} : ldElem false 1 0 (.sl t xs) = some (.sl t xs) := rfl
theorem st_sl {t : Tag} {xs : List FV} {y : FV} : stElem 0 (.sl t xs) y = if y.one = true then some y else none := by simp [stElem]
theorem cells_fn {f : Fn} {a b : List FV} : FV.cells (.fn f a b) = [.fn f a b] := rfl
theorem okPart_fn {f : Fn} {a b : List FV} : okPart (.fn f a b) = true := rfl
theorem one_fn {f : Fn} {a b : List FV} : FV.one (.fn f a b) = true := rfl
theorem ld_fn {f : Fn} {a b : List FV} : ldElem false 1 0 (.fn f a b) = some (.fn f a b) := rfl
theorem st_fn {f : Fn} {a b : List FV} {y : FV} : stElem 0 (.fn f a b) y = if y.one = true then some y else none := by simp [stElem]
theorem cells_nilFn  : FV.cells (.nilFn) = [.nilFn] := rfl
theorem okPart_nilFn  : okPart (.nilFn) = true := rfl
theorem one_nilFn  : FV.one (.nilFn) = true := rfl
theorem ld_nilFn  : ldElem false 1 0 (.nilFn) = some (.nilFn) := rfl
theorem st_nilFn  {y : FV} : stElem 0 (.nilFn) y = if y.one = true then some y else none := by simp [stElem]
theorem cells_ptr {x : FV} : FV.cells (.ptr x) = [.ptr x] := rfl
theorem okPart_ptr {x : FV} : okPart (.ptr x) = true := rfl
theorem one_ptr {x : FV} : FV.one (.ptr x) = true := rfl
theorem ld_ptr {x : FV} : ldElem false 1 0 (.ptr x) = some (.ptr x) := rfl
theorem st_ptr {z : FV} {y : FV} : stElem 0 (.ptr z) y = if y.one = true then some y else none := by simp [stElem]
theorem cells_nilPtr  : FV.cells (.nilPtr) = [.nilPtr] := rfl
theorem okPart_nilPtr  : okPart (.nilPtr) = true := rfl
theorem one_nilPtr  : FV.one (.nilPtr) = true := rfl
theorem ld_nilPtr  : ldElem false 1 0 (.nilPtr) = some (.nilPtr) := rfl
theorem st_nilPtr  {y : FV} : stElem 0 (.nilPtr) y = if y.one = true then some y else none := by simp [stElem]
theorem cells_iface {t : TypeId} {x : FV} : FV.cells (.iface t x) = [.iface t x] := rfl
theorem okPart_iface {t : TypeId} {x : FV} : okPart (.iface t x) = true := rfl
theorem one_iface {t : TypeId} {x : FV} : FV.one (.iface t x) = true := rfl
theorem ld_iface {t : TypeId} {x : FV} : ldElem false 1 0 (.iface t x) = some (.iface t x) := rfl
theorem st_iface {t : TypeId} {z : FV} {y : FV} : stElem 0 (.iface t z) y = if y.one = true then some y else none := by simp [stElem]
theorem cells_nilIface  : FV.cells (.nilIface) = [.nilIface] := rfl
theorem okPart_nilIface  : okPart (.nilIface) = true := rfl
theorem one_nilIface  : FV.one (.nilIface) = true := rfl
theorem ld_nilIface  : ldElem false 1 0 (.nilIface) = some (.nilIface) := rfl
theorem st_nilIface  {y : FV} : stElem 0 (.nilIface) y = if y.one = true then some y else none := by simp [stElem]
theorem cells_agg {cs : List FV} : FV.cells (.agg cs) = cs := rfl
theorem okPart_aggl {cs : List FV} : okPart (.agg cs) = true := rfl
theorem one_agg {cs : List FV} : FV.one (.agg cs) = false := rfl
def ldAgg (ag : Bool) (sz c : Nat) (cs : List FV) : Option FV :=
  if c = 0 ∧ (ag = true ∧ cs.length = sz) then some (.agg cs)
  else if ag = true then (if c + sz ≤ cs.length ∧ 0 < sz then some (.agg (cutL cs c sz)) else none)
  else if sz = 1 then cs[c]? else none
theorem ld_aggl {ag : Bool} {sz c : Nat} {cs : List FV} : ldElem ag sz c (.agg cs) = ldAgg ag sz c cs := by
  cases ag
  · simp [ldElem, ldAgg, FV.fits, FV.one, FV.cells]
  · show (if c = 0 ∧ (cs.length == sz) = true then some (FV.agg cs) else if c + sz ≤ cs.length ∧ 0 < sz then some (.agg (cutL cs c sz)) else none) = if c = 0 ∧ (true = true ∧ cs.length = sz) then some (FV.agg cs) else if c + sz ≤ cs.length ∧ 0 < sz then some (.agg (cutL cs c sz)) else none
    by_cases h : c = 0 ∧ cs.length = sz
    · simp [h]
    · have h' : ¬ (c = 0 ∧ (cs.length == sz) = true) := by simpa using h
      have h2 : ¬ (c = 0 ∧ (true = true ∧ cs.length = sz)) := by simpa using h
      exact (if_neg h').trans (if_neg h2).symm
theorem st_aggl {c : Nat} {cs : List FV} {y : FV} : stElem c (.agg cs) y = if c + y.cells.length ≤ cs.length then some (.agg (cs.take c ++ y.cells ++ cs.drop (c + y.cells.length))) else none := rfl
def Agg (n : Nat) (x : FV) : Prop := ∃ cs, x = .agg cs ∧ cs.length = n
theorem ld_agg {n : Nat} {x : FV} (h : Agg n x) : ldElem true n 0 x = some x := by
  obtain ⟨cs, rfl, hl⟩ := h
  simp [ldElem, FV.fits, hl]
theorem st_agg {n : Nat} {x y : FV} (h : Agg n x) (k : Agg n y) : stElem 0 x y = some y := by
  obtain ⟨cs, rfl, hl⟩ := h
  obtain ⟨ds, rfl, kl⟩ := k
  have e1 : List.drop (0 + ds.length) cs = [] := by rw [List.drop_eq_nil_iff]; omega
  have e2 : (FV.agg ds).cells = ds := rfl
  have e3 : 0 + ds.length ≤ cs.length := by omega
  simp only [stElem, e2, e3, if_true, e1, List.take_zero, List.nil_append, List.append_nil]
theorem okPart_agg {n : Nat} {x : FV} (h : Agg n x) : okPart x = true := by
  obtain ⟨cs, rfl, hl⟩ := h; rfl
theorem len_agg {n : Nat} {x : FV} (h : Agg n x) : x.cells.length = n := by
  obtain ⟨cs, rfl, hl⟩ := h; exact hl
theorem st_agg2 {x y : FV} (h : Agg 2 x) (k : Agg 2 y) : stElem 0 x y = some y := st_agg h k
theorem okPart_agg2 {x : FV} (h : Agg 2 x) : okPart x = true := okPart_agg h
theorem len_agg2 {x : FV} (h : Agg 2 x) : x.cells.length = 2 := len_agg h
theorem agg_two (a b : FV) : Agg 2 (.agg [a, b]) := ⟨_, rfl, rfl⟩
theorem okPart_agg4 {x : FV} (h : Agg 4 x) : okPart x = true := okPart_agg h
theorem len_agg4 {x : FV} (h : Agg 4 x) : x.cells.length = 4 := len_agg h
theorem st_agg4 {x y : FV} (h : Agg 4 x) (k : Agg 4 y) : stElem 0 x y = some y := st_agg h k
theorem agg_cells2 {x : FV} (h : Agg 2 x) : FV.agg (FV.cells x) = x := by
  obtain ⟨cs, rfl, hl⟩ := h; rfl
theorem repl1 {α : Type} {a : α} : List.replicate 1 a = [a] := rfl
theorem repl2 {α : Type} {a : α} : List.replicate 2 a = [a, a] := rfl
theorem repl3 {α : Type} {a : α} : List.replicate 3 a = [a, a, a] := rfl
theorem repl4 {α : Type} {a : α} : List.replicate 4 a = [a, a, a, a] := rfl
theorem ids_fv {x : FV} : SV.ids (.fv x) = [] := rfl
theorem wid_nil {sz : Nat} : wid sz [] = true := rfl
theorem wid_cons {sz : Nat} {x : FV} {r : List FV} : wid sz (x :: r) = (x.cells.length == sz && wid sz r) := rfl
theorem idBeq_ll {i j : Nat} : (Id.l i == Id.l j) = (i == j) := by
  by_cases h : i = j
  · subst h; simp
  · rw [beq_eq_false_iff_ne.2 h, beq_eq_false_iff_ne.2 (by simpa using h)]
theorem idBeq_bb {i j : Nat} : (Id.b i == Id.b j) = (i == j) := by
  by_cases h : i = j
  · subst h; simp
  · rw [beq_eq_false_iff_ne.2 h, beq_eq_false_iff_ne.2 (by simpa using h)]
theorem idBeq_lb {i j : Nat} : (Id.l i == Id.b j) = false := beq_eq_false_iff_ne.2 (by simp)
theorem idBeq_bl {i j : Nat} : (Id.b i == Id.l j) = false := beq_eq_false_iff_ne.2 (by simp)
def accS (sz k : Nat) (xs : List FV) : SV := if xs.isEmpty = true then .fv (.sl .nil []) else .ref (.l k) sz 0 xs.length true
def accL (sz : Nat) (xs : List FV) : List Ent := if xs.isEmpty = true then [] else [.own sz xs]
def accT (xs : List FV) : Tag := if xs.isEmpty = true then .nil else .any
theorem accS_nil {sz k : Nat} : accS sz k [] = .fv (.sl .nil []) := rfl
theorem accL_nil {sz : Nat} : accL sz [] = [] := rfl
theorem accS_ne {sz k : Nat} {xs : List FV} (h : xs ≠ []) : accS sz k xs = .ref (.l k) sz 0 xs.length true := by
  cases xs with
  | nil => exact absurd rfl h
  | cons x r => rfl
theorem accL_ne {sz : Nat} {xs : List FV} (h : xs ≠ []) : accL sz xs = [.own sz xs] := by
  cases xs with
  | nil => exact absurd rfl h
  | cons x r => rfl
theorem accT_ne {xs : List FV} (h : xs ≠ []) : accT xs = .any := by
  cases xs with
  | nil => exact absurd rfl h
  | cons x r => rfl
theorem i64s_nil : i64s [] = [] := rfl
theorem u32s_nil : u32s [] = [] := rfl
theorem i64s_ne {xs : List Nat} (h : xs ≠ []) : i64s xs ≠ [] := by simpa using h
theorem u32s_ne {xs : List Nat} (h : xs ≠ []) : u32s xs ≠ [] := by simpa using h
theorem i64s_snoc (xs : List Nat) (v : Nat) : i64s xs ++ [FV.int .i64 (v : Int)] = i64s (xs ++ [v]) := by simp
theorem i64s_snoc2 (xs : List Nat) (u v : Nat) : i64s xs ++ [FV.int .i64 (u : Int), FV.int .i64 (v : Int)] = i64s (xs ++ [u, v]) := by simp
theorem u32s_snoc (xs : List Nat) (v : Nat) : u32s xs ++ [FV.int .u32 (v : Int)] = u32s (xs ++ [v]) := by simp
theorem natAdd1 (i : Nat) : (i : Int) + 1 = ((i + 1 : Nat) : Int) := by omega
end Go.Ab
