/- A part of the proof: an evaluator of programs, its soundness, and what it says of the functions in hand. It holds without further conditions. -/
import Derived.Test.YtpfbgpclhkjgaaaGreatAb17
set_option linter.unusedVariables false
set_option linter.unusedSimpArgs false
namespace Go.Ab

section
variable {P : Program} {w w' : World} {O : Nat → Prop} {ρ : Rho} {B L : List Ent}

theorem Sim.keep {nt : Nat} {w0 : World} {ρ0 : Rho} {B0 : List Ent} {st : St} {a : Act} (h : Sim nt w0 O ρ0 B0 st a w ρ) (ks : List Nat) : Sim nt w0 O ρ0 B0 { st with env := st.env.keep ks } a w ρ :=
  ⟨h.heap, fun t => by
    rcases get_keep ks st.env t with e | e
    · simp only [e]; exact h.env t
    · simp only [e]; trivial, h.size, h.dfr, h.chg, h.rho, h.av, h.lenB, h.noO⟩

/-! ### What falls away at the head of a loop -/
def gcRho (ρ : Rho) (ls : List Nat) : Rho
  | .b i => ρ (.b i)
  | .l j => ρ (.l (ls.getD j 0))

theorem get_map (e : Env) (f : SV → SV) (hf : f .unk = .unk) (t : Nat) : Env.get (e.map fun p => (p.1, f p.2)) t = f (e.get t) := by
  induction e with
  | nil => simp [Env.get, hf]
  | cons p e ih =>
    obtain ⟨k, x⟩ := p
    simp only [List.map_cons, Env.get]
    split
    · rfl
    · exact ih

theorem get_mem {e : Env} {t : Nat} {s : SV} (h : e.get t = s) (hs : s ≠ .unk) : ∃ p ∈ e, p.2 = s := by
  induction e with
  | nil => simp [Env.get] at h; exact absurd h.symm hs
  | cons p e ih =>
    obtain ⟨k, x⟩ := p
    simp only [Env.get] at h
    split at h
    · exact ⟨(k, x), by simp, h⟩
    · obtain ⟨q, hq, e'⟩ := ih h
      exact ⟨q, List.mem_cons_of_mem _ hq, e'⟩

theorem Sim.gc {nt : Nat} {w0 : World} {ρ0 : Rho} {B0 : List Ent} {st : St} {a : Act} (h : Sim nt w0 O ρ0 B0 st a w ρ) (ks : List Nat) : ∃ ρ', Sim nt w0 O ρ0 B0 (gc ks st) a w ρ' := by
  have hk := h.keep ks
  unfold Ab.gc
  generalize st.env.keep ks = e at hk
  suffices H : ∀ ls, gcL e st.L.length = ls → ∃ ρ', Sim nt w0 O ρ0 B0 ⟨e.map fun p => (p.1, p.2.ren (gcR ls)), st.B, ls.map fun i => st.L.getD i .dead⟩ a w ρ' from H _ rfl
  intro ls hls
  have hlt : ∀ i ∈ ls, i < st.L.length := by
    intro i hi
    rw [← hls] at hi
    simp only [gcL, List.mem_filter, List.mem_range] at hi
    exact hi.1
  have hnd : ls.Nodup := by
    rw [← hls]
    exact List.Pairwise.filter _ List.nodup_range
  have hmem : ∀ t i, (.l i) ∈ (e.get t).ids → i < st.L.length → i ∈ ls := by
    intro t i hi hlt
    rw [← hls]
    simp only [gcL, List.mem_filter, List.mem_range]
    refine ⟨hlt, ?_⟩
    obtain ⟨p, hp, e'⟩ := get_mem (e := e) (t := t) rfl (by intro h; rw [h] at hi; simp [SV.ids] at hi)
    rw [List.any_eq_true]
    exact ⟨p, hp, by rw [e']; simpa using hi⟩
  have hent : ∀ i, ent st.B (ls.map fun i => st.L.getD i .dead) i = match i with | .b j => ent st.B st.L (.b j) | .l j => (match ls[j]? with | some k => ent st.B st.L (.l k) | none => .dead) := by
    intro i
    cases i with
    | b j => rfl
    | l j => simp only [ent, List.getD_eq_getElem?_getD, List.getElem?_map]; cases ls[j]? <;> rfl
  have hold : ∀ i, ent st.B (ls.map fun i => st.L.getD i .dead) i ≠ .dead → ∃ k, ent st.B (ls.map fun i => st.L.getD i .dead) i = ent st.B st.L k ∧ gcRho ρ ls i = ρ k ∧
      ((∃ j, i = .b j ∧ k = .b j) ∨ ∃ j n, i = .l j ∧ k = .l n ∧ ls[j]? = some n) := by
    intro i hi
    rw [hent] at hi ⊢
    cases i with
    | b j => exact ⟨.b j, rfl, rfl, .inl ⟨j, rfl, rfl⟩⟩
    | l j =>
      simp only at hi ⊢
      cases hj : ls[j]? with
      | none => rw [hj] at hi; exact absurd rfl hi
      | some n => exact ⟨.l n, rfl, by simp [gcRho, List.getD_eq_getElem?_getD, hj], .inr ⟨j, n, rfl, rfl, hj⟩⟩
  have hav : ∀ b, Av O (gcRho ρ ls) st.B (ls.map fun i => st.L.getD i .dead) b → Av O ρ st.B st.L b := by
    rintro b (hb | ⟨i, hi, e'⟩)
    · exact .inl hb
    · obtain ⟨k, h1, h2, _⟩ := hold i (by intro hd; rw [hd] at hi; simp [Ent.isOwn] at hi)
      exact .inr ⟨k, by rw [← h1]; exact hi, by rw [← h2]; exact e'⟩
  have hrd : ∀ {v x}, Rd w (Av O ρ st.B st.L) v x → Rd w (Av O (gcRho ρ ls) st.B (ls.map fun i => st.L.getD i .dead)) v x := fun h => Rd.congrA hav h
  have hid : ∀ i, i.valid st.B st.L → (∀ n, i = .l n → n ∈ ls) → gcRho ρ ls (gcR ls i) = ρ i ∧ (gcR ls i).valid st.B (ls.map fun i => st.L.getD i .dead) := by
    intro i hv hm
    cases i with
    | b j => exact ⟨rfl, hv⟩
    | l n =>
      have hn := hm n rfl
      have hl := List.idxOf_lt_length_iff.2 hn
      refine ⟨?_, by simpa [gcR, Id.valid] using hl⟩
      simp only [gcR, gcRho, List.getD_eq_getElem?_getD, List.getElem?_eq_getElem hl]
      simp
  refine ⟨gcRho ρ ls, ⟨?_, ?_, h.heap.oLt, ?_, ?_⟩, fun t => ?_, h.size, h.dfr, h.chg, fun i hi => h.rho i hi, fun b hb hA => h.av b hb (hav b hA), h.lenB, h.noO⟩
  · intro i j hi hj e'
    obtain ⟨k, h1, h2, h3⟩ := hold i (by intro hd; rw [hd] at hi; simp [Ent.isOwn] at hi)
    obtain ⟨k', h1', h2', h3'⟩ := hold j (by intro hd; rw [hd] at hj; simp [Ent.isOwn] at hj)
    have := h.heap.inj k k' (by rw [← h1]; exact hi) (by rw [← h1']; exact hj) (by rw [← h2, ← h2']; exact e')
    subst this
    rcases h3 with ⟨a1, rfl, rfl⟩ | ⟨a1, n, rfl, rfl, hn⟩
    · rcases h3' with ⟨b1, rfl, hk⟩ | ⟨b1, m, rfl, hk, _⟩
      · injection hk with hk; rw [hk]
      · cases hk
    · rcases h3' with ⟨b1, rfl, hk⟩ | ⟨b1, m, rfl, hk, hm⟩
      · cases hk
      · injection hk with hk; subst hk
        rw [(List.getElem?_inj (List.getElem?_eq_some_iff.1 hn).1 hnd).1 (hn.trans hm.symm)]
  · intro i hi
    obtain ⟨k, h1, h2, _⟩ := hold i (by intro hd; rw [hd] at hi; simp [Ent.isOwn] at hi)
    rw [h2]; exact h.heap.notO k (by rw [← h1]; exact hi)
  · intro i sz xs he
    obtain ⟨k, h1, h2, _⟩ := hold i (by rw [he]; simp)
    obtain ⟨k1, k2, k3, k4, cur, t, k5, k6, k7⟩ := h.heap.own k sz xs (by rw [← h1]; exact he)
    rw [h2]
    refine ⟨k1, k2, k3, k4, cur, t, k5, k6, fun j x hx => ?_⟩
    obtain ⟨v, hv, hr⟩ := k7 j x hx; exact ⟨v, hv, hrd hr⟩
  · intro i sz xs he
    obtain ⟨k, h1, h2, _⟩ := hold i (by rw [he]; simp)
    obtain ⟨k1, k2, k3, k4, k5⟩ := h.heap.frz k sz xs (by rw [← h1]; exact he)
    rw [h2]
    refine ⟨k1, k2, fun hA => k3 (hav _ hA), k4, fun j x hx => ?_⟩
    obtain ⟨v, hv, hr⟩ := k5 j x hx; exact ⟨v, hv, hrd hr⟩
  · simp only
    rw [get_map e (SV.ren (gcR ls)) rfl t]
    have hr := hk.env t
    simp only at hr
    cases hs : e.get t with
    | unk => trivial
    | fv x => rw [hs] at hr; exact hrd hr
    | ref id sz off len ap =>
      rw [hs] at hr
      obtain ⟨q1, q2⟩ := hid id hr.1 (fun n hn => by subst hn; exact hmem t n (by rw [hs]; simp [SV.ids]) hr.1)
      refine ⟨q2, ?_⟩; rw [q1]; exact hr.2
    | ptr id sz i c =>
      rw [hs] at hr
      obtain ⟨q1, q2⟩ := hid id hr.1 (fun n hn => by subst hn; exact hmem t n (by rw [hs]; simp [SV.ids]) hr.1)
      refine ⟨q2, ?_⟩; rw [q1]; exact hr.2
    | clo f nf caps =>
      rw [hs] at hr
      obtain ⟨fs, cs, e', h1, h2, h4⟩ := hr
      refine ⟨fs, cs, e', h1, by simpa using h2, fun j u x hu hx => ?_⟩
      simp only [List.getElem?_map, Option.map_eq_some_iff] at hx
      obtain ⟨c, hc, rfl⟩ := hx
      have hcr := h4 j u c hu hc
      cases c with
      | fz y => exact hrd hcr
      | own id sz =>
        obtain ⟨q1, q2⟩ := hid id hcr.1 (fun n hn => by
          subst hn
          refine hmem t n ?_ hcr.1
          rw [hs]
          simp only [SV.ids, List.mem_flatMap]
          exact ⟨_, List.mem_of_getElem? hc, by simp [Cap.ids]⟩)
        exact ⟨q2, by rw [q1]; exact hcr.2⟩

/-! ### Code -/
def exitOf : IExit → Exit
  | .normal => .normal
  | .exit id => .exit id
  | .ret => .ret

theorem steps_strip {ops : List Oper} {call : Disp} {an : Ann} {self : FuncId} : ∀ (ss : List IStep) (st : St), evSteps call an self (ss.map fun s => { s with after := [] }) st = evSteps call an self ss st
  | [], st => rfl
  | s :: ss, st => by
    simp only [List.map_cons, evSteps]
    have : evStep call an self { s with after := [] } st = evStep call an self s st := rfl
    rw [this]
    congr 1
    funext st'
    exact steps_strip (ops := ops) ss st'

theorem evC_wp {nt : Nat} {call : Disp} {an : Ann} {self : FuncId} (good : Good P call) (hm : P.follows .mixedOrders = true) {w0 : World} {ρ0 : Rho} {B0 : List Ent} (k : Nat) :
    ∀ (c : Code) (h h' : List (List Nat)) (ic : ICode) (st st' : St) (ex : IExit) (a : Act) (w : World) (ρ : Rho) (Q : Exit → Act → World → Prop), trC P nt c h = some (ic, h') → evC call an self k ic st = some (ex, st') →
      Sim nt w0 O ρ0 B0 st a w ρ → (∀ a w ρ, Sim nt w0 O ρ0 B0 st' a w ρ → Q (exitOf ex) a w) → c.wp P Q a w := by
  intro c
  induction c with
  | skip =>
    intro h h' ic st st' ex a w ρ Q ht he hs hQ
    simp only [trC, Option.some.injEq, Prod.mk.injEq] at ht
    obtain ⟨rfl, rfl⟩ := ht
    simp only [evC, Option.some.injEq, Prod.mk.injEq] at he
    obtain ⟨rfl, rfl⟩ := he
    exact wp_skip (hQ a w ρ hs)
  | region id ops dr =>
    intro h h' ic st st' ex a w ρ Q ht he hs hQ
    simp only [trC, Option.bind_eq_some_iff] at ht
    obtain ⟨ss, h1, ht⟩ := ht
    cases dr with
    | true =>
      simp only [if_true] at ht
      split at ht
      · rename_i hok
        simp only [Option.some.injEq, Prod.mk.injEq] at ht
        obtain ⟨rfl, rfl⟩ := ht
        simp only [evC] at he
        obtain ⟨st1, h2, h3⟩ := Option.map_eq_some_iff.1 he
        simp only [Prod.mk.injEq] at h3
        obtain ⟨rfl, rfl⟩ := h3
        exact draw_wp good hm h1 hok h2 (hs.keep _) fun a w ρ h => hQ a w ρ h
      · cases ht
    | false =>
      simp only [Bool.false_eq_true, if_false, Option.some.injEq, Prod.mk.injEq] at ht
      obtain ⟨rfl, rfl⟩ := ht
      simp only [evC] at he
      obtain ⟨st1, h2, h3⟩ := Option.map_eq_some_iff.1 he
      simp only [Prod.mk.injEq] at h3
      obtain ⟨rfl, rfl⟩ := h3
      rw [steps_strip (ops := ops.toList)] at h2
      refine wp_region_list ?_
      have := evSteps_wp (P := P) (ops := ops.toList) (Q := Q) good (fun a w ρ h => hQ a w ρ h) ops.toList ss _ a w ρ h1 h2 (hs.keep _)
      simpa using this
  | seq x y ihx ihy =>
    intro h h' ic st st' ex a w ρ Q ht he hs hQ
    simp only [trC, Option.bind_eq_some_iff, Option.map_eq_some_iff, Prod.mk.injEq] at ht
    obtain ⟨⟨ix, h1⟩, hx, ⟨iy, h2⟩, hy, rfl, rfl⟩ := ht
    simp only [evC] at he
    refine wp_seq ?_
    split at he
    · rename_i st1 h3
      exact ihx _ _ _ _ _ _ _ _ _ _ hx h3 hs fun a w ρ h => ihy _ _ _ _ _ _ _ _ _ _ hy he h hQ
    · rename_i hne
      refine ihx _ _ _ _ _ _ _ _ _ _ hx he hs fun a w ρ h => ?_
      have := hQ a w ρ h
      cases ex with
      | normal => exact absurd he (hne st')
      | exit id => exact this
      | ret => exact this
  | cond c x y ihx ihy =>
    intro h h' ic st st' ex a w ρ Q ht he hs hQ
    simp only [trC, Option.bind_eq_some_iff, Option.map_eq_some_iff, Prod.mk.injEq] at ht
    obtain ⟨c', hc, ⟨ix, h1⟩, hx, ⟨iy, h2⟩, hy, rfl, rfl⟩ := ht
    simp only [evC] at he
    split at he
    · rename_i t hct
      have hr : SvRel w (Av O ρ st.B st.L) ρ st.B st.L (a.eval c) (opd st.env c') := by
        unfold trOpd at hc
        split at hc
        · split at hc
          · injection hc with hc; subst hc; exact hs.env _
          · cases hc
        · obtain ⟨z, hz, rfl⟩ := Option.map_eq_some_iff.1 hc
          exact (fvOf_rd hz _ _).1
        · injection hc with hc; subst hc; simp [opd] at hct
        · cases hc
      rw [hct] at hr
      have hv := Rd.inv_bool hr
      refine wp_cond hv ?_
      cases t with
      | true => exact ihx _ _ _ _ _ _ _ _ _ _ hx (by simpa using he) hs hQ
      | false => exact ihy _ _ _ _ _ _ _ _ _ _ hy (by simpa using he) hs hQ
    · cases he
  | block id b ih =>
    intro h h' ic st st' ex a w ρ Q ht he hs hQ
    simp only [trC, Option.map_eq_some_iff, Prod.mk.injEq] at ht
    obtain ⟨⟨ib, h1⟩, hb, rfl, rfl⟩ := ht
    simp only [evC] at he
    refine wp_block ?_
    split at he
    · rename_i i st1 h3
      split at he
      · rename_i hi
        simp only [Option.some.injEq, Prod.mk.injEq] at he
        obtain ⟨rfl, rfl⟩ := he
        exact ih _ _ _ _ _ _ _ _ _ _ hb h3 hs fun a w ρ h => by
          simp only [exitOf, Exit.inBlock, hi, if_true]; exact hQ a w ρ h
      · rename_i hi
        simp only [Option.some.injEq, Prod.mk.injEq] at he
        obtain ⟨rfl, rfl⟩ := he
        exact ih _ _ _ _ _ _ _ _ _ _ hb h3 hs fun a w ρ h => by
          simp only [exitOf, Exit.inBlock, hi, if_false]; exact hQ a w ρ h
    · rename_i hne
      refine ih _ _ _ _ _ _ _ _ _ _ hb he hs fun a w ρ h => ?_
      have := hQ a w ρ h
      cases ex with
      | normal => exact this
      | exit id' => exact absurd he (hne id' st')
      | ret => exact this
  | loop b ih =>
    intro h h' ic st st' ex a w ρ Q ht he hs hQ
    simp only [trC, Option.map_eq_some_iff, Prod.mk.injEq] at ht
    obtain ⟨⟨ib, h1⟩, hb, rfl, rfl⟩ := ht
    simp only [evC] at he
    have key : ∀ (n : Nat) (st : St) (a : Act) (w : World) (ρ : Rho), iter (fun st => evC call an self k ib (gc (h.headD []) st)) n st = some (ex, st') → Sim nt w0 O ρ0 B0 st a w ρ → Code.rounds P b Q n a w := by
      intro n
      induction n with
      | zero => intro st a w ρ h _; simp [iter] at h
      | succ n ihn =>
        intro st a w ρ hi hs
        simp only [iter] at hi
        rw [rounds_succ]
        obtain ⟨ρ', hs'⟩ := hs.gc (h.headD [])
        split at hi
        · rename_i st1 h3
          exact ih _ _ _ _ _ _ _ _ _ _ hb h3 hs' fun a w ρ h => ihn st1 a w ρ hi h
        · rename_i hne
          refine ih _ _ _ _ _ _ _ _ _ _ hb hi hs' fun a w ρ h => ?_
          have := hQ a w ρ h
          cases ex with
          | normal => exact absurd hi (hne st')
          | exit id => exact this
          | ret => exact this
    exact wp_loop_rounds k (key k st a w ρ he hs)
  | exit id =>
    intro h h' ic st st' ex a w ρ Q ht he hs hQ
    simp only [trC, Option.some.injEq, Prod.mk.injEq] at ht
    obtain ⟨rfl, rfl⟩ := ht
    simp only [evC, Option.some.injEq, Prod.mk.injEq] at he
    obtain ⟨rfl, rfl⟩ := he
    exact wp_exit (hQ a w ρ hs)
  | ret =>
    intro h h' ic st st' ex a w ρ Q ht he hs hQ
    simp only [trC, Option.some.injEq, Prod.mk.injEq] at ht
    obtain ⟨rfl, rfl⟩ := ht
    simp only [evC, Option.some.injEq, Prod.mk.injEq] at he
    obtain ⟨rfl, rfl⟩ := he
    exact wp_ret (hQ a w ρ hs)
  | _ => intro h h' ic st st' ex a w ρ Q ht; simp [trC] at ht

/-! ### Functions -/
theorem res_run {nt : Nat} {w0 : World} {ρ0 : Rho} {B0 : List Ent} {st : St} {a : Act} (hs : Sim nt w0 O ρ0 B0 st a w ρ) {r : ResultVar} {ir : IRes} {s : SV} (ht : trRes P nt r = some ir) (he : evRes st.env st.B st.L ir = some s) :
    ∃ v, (match r with | .tmp t => pure (a.tmps.getD t undef) | .cell c t => do loadVar t (← asAddr (a.tmps.getD c undef)) : Sem Value).run P w = .ok v w ∧ SvRel w (Av O ρ st.B st.L) ρ st.B st.L v s := by
  unfold trRes at ht
  split at ht
  · split at ht
    · injection ht with ht; subst ht
      simp only [evRes] at he
      split at he
      · cases he
      · injection he with he; subst he
        exact ⟨_, rfl, hs.env _⟩
    · cases ht
  · rename_i t ty
    split at ht
    · simp only [Option.bind_eq_some_iff, Option.map_eq_some_iff] at ht
      obtain ⟨ag, h1, n, h2, rfl⟩ := ht
      simp only [evRes] at he
      split at he
      · rename_i id sz i c hg
        have hr := hs.env t
        rw [hg] at hr
        obtain ⟨_, hv⟩ := hr
        have key : ∀ sz2 xs, (ent st.B st.L id = .own sz2 xs ∨ ent st.B st.L id = .frz sz2 xs) → (if sz = sz2 then (xs[i]?).bind fun y => (ldElem ag n c y).map SV.fv else none) = some s →
            ∃ v, ((do loadVar ty (← asAddr (a.tmps.getD t undef))) : Sem Value).run P w = .ok v w ∧ SvRel w (Av O ρ st.B st.L) ρ st.B st.L v s := by
          intro sz2 xs hen h
          split at h
          · rename_i hsz; subst hsz
            simp only [Option.bind_eq_some_iff, Option.map_eq_some_iff] at h
            obtain ⟨x, hx, z, hz, rfl⟩ := h
            obtain ⟨k1, k2, k3⟩ := entRd hs.heap hen
            obtain ⟨u, hu1, hu2⟩ := load_elem (P := P) h1 h2 k2 k3 hx hz
            refine ⟨u, ?_, hu2⟩
            simp only [hv, asAddr, Sem.run_bind, Sem.run_pure, Result.andThen_ok]
            exact hu1
          · cases h
        split at he
        · rename_i sz2 xs hen; exact key _ _ (.inl hen) he
        · rename_i sz2 xs hen; exact key _ _ (.inr hen) he
        · cases he
      · cases he
    · cases ht

theorem ress_run {nt : Nat} {w0 : World} {ρ0 : Rho} {B0 : List Ent} {st : St} {a : Act} (hs : Sim nt w0 O ρ0 B0 st a w ρ) : ∀ (rs : List ResultVar) (irs : List IRes) (ss : List SV), trRess P nt rs = some irs → evRess st.env st.B st.L irs = some ss →
    ∃ vs : List Value, (List.mapM (fun r => match r with | .tmp t => pure (a.tmps.getD t undef) | .cell c t => do loadVar t (← asAddr (a.tmps.getD c undef)) : ResultVar → Sem Value) rs).run P w = .ok vs w ∧ vs.length = ss.length ∧
      ∀ (j : Nat) (v : Value) (s : SV), vs[j]? = some v → ss[j]? = some s → SvRel w (Av O ρ st.B st.L) ρ st.B st.L v s
  | [], irs, ss, h1, h2 => by
    simp only [trRess, Option.some.injEq] at h1; subst h1
    simp only [evRess, Option.some.injEq] at h2; subst h2
    exact ⟨[], rfl, rfl, by simp⟩
  | r :: rs, irs, ss, h1, h2 => by
    simp only [trRess, Option.bind_eq_some_iff, Option.map_eq_some_iff] at h1
    obtain ⟨ir, k1, irs', k2, rfl⟩ := h1
    simp only [evRess, Option.bind_eq_some_iff, Option.map_eq_some_iff] at h2
    obtain ⟨s, k3, ss', k4, rfl⟩ := h2
    obtain ⟨v, hv1, hv2⟩ := res_run hs k1 k3
    obtain ⟨vs, q1, q2, q3⟩ := ress_run hs rs irs' ss' k2 k4
    refine ⟨v :: vs, ?_, by simp [q2], fun j u x hu hx => ?_⟩
    · rw [List.mapM_cons]
      simp only [Sem.run_bind, hv1, Result.andThen_ok, q1, Sem.run_pure]
    · match j with
      | 0 => simp at hu hx; subst hu; subst hx; exact hv2
      | j + 1 => exact q3 j u x (by simpa using hu) (by simpa using hx)

theorem get_argEnv : ∀ (args : List SV) (i t : Nat), Env.get (argEnv i args) t = if i ≤ t then (args[t - i]?).getD .unk else .unk
  | [], i, t => by simp [argEnv, Env.get]
  | s :: r, i, t => by
    simp only [argEnv, Env.get]
    by_cases h : i = t
    · subst h; simp
    · rw [if_neg h, get_argEnv r (i + 1) t]
      by_cases h2 : i + 1 ≤ t
      · rw [if_pos h2, if_pos (by omega), show t - i = t - (i + 1) + 1 from by omega]
        simp
      · rw [if_neg h2, if_neg (by omega)]

/-- What a table of functions must be good for. -/
def TabOK (P : Program) (fns : FuncId → Option IFn) : Prop := ∀ f fn, fns f = some fn → ∃ F h, P.funcs[f]? = some F ∧ trF P h F = some fn

theorem finish_ok {nt : Nat} {w0 : World} {ρ0 : Rho} {B0 : List Ent} {st : St} {a : Act} (hs : Sim nt w0 O ρ0 B0 st a w ρ) {vs : List Value} {ss : List SV} (hl : vs.length = ss.length)
    (hr : ∀ (j : Nat) (v : Value) (s : SV), vs[j]? = some v → ss[j]? = some s → SvRel w (Av O ρ st.B st.L) ρ st.B st.L v s) {r : SV} {B' L' : List Ent} (h : finish ss st.B st.L = some (r, B', L')) :
    Sim nt w0 O ρ0 B0 ⟨st.env, B', L'⟩ a w ρ ∧ SvRel w (Av O ρ B' L') ρ B' L' (if h : vs.toArray.size = 1 then vs.toArray[0] else .tuple vs.toArray) r := by
  have many : (∀ s, ss ≠ [s]) → ((toFVs (frzs (ss.flatMap SV.ids) st.B st.L).1 (frzs (ss.flatMap SV.ids) st.B st.L).2 ss).map fun xs => (SV.fv (.tup xs), (frzs (ss.flatMap SV.ids) st.B st.L).1, (frzs (ss.flatMap SV.ids) st.B st.L).2)) = some (r, B', L') →
      Sim nt w0 O ρ0 B0 ⟨st.env, B', L'⟩ a w ρ ∧ SvRel w (Av O ρ B' L') ρ B' L' (if h : vs.toArray.size = 1 then vs.toArray[0] else .tuple vs.toArray) r := by
    intro hne h
    obtain ⟨xs, hx, he⟩ := Option.map_eq_some_iff.1 h
    simp only [Prod.mk.injEq] at he
    obtain ⟨rfl, rfl, rfl⟩ := he
    obtain ⟨k1, k2, k3⟩ := frzs_weak (ss.flatMap SV.ids) st.B st.L
    have hx' := Ext.weaken hs.heap k1 k2 k3
    refine ⟨hs.ext hx', ?_⟩
    have hlen : vs.toArray.size ≠ 1 := by
      intro h1
      simp only [List.size_toArray] at h1
      rw [hl] at h1
      match ss, h1 with
      | [s], _ => exact hne s rfl
    rw [dif_neg hlen]
    obtain ⟨c1, c2⟩ := toFVs_rel hx'.heap ss vs xs hx hl (fun j v s hv hs' => hx'.sv (hr j v s hv hs'))
    exact Rd.tup _ _ (by simp [hl, c1]) (fun j v x hv hx => c2 j v x (by simpa [At] using hv) hx)
  unfold finish at h
  split at h
  · rename_i s
    simp only [Option.some.injEq, Prod.mk.injEq] at h
    obtain ⟨rfl, rfl, rfl⟩ := h
    match vs, hl, hr with
    | [v], _, hr => exact ⟨hs, hr 0 v s rfl rfl⟩
  · rename_i hne
    exact many (fun s e => hne s e) h

theorem good_evF {fns : FuncId → Option IFn} {an : Ann} (ht : TabOK P fns) (hm : P.follows .mixedOrders = true) : ∀ k, Good P (evF fns an k)
  | 0 => ⟨fun f args B r B' L' h => by simp [evF] at h, fun f args B r B' L' h => by simp [evF] at h⟩
  | k + 1 => by
    have good := good_evF (an := an) ht hm k
    constructor
    · intro f args B r B' L' h vs w
      simp only [evF, Option.bind_eq_some_iff] at h
      obtain ⟨fn, h1, h⟩ := h
      obtain ⟨F, hints, hF, htr⟩ := ht f fn h1
      simp only [trF, Option.bind_eq_some_iff] at htr
      obtain ⟨c, hc, ⟨b, _⟩, _, rs, _, htr⟩ := htr
      split at htr
      · rename_i hn
        have hname : (F.name == "runtime.NumGoroutine") = false := by simpa using hn.2
        simp only [callFunc, Sem.run_bind, run_program, Result.andThen_ok, hF, hname, Bool.false_eq_true, if_false, hc, Option.isNone_some, Sem.run_pure]
      · cases htr
    · intro f args B r B' L' h w O ρ vs hh hsz hargs
      simp only [evF, Option.bind_eq_some_iff] at h
      obtain ⟨fn, h1, h⟩ := h
      obtain ⟨F, hints, hF, htr⟩ := ht f fn h1
      simp only [trF, Option.bind_eq_some_iff] at htr
      obtain ⟨c, hc, ⟨b, hrest⟩, hb, rs, hrs, htr⟩ := htr
      split at htr
      · rename_i hn
        injection htr with htr
        split at h
        · cases h
        · rename_i hlen
          have hlen' : args.length = fn.nparams := by
            rcases Nat.lt_trichotomy args.length fn.nparams with hlt | he | hlt
            · exact absurd (by omega) hlen
            · exact he
            · exact absurd (by omega) hlen
          subst htr
          simp only at h hlen'
          have hsim : Sim F.ntmps w O ρ B ⟨argEnv 0 args, B, []⟩ { tmps := vs ++ Array.replicate (F.ntmps - vs.size) undef, defers := [] } w ρ := by
            refine ⟨hh, fun t => ?_, ?_, rfl, Chg.refl _ _, fun _ _ => rfl, fun _ _ h => h, rfl, fun b hb ⟨i, hi, e⟩ => hh.notO i hi (e ▸ hb)⟩
            · rw [get_argEnv args 0 t, if_pos (Nat.zero_le _)]
              simp only [Nat.sub_zero]
              cases ha : args[t]? with
              | none => trivial
              | some s =>
                have htl : t < vs.size := by rw [hsz]; exact (List.getElem?_eq_some_iff.1 ha).1
                refine hargs t _ s ?_ ha
                simp only [At, Array.getD_eq_getD_getElem?, Array.getElem?_append_left htl, Array.getElem?_eq_getElem htl, Option.getD_some]
            · simp only [Array.size_append, Array.size_replicate]
              have := hn.1
              omega
          have fin : ∀ st, ((evRess st.env st.B st.L rs).bind fun rs => finish rs st.B st.L) = some (r, B', L') → ∀ a w' ρ', Sim F.ntmps w O ρ B st a w' ρ' →
              ∃ v, (results F a.tmps).run P w' = .ok v w' ∧ ∃ v' ρ'', Ending.returned v = .returned v' ∧ Ext w O ρ B [] w' ρ'' B' L' ∧ SvRel w' (Av O ρ'' B' L') ρ'' B' L' v' r := by
            intro st hst a w' ρ' hs
            simp only [Option.bind_eq_some_iff] at hst
            obtain ⟨ss, hss, hfin⟩ := hst
            obtain ⟨us, q1, q2, q3⟩ := ress_run hs F.results.toList rs ss hrs hss
            obtain ⟨g1, g2⟩ := finish_ok hs q2 q3 hfin
            refine ⟨_, ?_, _, ρ', rfl, ⟨g1.chg, g1.heap, fun id hid => ?_, g1.av, g1.lenB, Nat.zero_le _⟩, g2⟩
            · unfold results
              simp only [Array.mapM_eq_mapM_toList, Sem.run_bind, Sem.run_map]
              erw [q1]
              rfl
            · cases id with
              | b i => exact g1.rho i hid
              | l i => simp [Id.valid] at hid
          refine calls_of_wp hF hc ?_
          split at h
          · rename_i st he
            refine evC_wp good hm k c _ _ _ _ _ _ _ _ _ _ hb he hsim fun a w' ρ' hs => ?_
            obtain ⟨v, h1, h2⟩ := fin st h a w' ρ' hs
            exact ⟨hs.dfr, v, h1, h2⟩
          · rename_i st he
            refine evC_wp good hm k c _ _ _ _ _ _ _ _ _ _ hb he hsim fun a w' ρ' hs => ?_
            obtain ⟨v, h1, h2⟩ := fin st h a w' ρ' hs
            exact ⟨hs.dfr, v, h1, h2⟩
          · cases h
      · cases htr
end
end Go.Ab
