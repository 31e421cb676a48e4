/- A part of the proof: an evaluator of programs, its soundness, and what it says of the functions in hand. It holds without further conditions. -/
import Derived.Test.YtpfbgpclhkjgaaaGreatAb12
set_option linter.unusedVariables false
set_option linter.unusedSimpArgs false
namespace Go.Ab

section
variable {P : Program} {w w' : World} {O : Nat → Prop} {ρ : Rho} {B L : List Ent}

theorem evA_run {nt : Nat} {val : Operand → Value} {g : Look} {call : Disp} (o : Oper) {io : IOp} {s : SV} {B' L' : List Ent} (hh : Heap w O ρ B L) (hg : Ops P nt w O ρ B L val g o.op)
    (htr : trOp P nt o.op = some io) (hnc : ∀ f as, io ≠ .call f as) (h : evA call io g B L = some (s, B', L')) : Acts P w O ρ B L ((execOp val o).run P w) s B' L' := by
  have quiet : ((evQ call io g B L).map fun s => (s, B, L)) = some (s, B', L') → Acts P w O ρ B L ((execOp val o).run P w) s B' L' := by
    intro h
    obtain ⟨s', hs, he⟩ := Option.map_eq_some_iff.1 h
    simp only [Prod.mk.injEq] at he
    obtain ⟨rfl, rfl, rfl⟩ := he
    obtain ⟨v, w', h1, h2, h3⟩ := evQ_run o hh hg htr hnc hs
    exact ⟨v, w', ρ, .inl h1, hh.grow h2, h3⟩
  obtain ⟨dst, op, type, pos, after, guard⟩ := o
  cases op <;> simp only [trOp] at htr
  case alloc e =>
    simp only [Option.bind_eq_some_iff, Option.map_eq_some_iff] at htr
    obtain ⟨sz, h2, z, h3, rfl⟩ := htr
    simp only [evA] at h
    split at h
    · rename_i hc
      simp only [Option.some.injEq, Prod.mk.injEq] at h
      obtain ⟨rfl, rfl, rfl⟩ := h
      obtain ⟨zv, hz1, hz2, hz3, hz4⟩ := zeroOf_run h3
      refine ⟨.pointer (some ⟨w.heap.size, 0, none⟩), _, _, .inl ?_, new_one hh e hc.1 hc.2 (hz4 w _), ptr_new _ _ _ _ _⟩
      simp [execOp, Instr.alloc, hz1, newVar, newRow]
    · cases h
  case box e x =>
    simp only [Option.bind_eq_some_iff, Option.map_eq_some_iff] at htr
    obtain ⟨sz, h2, x', h3, rfl⟩ := htr
    have hr := hg x x' (by simp [Op.operands]) h3
    simp only [evA, Option.bind_eq_some_iff] at h
    obtain ⟨y, hy, h⟩ := h
    split at h
    · rename_i hc
      simp only [Option.some.injEq, Prod.mk.injEq] at h
      obtain ⟨rfl, rfl, rfl⟩ := h
      have hcr := Rd.cellsRel (toFV_rd hh hy hr) hc.2.2
      refine ⟨.pointer (some ⟨w.heap.size, 0, none⟩), _, _, .inl ?_, new_one hh e hc.1 hc.2.1 hcr, ptr_new _ _ _ _ _⟩
      simp [execOp, Instr.box, newVar, newRow]
    · cases h
  case store t a x =>
    simp only [Option.bind_eq_some_iff, Option.map_eq_some_iff] at htr
    obtain ⟨n, h2, a', ha, x', hx, rfl⟩ := htr
    have hra := hg a a' (by simp [Op.operands]) ha
    have hrx := hg x x' (by simp [Op.operands]) hx
    simp only [evA] at h
    split at h
    · rename_i id sz i c hga
      rw [hga] at hra
      obtain ⟨hv, hva⟩ := hra
      split at h
      · rename_i sz2 xs he
        split at h
        · rename_i hs; subst hs
          simp only [Option.bind_eq_some_iff] at h
          obtain ⟨y, hy, h⟩ := h
          split at h
          · rename_i hc
            simp only [Option.bind_eq_some_iff, Option.map_eq_some_iff, Prod.mk.injEq] at h
            obtain ⟨e, hi, e', hs, rfl, rfl, rfl⟩ := h
            obtain ⟨w', hw1, hw2⟩ := Ext.store (P := P) (t := t) hh he hi hs (toFV_rd hh hy hrx) hc.2 h2 hc.1
            refine ⟨undef, w', ρ, .inr ⟨?_, rfl⟩, hw2, trivial⟩
            simp only [execOp, Instr.storeAt, hva, Instr.sureAddr, Sem.run_bind, Sem.run_pure, Result.andThen_ok, hw1]
          · cases h
        · cases h
      · cases h
    · cases h
  case makeSlice t l c =>
    simp only [Option.bind_eq_some_iff, Option.map_eq_some_iff] at htr
    obtain ⟨e, h1, sz, h2, by', h3, z, h4, l', hl, c', hc', rfl⟩ := htr
    have hrl := hg l l' (by simp [Op.operands]) hl
    have hrc := hg c c' (by simp [Op.operands]) hc'
    simp only [evA] at h
    split at h
    · rename_i k n k' m hgl hgc
      rw [hgl] at hrl; rw [hgc] at hrc
      have e1 := Rd.inv_int hrl
      have e2 := Rd.inv_int hrc
      split at h
      · rename_i hc
        obtain ⟨rfl, rfl, h0, hb, hb0, hz, hzl⟩ := hc
        simp only [Option.some.injEq, Prod.mk.injEq] at h
        obtain ⟨rfl, rfl, rfl⟩ := h
        obtain ⟨w', ρ', k1, k2, k3⟩ := mksl_run (P := P) (k := k) hh (sliceOf_und h1) h2 h3 h4 h0 hb hb0 hz hzl
        refine ⟨.slice (some ⟨w.heap.size, 0, none⟩) n.toNat n.toNat, w', ρ', .inl ?_, k2, valid_push _ _ _, n.toNat, ?_, Nat.le_refl _, fun _ => ⟨rfl, by rw [k3]⟩⟩
        · simp only [execOp, e1, e2, Sem.run_bind, Sem.run_pure, k1, Result.andThen_ok]
        · rw [k3]; simp
      · cases h
    · cases h
  case call c =>
    unfold trCall at htr
    obtain ⟨callee, args, argTypes⟩ := c
    simp only at htr
    split at htr
    · -- len
      split at htr
      · split at htr <;> first | (cases htr; done) | (obtain ⟨x', hx, rfl⟩ := Option.map_eq_some_iff.1 htr; exact quiet h)
      · cases htr
    · -- append
      split at htr
      · rename_i x y t t' ha hat
        have hargs : args = #[x, y] := by rw [← Array.toArray_toList (xs := args), ha]
        have htys : argTypes = #[t, t'] := by rw [← Array.toArray_toList (xs := argTypes), hat]
        subst hargs; subst htys
        simp only [Option.bind_eq_some_iff] at htr
        obtain ⟨e, h1, e', h1', sz, h2, by', h3, z, h4, htr⟩ := htr
        split at htr
        · rename_i hzl
          simp only [Option.bind_eq_some_iff, Option.map_eq_some_iff] at htr
          obtain ⟨x', hx, y', hy, rfl⟩ := htr
          have hrx := hg x x' (by simp [Op.operands, Call.operands]) hx
          have hry := hg y y' (by simp [Op.operands, Call.operands]) hy
          simp only [evA, Option.bind_eq_some_iff] at h
          obtain ⟨ys, hys, h⟩ := h
          have hsrc := rdSl_src (P := P) hh hys hry
          have fin : ∀ s B' L', (∃ v w' ρ', (Builtin.append_ #[t, t'] type #[val x, val y]).run P w = .ok v w' ∧ Ext w O ρ B L w' ρ' B' L' ∧ SvRel w' (Av O ρ' B' L') ρ' B' L' v s) →
              Acts P w O ρ B L ((execOp val ⟨dst, .call ⟨.builtin .append, #[x, y], #[t, t']⟩, type, pos, after, guard⟩).run P w) s B' L' := by
            rintro s B' L' ⟨v, w', ρ', k1, k2, k3⟩
            refine ⟨v, w', ρ', .inl ?_, k2, k3⟩
            simp only [execOp, resolve, invoke, builtin, Sem.run_bind, Sem.run_pure, Result.andThen_ok, List.map_toArray, List.map_cons, List.map_nil, k1]
          split at h
          · rename_i hgx
            rw [hgx] at hrx
            have hvx : val x = .slice none 0 0 := by
              have : ∀ v, Rd w (Av O ρ B L) v (.sl .nil []) → v = .slice none 0 0 := by
                intro v hv
                cases hv with
                | slE t a c h => obtain ⟨rfl, _, rfl⟩ := h; rfl
                | sl t xs sz b o c f hz hx => exact absurd rfl hx
              exact this _ hrx
            split at h
            · rename_i hy0
              subst hy0
              simp only [Option.some.injEq, Prod.mk.injEq] at h
              obtain ⟨rfl, rfl, rfl⟩ := h
              refine fin _ _ _ ⟨.slice none 0 0, w, ρ, ?_, Ext.refl hh, Rd.slE _ _ _ ⟨rfl, rfl, rfl⟩⟩
              obtain ⟨news, n1, n2, _⟩ := hsrc.ex
              have hn : news = [] := List.eq_nil_of_length_eq_zero (by rw [n1]; simp)
              subst hn
              obtain ⟨i, hi, hsz⟩ := Option.map_eq_some_iff.1 h2
              subst hsz
              have n2' : (Builtin.firstCells i.size 0 (val y)).run P w = .ok #[] w := n2
              have hl' : ∀ W, (Builtin.lenOf (val y)).run P W = .ok 0 W := hsrc.len
              rw [hvx]
              simp [Builtin.append_, run_underlying (sliceOf_und h1), run_underlying (sliceOf_und h1'), sizeOf, typeInfo, hi, hl', n2']
            · rename_i hy0
              split at h
              · rename_i hc
                simp only [Option.some.injEq, Prod.mk.injEq] at h
                obtain ⟨rfl, rfl, rfl⟩ := h
                exact fin _ _ _ (app_nil_run hh (sliceOf_und h1) (sliceOf_und h1') h2 h3 h4 hzl hvx hsrc hy0 hc.1 hc.2.1 hc.2.2)
              · cases h
          · rename_i x0 xs hgx
            rw [hgx] at hrx
            split at h
            · rename_i h0
              simp only [Option.some.injEq, Prod.mk.injEq] at h
              obtain ⟨rfl, rfl, rfl⟩ := h
              obtain ⟨news, n1, n2, n3, n4, n5⟩ := hsrc.ex
              have hn : news = [] := List.eq_nil_of_length_eq_zero (by rw [n1, h0]; simp)
              subst hn
              obtain ⟨a0, cap, hv, hcap, hne⟩ := rd_sl_parts hrx
              obtain ⟨sz', b, o, ha0, ha, _⟩ := hne (by simp)
              have := append_zero (P := P) (w := w) (ty := type) (a := ⟨b, o, none⟩) (sLen := (x0 :: xs).length) (sCap := cap) (sliceOf_und h1) (sliceOf_und h1') h2 hsrc.len h0 (by simpa using n2) hcap
              exact fin _ _ _ ⟨_, _, ρ, by rw [hv, ha]; exact this, Ext.refl hh, by rw [← ha, ← hv]; exact hrx⟩
            split at h
            · rename_i hc
              simp only [Option.some.injEq, Prod.mk.injEq] at h
              obtain ⟨rfl, rfl, rfl⟩ := h
              have hw0 : ∀ q ∈ x0 :: xs, q.cells.length = sz := by
                obtain ⟨a, cap, _, _, hne⟩ := rd_sl_parts hrx
                obtain ⟨sz', b, o, _, _, k2, _⟩ := hne (by simp)
                have : sz' = sz := by rw [← (k2 x0 (by simp)).1]; exact hc.2.2.2.2
                subst this
                exact fun q hq => (k2 q hq).1
              have := app_full_run (P := P) (ty := type) hh (sliceOf_und h1) (sliceOf_und h1') h2 h3 h4 hzl hrx (by simp) hw0 hsrc hc.1 (by simpa using hc.2.1) hc.2.2.1 hc.2.2.2.1
              exact fin _ _ _ (by simpa using this)
            · cases h
          · rename_i id sz' n hgx
            rw [hgx] at hrx
            split at h
            · rename_i sz2 xs he
              split at h
              · rename_i hc
                obtain ⟨rfl, rfl, rfl, hb, hb0⟩ := hc
                simp only [Option.some.injEq, Prod.mk.injEq] at h
                obtain ⟨rfl, rfl, rfl⟩ := h
                exact fin _ _ _ (app_own_run hh (sliceOf_und h1) (sliceOf_und h1') h2 h3 h4 hzl he hrx hsrc hb hb0)
              · cases h
            · cases h
          · cases h
        · cases htr
      · cases htr
    · obtain ⟨as, ha, rfl⟩ := Option.map_eq_some_iff.1 htr; exact quiet h
    · obtain ⟨as, ha, rfl⟩ := Option.map_eq_some_iff.1 htr; exact quiet h
    · simp only [Option.bind_eq_some_iff, Option.map_eq_some_iff] at htr
      obtain ⟨f, _, as, _, rfl⟩ := htr
      exact absurd rfl (hnc _ _)
    · cases htr
  case build t ps =>
    simp only [Option.bind_eq_some_iff] at htr
    obtain ⟨fs, h1, z, h2, htr⟩ := htr
    split at htr
    · obtain ⟨qs, h4, rfl⟩ := Option.map_eq_some_iff.1 htr; exact quiet h
    · cases htr
  case convert a b x =>
    split at htr
    · obtain ⟨x', hx, rfl⟩ := Option.map_eq_some_iff.1 htr; exact quiet h
    · cases htr
  case fieldAddr t x i =>
    simp only [Option.bind_eq_some_iff] at htr
    obtain ⟨fs, h1, f, h2, ag, h3, n, h4, x', hx, htr⟩ := htr
    split at htr
    · injection htr with htr; subst htr; exact quiet h
    · cases htr
  case index t x i =>
    split at htr
    · simp only [Option.bind_eq_some_iff, Option.map_eq_some_iff] at htr
      obtain ⟨x', hx, i', hi, rfl⟩ := htr
      exact quiet h
    · cases htr
  all_goals first
    | (cases htr; done)
    | (obtain ⟨_, _, rfl⟩ := Option.map_eq_some_iff.1 htr; exact quiet h)
    | (simp only [Option.bind_eq_some_iff, Option.map_eq_some_iff] at htr; obtain ⟨_, _, _, _, rfl⟩ := htr; exact quiet h)
    | (simp only [Option.bind_eq_some_iff, Option.map_eq_some_iff] at htr; obtain ⟨_, _, _, _, _, _, rfl⟩ := htr; exact quiet h)
    | (simp only [Option.bind_eq_some_iff, Option.map_eq_some_iff] at htr; obtain ⟨_, _, _, _, _, _, _, _, rfl⟩ := htr; exact quiet h)
    | (simp only [Option.bind_eq_some_iff, Option.map_eq_some_iff] at htr; obtain ⟨_, _, _, _, _, _, _, _, _, _, rfl⟩ := htr; exact quiet h)
    | (simp only [Option.bind_eq_some_iff, Option.map_eq_some_iff] at htr; obtain ⟨_, _, _, _, _, _, _, _, _, _, _, _, rfl⟩ := htr; exact quiet h)

/-! ### Calls -/
structure Good (P : Program) (call : Disp) : Prop where
  ent : ∀ f args B r B' L', call f args B = some (r, B', L') → ∀ (vs : Array Value) (w : World), (callFunc f vs).run P w = .ok (.enter f vs) w
  run : ∀ f args B r B' L', call f args B = some (r, B', L') → ∀ (w : World) (O : Nat → Prop) (ρ : Rho) (vs : Array Value), Heap w O ρ B [] → vs.size = args.length →
    (∀ j v s, At vs j = some v → args[j]? = some s → SvRel w (Av O ρ B []) ρ B [] v s) →
    Calls P f vs w fun e w' => ∃ v ρ', e = .returned v ∧ Ext w O ρ B [] w' ρ' B' L' ∧ SvRel w' (Av O ρ' B' L') ρ' B' L' v r

theorem Heap.none (hh : Heap w O ρ B L) (σ : Rho) : Heap w (Av O ρ B L) σ [] [] := by
  have hd : ∀ i, ent ([] : List Ent) [] i = .dead := fun i => by cases i <;> simp [ent]
  refine ⟨fun i j hi => ?_, fun i hi => ?_, hh.avLt, fun i sz xs h => ?_, fun i sz xs h => ?_⟩
  · rw [hd] at hi; simp [Ent.isOwn] at hi
  · rw [hd] at hi; simp [Ent.isOwn] at hi
  · rw [hd] at h; cases h
  · rw [hd] at h; cases h

theorem Av_none (A : Nat → Prop) (σ : Rho) (b : Nat) : Av A σ [] [] b ↔ A b := by
  have hd : ∀ i, ent ([] : List Ent) [] i = .dead := fun i => by cases i <;> simp [ent]
  constructor
  · rintro (h | ⟨i, hi, _⟩)
    · exact h
    · rw [hd] at hi; simp [Ent.isOwn] at hi
  · exact .inl

theorem Rd.congrA {A A' : Nat → Prop} (h : ∀ b, A' b → A b) {v : Value} {x : FV} (hr : Rd w A v x) : Rd w A' v x :=
  Rd.mono (Chg.refl (fun _ => False) w) (fun _ h => h.elim) (fun b _ h' => h b h') hr

theorem fz_weak (B L : List Ent) : Weak B L (B.map Ent.fz) (L.map Ent.fz) := by
  intro i
  refine .inr (.inl ?_)
  cases i <;> simp only [ent, List.getD_eq_getElem?_getD, List.getElem?_map]
  · rename_i i; cases B[i]? <;> rfl
  · rename_i i; cases L[i]? <;> rfl

theorem ofValue_fn (f : FuncId) (fs cs : Array Value) (args : Array Value) (w : World) : (Deferred.ofValue (.func (.func f) fs cs) args).run P w = .ok { target := .fn (.func f) cs, args := fs ++ args } w := rfl

theorem call_op_run {val : Operand → Value} {f : Operand} {args : Array Operand} {ts : Array TypeId} {dst : Option Tmp} {type : TypeId} {pos : String} {after : Array Edge} {guard : Option (Nat × Bool)} {n : FuncId} {fs cs : Array Value}
    (hf : val f = .func (.func n) fs cs) (he : (callFunc n (fs ++ args.map val ++ cs)).run P w = .ok (.enter n (fs ++ args.map val ++ cs)) w) :
    (execOp val ⟨dst, .call ⟨.value f, args, ts⟩, type, pos, after, guard⟩).run P w = .ok (.enter n (fs ++ args.map val ++ cs)) w := by
  simp only [execOp, resolve, Sem.run_bind, hf, ofValue_fn, Result.andThen_ok, invoke, he]

theorem at_append {a b : Array Value} {xs ys : List FV} {A : Nat → Prop} (hl : a.size = xs.length) (ha : ∀ j v x, At a j = some v → xs[j]? = some x → Rd w A v x) (hb : ∀ j v x, At b j = some v → ys[j]? = some x → Rd w A v x) :
    ∀ j v x, At (a ++ b) j = some v → (xs ++ ys)[j]? = some x → Rd w A v x := by
  intro j v x hv hx
  by_cases hj : j < a.size
  · simp only [At] at hv
    rw [Array.getElem?_append_left hj] at hv
    rw [List.getElem?_append_left (by omega)] at hx
    exact ha j v x hv hx
  · simp only [At] at hv
    rw [Array.getElem?_append_right (by omega)] at hv
    rw [List.getElem?_append_right (by omega)] at hx
    rw [hl] at hv
    exact hb _ v x hv hx

/-- A call that is handed what is frozen, and gives what is frozen. -/
theorem evQ_call_wp {nt : Nat} {a : Act} {g : Look} {call : Disp} (good : Good P call) {dst : Option Tmp} {f : Operand} {args : Array Operand} {ts : Array TypeId} {type : TypeId} {pos : String} {after : Array Edge} {guard : Option (Nat × Bool)}
    {f' : Opd} {as : List Opd} {s : SV} (hh : Heap w O ρ B L) (hg : Ops P nt w O ρ B L a.eval g (.call ⟨.value f, args, ts⟩)) (h1 : trOpd nt f = some f') (h2 : trOpds nt args.toList = some as)
    (h : evQ call (.call f' as) g B L = some s) {next : Act → World → Prop} {Q : Exit → Act → World → Prop}
    (hn : ∀ v w', Chg (fun _ => False) w w' → SvRel w' (Av O ρ B L) ρ B L v s → next (a.put dst v) w') : Oper.wp P ⟨dst, .call ⟨.value f, args, ts⟩, type, pos, after, guard⟩ a w next Q := by
  simp only [evQ] at h
  split at h
  · rename_i n first caps hgf
    simp only [Option.bind_eq_some_iff] at h
    obtain ⟨xs, hx, h⟩ := h
    split at h
    · rename_i r B' L' hc
      obtain ⟨y, hy, rfl⟩ := Option.map_eq_some_iff.1 h
      have hrf := hg f f' (by simp [Op.operands, Call.operands]) h1
      rw [hgf] at hrf
      obtain ⟨fs, cs, hvf, k1, k2, k3, k4⟩ := Rd.inv_fn hrf
      obtain ⟨a1, a2⟩ := opds_rel (w := w) (O := O) (ρ := ρ) (B := B) (L := L) (val := a.eval) (g := g) h2 (fun x y hx => hg x y (by simp [Op.operands, Call.operands]; exact .inr (by simpa using hx)))
      obtain ⟨c1, c2⟩ := toFVs_rel hh _ _ _ hx a1 a2
      have hm : (args.map a.eval).size = xs.length := by rw [c1, ← a1]; simp
      have hall : ∀ j v x, At (fs ++ args.map a.eval ++ cs) j = some v → (first ++ xs ++ caps)[j]? = some x → Rd w (Av O ρ B L) v x :=
        at_append (by simp [k1, hm]) (at_append k1 k3 fun j v x hv hx => c2 j v x (by simpa [At] using hv) hx) k4
      have hcalls := good.run _ _ _ _ _ _ hc w (Av O ρ B L) ρ (fs ++ args.map a.eval ++ cs) (hh.none ρ) (by simp [k1, k2, hm]) (fun j v s hv hs => by
        simp only [List.getElem?_map, Option.map_eq_some_iff] at hs
        obtain ⟨x, hx, rfl⟩ := hs
        exact Rd.congrA (fun b h => (Av_none _ _ b).1 h) (hall j v x hv hx))
      unfold Oper.wp
      rw [call_op_run hvf (good.ent _ _ _ _ _ _ hc _ w), Oper.upon_enter]
      refine hcalls.mono ?_
      rintro e w' ⟨v, ρ', rfl, hext, hrel⟩
      have hB' : B' = [] := List.eq_nil_of_length_eq_zero (by simpa using hext.lenB)
      subst hB'
      refine hn v w' ?_ ?_
      · exact hext.chg.mono fun k _ ⟨i, hi, _⟩ => by
          have hd : ent ([] : List Ent) [] i = .dead := by cases i <;> simp [ent]
          rw [hd] at hi; simp [Ent.isOwn] at hi
      · have hwk := fz_weak [] L'
        have hh' := hext.heap.weaken hwk
        have hrel' := SvRel.weak hwk (by simp) (by simp) hrel
        have hrd := toFV_rd hh' hy hrel'
        refine Rd.congrA (fun b hb => ?_) hrd
        exact .inl hb
    · cases h
  · cases h
end
end Go.Ab
