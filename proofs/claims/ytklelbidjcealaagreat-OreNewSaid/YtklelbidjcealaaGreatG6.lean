/- A part of the proof: an evaluator of programs, its soundness, and what it says of the functions in hand. It holds without further conditions. -/
import Derived.Test.YtklelbidjcealaaGreatG5
import Derived.KernelRfl
import Derived.Test.YtklelbidjcealaaGreatRows
set_option linter.unusedVariables false
set_option linter.unusedSimpArgs false
namespace Go.Ab
open Go
def tyI64 (P : Program) (t : TypeId) : Bool := match P.underlying t with | some (.int .i64) => true | _ => false
def tyBool (P : Program) (t : TypeId) : Bool := match P.underlying t with | some .bool => true | _ => false
def tyU32s (P : Program) (t : TypeId) : Bool := match P.underlying t with
  | some (.slice e) => P.cellsOf e == 1 && (match P.underlying e with | some (.int .u32) => true | _ => false)
  | _ => false
def tyInt (P : Program) (t : TypeId) : Bool := match P.underlying t with
  | some (.struct fs) => P.cellsOf t == 2 && (match fs.toList with
    | [f, g] => f.offset == 0 && g.offset == 1 && P.cellsOf f.type == 1 && P.cellsOf g.type == 1 && tyBool P f.type && tyU32s P g.type
    | _ => false)
  | _ => false
def tyPoly (P : Program) (t : TypeId) : Bool := match P.underlying t with
  | some (.slice e) => P.cellsOf e == 2 && tyInt P e
  | _ => false
def tyOp (P : Program) (t : TypeId) : Bool := match P.underlying t with
  | some (.slice e) => P.cellsOf e == 1 && tyPoly P e
  | _ => false
def RawI (x : FV) : Prop := ∃ b xs, x = .agg [.bool b, .sl .any (u32s xs)] ∧ Dg 4294967296 xs ∧ xs.length ≤ 9223372036854775807
def RawP (x : FV) : Prop := ∃ ps, x = .sl .any ps ∧ (∀ y ∈ ps, RawI y) ∧ ps.length ≤ 9223372036854775807
def RawO (x : FV) : Prop := ∃ ps, x = .sl .any ps ∧ (∀ y ∈ ps, RawP y) ∧ ps.length ≤ 9223372036854775807
section
variable {H : Type} {enc : TypeId × Value → H} {P : Program} {w : World} {sp : Nat → Bool} {hd : Bool} {t : TypeId} {n : Nat} {cs : List Value} {d : DataW H} {ps : List MemPlace}
theorem wf_u32 {x : Int} (h : (Lit.int .u32 x).wf = true) : ∃ m : Nat, x = m ∧ m < 4294967296 := by
  simp only [Lit.wf, decide_eq_true_eq, Bool.and_eq_true] at h
  have h1 : IntKind.u32.min = 0 := by decide
  have h2 : IntKind.u32.max = 4294967295 := by decide
  rw [h1, h2] at h
  exact ⟨x.toNat, by omega, by omega⟩
theorem wf_i64 {x : Int} (h : (Lit.int .i64 x).wf = true) : -9223372036854775808 ≤ x ∧ x ≤ 9223372036854775807 := by
  simp only [Lit.wf, decide_eq_true_eq, Bool.and_eq_true] at h
  have h1 : IntKind.i64.min = -9223372036854775808 := by decide
  have h2 : IntKind.i64.max = 9223372036854775807 := by decide
  rw [h1, h2] at h
  exact h
theorem u32s_of : ∀ (xs : List FV), (∀ x ∈ xs, ∃ m : Nat, x = .int .u32 (m : Int) ∧ m < 4294967296) → ∃ ns : List Nat, xs = u32s ns ∧ Dg 4294967296 ns
  | [], _ => ⟨[], rfl, fun x h => by cases h⟩
  | x :: r, h => by
    obtain ⟨m, rfl, hm⟩ := h x (by simp)
    obtain ⟨ns, rfl, hn⟩ := u32s_of r fun y hy => h y (by simp [hy])
    exact ⟨m :: ns, rfl, fun y hy => by rcases List.mem_cons.1 hy with rfl | hy; exact hm; exact hn y hy⟩
theorem RdC_one {v : Value} {x : FV} (h : Rd w No v x) (hc : x.cells = [x]) (ho : x.one = true) : RdC w [v] x := by
  refine ⟨by rw [hc]; rfl, fun y hy => by rw [hc] at hy; simp at hy; subst hy; exact ho, fun j v' y hj hy => ?_⟩
  rw [hc] at hy
  cases j with
  | zero => simp at hj hy; subst hj; subst hy; exact h
  | succ j => simp at hj
theorem rd_u32s (ht : tyU32s P t = true) (h : DataW.trod enc P w 0 sp hd n t cs = some (d, ps)) : ∃ v xs, cs = [v] ∧ Rd w No v (.sl .any (u32s xs)) ∧ Dg 4294967296 xs ∧ xs.length ≤ 9223372036854775807 := by
  simp only [tyU32s] at ht
  split at ht
  next e he =>
    simp only [Bool.and_eq_true, beq_iff_eq] at ht
    obtain ⟨h1, h2⟩ := ht
    split at h2
    next hu =>
      obtain ⟨v, xs, rfl, hr, hx, hl⟩ := trod_slice he h1 (by omega) (fun x => ∃ m : Nat, x = .int .u32 (m : Int) ∧ m < 4294967296) (fun n cs d ps hcs hd' => by
        obtain ⟨y, rfl, hw⟩ := trod_int hu hd'
        obtain ⟨m, rfl, hm⟩ := wf_u32 hw
        exact ⟨_, ⟨m, rfl, hm⟩, RdC_one (Rd.int _ _) rfl rfl⟩) h
      obtain ⟨ns, rfl, hn⟩ := u32s_of xs hx
      exact ⟨v, ns, rfl, hr, hn, by simpa using hl⟩
    · cases h2
  · cases ht
theorem rd_int (ht : tyInt P t = true) (h : DataW.trod enc P w 0 sp hd n t cs = some (d, ps)) : ∃ x, RawI x ∧ RdC w cs x := by
  simp only [tyInt] at ht
  split at ht
  next fs hf =>
    simp only [Bool.and_eq_true, beq_iff_eq] at ht
    obtain ⟨h1, h2⟩ := ht
    split at h2
    next f g hfs =>
      simp only [Bool.and_eq_true, beq_iff_eq] at h2
      obtain ⟨⟨⟨⟨⟨o1, o2⟩, c1⟩, c2⟩, tb⟩, tl⟩ := h2
      obtain ⟨hl, n', hfld⟩ := trod_struct hf h
      rw [h1] at hl
      obtain ⟨d1, p1, r1⟩ := hfld f (by rw [hfs]; simp)
      obtain ⟨d2, p2, r2⟩ := hfld g (by rw [hfs]; simp)
      match cs, hl with
      | [a, b], _ =>
        rw [o1, c1] at r1
        rw [o2, c2] at r2
        simp only [List.drop_zero, List.drop_succ_cons, List.take_succ_cons, List.take_zero] at r1 r2
        simp only [tyBool] at tb
        split at tb
        next hb =>
          obtain ⟨bb, e1⟩ := trod_bool hb r1
          obtain ⟨v, xs, e2, hr, hdg, hlx⟩ := rd_u32s tl r2
          injection e1 with e1; injection e2 with e2
          subst e1; subst e2
          refine ⟨_, ⟨bb, xs, rfl, hdg, hlx⟩, rfl, fun y hy => ?_, fun j v y hj hy => ?_⟩
          · rcases List.mem_cons.1 hy with rfl | hy
            · rfl
            · rcases List.mem_cons.1 hy with rfl | hy
              · rfl
              · cases hy
          · match j, hj, hy with
            | 0, hj, hy => simp at hj; simp [FV.cells] at hy; subst hj; subst hy; exact Rd.bool _
            | 1, hj, hy => simp at hj; simp [FV.cells] at hy; subst hj; subst hy; exact hr
            | j + 2, hj, hy => simp at hj
        · cases tb
    · cases h2
  · cases ht
theorem rd_poly (ht : tyPoly P t = true) (h : DataW.trod enc P w 0 sp hd n t cs = some (d, ps)) : ∃ x, RawP x ∧ RdC w cs x := by
  simp only [tyPoly] at ht
  split at ht
  next e he =>
    simp only [Bool.and_eq_true, beq_iff_eq] at ht
    obtain ⟨v, xs, rfl, hr, hx, hl⟩ := trod_slice he ht.1 (by omega) RawI (fun n cs d ps hcs hd' => rd_int ht.2 hd') h
    exact ⟨_, ⟨xs, rfl, hx, hl⟩, RdC_one hr rfl rfl⟩
  · cases ht
theorem rd_op (ht : tyOp P t = true) (h : DataW.trod enc P w 0 sp hd n t cs = some (d, ps)) : ∃ x, RawO x ∧ RdC w cs x := by
  simp only [tyOp] at ht
  split at ht
  next e he =>
    simp only [Bool.and_eq_true, beq_iff_eq] at ht
    obtain ⟨v, xs, rfl, hr, hx, hl⟩ := trod_slice he ht.1 (by omega) RawP (fun n cs d ps hcs hd' => rd_poly ht.2 hd') h
    exact ⟨_, ⟨xs, rfl, hx, hl⟩, RdC_one hr rfl rfl⟩
  · cases ht
variable {v : Value} {base : Nat} {r : Reach}
theorem arg_i64 (ht : tyI64 P t = true) (ho : Value.okWide P w r base t v) (h : DataW.Trod enc P w 0 sp hd t v d ps) : ∃ x : Int, Rd w No v (.int .i64 x) ∧ -9223372036854775808 ≤ x ∧ x ≤ 9223372036854775807 := by
  obtain ⟨n, h⟩ := h
  simp only [tyI64] at ht
  split at ht
  next hu =>
    simp only [Value.okWide, hu, Cell.okWide, Cell.ok] at ho
    cases v with
    | int k x =>
      obtain ⟨y, e, hw⟩ := trod_int hu h
      have e : [Value.int k x] = [Value.int .i64 y] := e
      injection e with e
      rw [e]
      exact ⟨y, Rd.int _ _, wf_i64 hw⟩
    | _ => exact ho.elim
  · cases ht
theorem arg_Int (ht : tyInt P t = true) (ho : Value.okWide P w r base t v) (h : DataW.Trod enc P w 0 sp hd t v d ps) : ∃ x, RawI x ∧ Rd w No v x := by
  obtain ⟨n, h⟩ := h
  obtain ⟨x, hx, h1, h2, h3⟩ := rd_int ht h
  simp only [tyInt] at ht
  split at ht
  next fs hf =>
    simp only [Value.okWide, hf] at ho
    obtain ⟨cs, rfl, _⟩ := ho
    refine ⟨x, hx, ?_⟩
    obtain ⟨b, xs, rfl, _⟩ := hx
    have e : (Value.agg cs).cells.toList = cs.toList := rfl
    rw [e] at h1 h3
    refine Rd.agg cs _ (by simpa [FV.cells] using h1.symm) h2 fun j v x hj hx => h3 j v x (by simpa [At] using hj) hx
  · cases ht
theorem sl_of (ht : ∃ e, P.underlying t = some (.slice e)) (ho : Value.okWide P w r base t v) : v.cells.toList = [v] := by
  obtain ⟨e, hu⟩ := ht
  simp only [Value.okWide, hu, Cell.okWide, Cell.ok] at ho
  cases v <;> first | rfl | exact ho.elim
theorem arg_Poly (ht : tyPoly P t = true) (ho : Value.okWide P w r base t v) (h : DataW.Trod enc P w 0 sp hd t v d ps) : ∃ x, RawP x ∧ Rd w No v x := by
  obtain ⟨n, h⟩ := h
  obtain ⟨x, hx, h1, h2, h3⟩ := rd_poly ht h
  have hu : ∃ e, P.underlying t = some (.slice e) := by
    simp only [tyPoly] at ht
    split at ht
    next e he => exact ⟨e, he⟩
    · cases ht
  rw [sl_of hu ho] at h3
  refine ⟨x, hx, h3 0 v x rfl ?_⟩
  obtain ⟨ps, rfl, _⟩ := hx
  rfl
theorem arg_Op (ht : tyOp P t = true) (ho : Value.okWide P w r base t v) (h : DataW.Trod enc P w 0 sp hd t v d ps) : ∃ x, RawO x ∧ Rd w No v x := by
  obtain ⟨n, h⟩ := h
  obtain ⟨x, hx, h1, h2, h3⟩ := rd_op ht h
  have hu : ∃ e, P.underlying t = some (.slice e) := by
    simp only [tyOp] at ht
    split at ht
    next e he => exact ⟨e, he⟩
    · cases ht
  rw [sl_of hu ho] at h3
  refine ⟨x, hx, h3 0 v x rfl ?_⟩
  obtain ⟨ps, rfl, _⟩ := hx
  rfl
theorem ret_calls {fns : FuncId → Option IFn} {an : Ann} (htb : TabOK P fns) (hm : P.follows .mixedOrders = true) {f : FuncId} {xs : List FV} {b : Bool}
    (h : ret fns an f xs = some (.bool b)) {W : World} {vs : Array Value} (hl : vs.size = xs.length) (hr : ∀ j v x, At vs j = some v → xs[j]? = some x → Rd W No v x) :
    Calls P f vs W fun e W' => e = .returned (.bool b) ∧ Chg No W W' := by
  simp only [ret] at h
  rw [Option.bind_eq_some_iff] at h
  obtain ⟨⟨s, B', L'⟩, h1, h2⟩ := h
  have hs : s = .fv (.bool b) := by
    cases s with
    | unk => cases h2
    | fv x => simp [toFV] at h2; rw [h2]
    | ref id sz off len ap =>
      simp only [toFV] at h2
      split at h2
      · split at h2 <;> cases h2
      · cases h2
    | ptr id sz i c =>
      simp only [toFV] at h2
      split at h2
      · split at h2
        · rw [Option.map_eq_some_iff] at h2; obtain ⟨_, _, h3⟩ := h2; cases h3
        · cases h2
      · cases h2
    | clo g m caps =>
      simp only [toFV] at h2
      rw [Option.map_eq_some_iff] at h2; obtain ⟨_, _, h3⟩ := h2; cases h3
  subst hs
  exact known_calls htb hm (lim_iff.1 h1) hl hr
theorem chg_same {W W' : World} (h : Chg No W W') {p : MemPlace} (hp : p.block < W.heap.size) : W.sameAt W' p := by
  have hb := h.block p.block hp (fun h => h)
  cases p <;> simp_all [World.sameAt, MemPlace.block, World.cell?]
theorem trodAll_stays {W W' : World} (hl : laidOutB P = true) (hc : Chg No W W') {sp' : Nat → Bool} : ∀ {ts : List TypeId} {vs : List Value} {ds : List (DataW H)} {ps : List MemPlace}, (∀ t ∈ ts, P.readableRec t = true ∧ t < P.types.size) →
    DataW.TrodAll enc P W 0 (fun _ => true) true ts vs ds ps → (∀ p ∈ ps, p.block < W.heap.size) → (∀ p ∈ ps, sp' p.block = true) → DataW.TrodAll enc P W' 0 sp' true ts vs ds ps
  | [], [], [], _, _, h, _, _ => h
  | t :: ts, v :: vs, d :: ds, _, ht, ⟨p, q, h1, h2, e⟩, hlt, hs => by
    subst e
    exact ⟨p, q, WideElems.Trod_stays hl (ht t (by simp)).1 (ht t (by simp)).2 h1 (fun x hx => chg_same hc (hlt x (List.mem_append_left _ hx))) (fun x hx => hs x (List.mem_append_left _ hx)),
      trodAll_stays hl hc (fun t h => ht t (by simp [h])) h2 (fun x hx => hlt x (List.mem_append_right _ hx)) (fun x hx => hs x (List.mem_append_right _ hx)), rfl⟩
  | [], _ :: _, _, _, _, h, _, _ => h.elim
  | [], [], _ :: _, _, _, h, _, _ => h.elim
  | _ :: _, [], _, _, _, h, _, _ => h.elim
  | _ :: _, _ :: _, [], _, _, h, _, _ => h.elim
end
end Go.Ab
namespace Go.Proofs.YtklelbidjcealaaGreat
open Go Go.Ab
def LimP (x : FV) : Prop := ∀ t ps, x = .sl t ps → ∀ i, i < ps.length → Lims (atF ps i)
def CutI (m : Nat) (x q : FV) : Prop := ∃ b t ys, q = .agg [.bool b, .sl t (u32s ys)] ∧ Dg B32 ys ∧ ys.length ≤ m ∧
  ∃ t1 y1, ret tab.get an 81 [x] = some (.agg [.bool b, .sl t1 (u32s y1)]) ∧ (if y1.length > m then t = .any ∧ ys = y1.take m else t = t1 ∧ ys = y1)
theorem u32s_take (xs : List Nat) (m : Nat) : (u32s xs).take m = u32s (xs.take m) := List.map_take.symm
theorem Dg_take {b : Nat} {xs : List Nat} (h : Dg b xs) (m : Nat) : Dg b (xs.take m) := fun x hx => h x (List.mem_of_mem_take hx)
theorem CutI_ex {x : FV} (h : RawI x) (m : Nat) : ∃ q, CutI m x q := by
  obtain ⟨b, xs, rfl, hd, hl⟩ := h
  obtain ⟨t', h1⟩ := Cut1_ok (b := b) (t := .any) hl
  by_cases hc : (xs.take 24).length > m
  · exact ⟨_, b, .any, (xs.take 24).take m, rfl, Dg_take (Dg_take hd 24) m, by rw [List.length_take]; omega, t', xs.take 24, h1, by rw [if_pos hc]; exact ⟨rfl, rfl⟩⟩
  · exact ⟨_, b, t', xs.take 24, rfl, Dg_take hd 24, by omega, t', xs.take 24, h1, by rw [if_neg hc]; exact ⟨rfl, rfl⟩⟩
theorem val_lt_pow {xs : List Nat} (h : Dg B32 xs) : val B32 xs < 2 ^ (32 * xs.length) := by
  have h1 := val_lt h
  rwa [show B32 = 2 ^ 32 from rfl, ← Nat.pow_mul] at h1
theorem CutI.isI {m : Nat} {x q : FV} (h : CutI m x q) (hm : m ≤ 24) : ∃ z, IsI q z ∧ Bd (32 * m) z ∧ Lims q := by
  obtain ⟨b, t, ys, rfl, hd, hl, _⟩ := h
  refine ⟨sg b (val B32 ys), ⟨b, t, ys, rfl, hd, by omega, rfl⟩, ?_, fun b' t' xs' e => ?_⟩
  · show (sg b (val B32 ys)).natAbs < _
    rw [sg_abs]
    exact Nat.lt_of_lt_of_le (val_lt_pow hd) (Nat.pow_le_pow_right (by omega) (by omega))
  · injection e with e
    injection e with e1 e2
    injection e2 with e2 _
    injection e2 with _ e3
    have := congrArg List.length e3
    simp at this
    omega
theorem cutL_all (xs : List FV) : cutL xs 0 xs.length = xs := by simp [cutL]
theorem Cut3_ok (tg : Tag) {ps : List FV} (h : ∀ y ∈ ps, RawI y) (hl : ps.length ≤ 9223372036854775807) {n m : Nat} (hn : n ≤ 1000) (hm : m ≤ 24) :
    ∃ qs : List FV, ret tab.get an 26 [.sl tg ps, .int .i64 (n : Int), .int .i64 (m : Int)] = some (.sl (accT qs) qs) ∧ qs.length = min ps.length n ∧ ∀ (i : Nat) (q : FV), qs[i]? = some q → ∃ z, IsI q z ∧ Bd (32 * m) z ∧ Lims q := by
  obtain ⟨qs, hql, hqs⟩ := exists_list (Q := fun i q => CutI m (atF ps i) q) (min ps.length n) fun i hi => by
    have := getF (ps := ps) (i := i) (by omega)
    exact CutI_ex (h _ (List.mem_of_getElem? this)) m
  refine ⟨qs, ?_, hql, fun i q hi => (hqs i q hi).isI hm⟩
  have hw : wid 2 ps = true := wid_at fun i hi => by
    have := getF (ps := ps) (i := i) hi
    obtain ⟨b, xs, e, _⟩ := h _ (List.mem_of_getElem? this)
    rw [e]; rfl
  refine ret_eq (fn := i26) rfl rfl ?_
  simp -dsimp only [i26]
  simp -dsimp (disch := first | omega | assumption | apply agg_two | apply agg_nInt | apply agg_rInt | (simp only [J1,J2,J3,J4,J5,J6,J7,J8]; omega)) only [i26, go_sem,↓reduceIte,reduceCtorEq,Nat.reduceEqDiff,Nat.reduceAdd,Nat.reduceSub,Nat.reduceMul,Nat.reduceLT,Nat.reduceLeDiff,Nat.reduceBEq,Nat.reduceBNe,Int.reduceLT,Int.reduceLE,Int.reduceEq,Int.reduceNeg,Int.reduceAdd,Int.reduceSub,Int.reduceMul,Int.reduceToNat,Int.reducePow,Nat.reducePow]
  refine pW_loop (fun i : Nat => ⟨[(0, .fv (.sl tg ps)), (1, .fv (.int .i64 (n : Int))), (2, .fv (.int .i64 (m : Int))), (7, accS 2 0 (qs.take i)), (8, .fv (.int .i64 (i : Int)))], [], accL 2 (qs.take i)⟩) (fun i => i ≤ qs.length) (fun i => qs.length - i) 0 (by simp -dsimp (disch := first | omega | assumption | apply agg_two | apply agg_nInt | apply agg_rInt | (simp only [J1,J2,J3,J4,J5,J6,J7,J8]; omega)) only [go_sem,↓reduceIte,reduceCtorEq,Nat.reduceEqDiff,Nat.reduceAdd,Nat.reduceSub,Nat.reduceMul,Nat.reduceLT,Nat.reduceLeDiff,Nat.reduceBEq,Nat.reduceBNe,Int.reduceLT,Int.reduceLE,Int.reduceEq,Int.reduceNeg,Int.reduceAdd,Int.reduceSub,Int.reduceMul,Int.reduceToNat,Int.reducePow,Nat.reducePow]) (by omega) ?_
  intro i hi
  have hacc : (i = 0 ∨ 0 < i) := by omega
  by_cases hlt : i < qs.length
  · have h1 : i < ps.length := by omega
    have h2 : i < n := by omega
    have g1 := getF (ps := ps) (i := i) h1
    have g2 := getF (ps := qs) (i := i) hlt
    have x1 := hqs i _ g2
    have tk : qs.take (i + 1) = qs.take i ++ [atF qs i] := by rw [List.take_add_one, g2]; rfl
    obtain ⟨bb, xs, e1, _⟩ := h _ (List.mem_of_getElem? g1)
    obtain ⟨b, t, ys, e2, hd, hyl, t1, y1, r1, hc⟩ := x1
    rw [e1] at g1 r1
    have f1 : accS 2 0 (qs.take (i + 1)) = .ref (.l 0) 2 0 (i + 1) true := by
      rw [accS_ne (by rw [tk]; simp), List.length_take, Nat.min_eq_left (by omega)]
    have f2 : accL 2 (qs.take (i + 1)) = [.own 2 (qs.take i ++ [.agg [.bool b, .sl t (u32s ys)]])] := by
      rw [accL_ne (by rw [tk]; simp), tk, e2]
    have ut := u32s_take
    have f3 : 0 < i → accS 2 0 (qs.take i) = .ref (.l 0) 2 0 i true ∧ accL 2 (qs.take i) = [.own 2 (qs.take i)] ∧ (qs.take i).length = i := fun hp => by
      have f5 : (qs.take i).length = i := by rw [List.length_take]; omega
      have ne : qs.take i ≠ [] := fun h' => by rw [h'] at f5; simp at f5; omega
      exact ⟨by rw [accS_ne ne, f5], accL_ne ne, f5⟩
    have z1 : (i : Int) < ps.length := by omega
    have z2 : (i : Int) < n := by omega
    by_cases hcc : y1.length > m
    · rw [if_pos hcc] at hc
      obtain ⟨rfl, rfl⟩ := hc
      rcases hacc with rfl | hp
      · simp -dsimp only [i26b0]
        simp -dsimp (disch := first | omega | assumption | apply agg_two | apply agg_nInt | apply agg_rInt | (simp only [J1,J2,J3,J4,J5,J6,J7,J8]; omega)) only [i26, go_sem,↓reduceIte,reduceCtorEq,Nat.reduceEqDiff,Nat.reduceAdd,Nat.reduceSub,Nat.reduceMul,Nat.reduceLT,Nat.reduceLeDiff,Nat.reduceBEq,Nat.reduceBNe,Int.reduceLT,Int.reduceLE,Int.reduceEq,Int.reduceNeg,Int.reduceAdd,Int.reduceSub,Int.reduceMul,Int.reduceToNat,Int.reducePow,Nat.reducePow, z1, z2, g1, r1, hcc, ut, List.take_zero]
        refine next ⟨1, ?_, by omega, by omega⟩
        rw [f1, f2]; rfl
      · obtain ⟨f3, f4, f5⟩ := f3 hp
        simp -dsimp only [i26b0]
        simp -dsimp (disch := first | omega | assumption | apply agg_two | apply agg_nInt | apply agg_rInt | (simp only [J1,J2,J3,J4,J5,J6,J7,J8]; omega)) only [i26, go_sem,↓reduceIte,reduceCtorEq,Nat.reduceEqDiff,Nat.reduceAdd,Nat.reduceSub,Nat.reduceMul,Nat.reduceLT,Nat.reduceLeDiff,Nat.reduceBEq,Nat.reduceBNe,Int.reduceLT,Int.reduceLE,Int.reduceEq,Int.reduceNeg,Int.reduceAdd,Int.reduceSub,Int.reduceMul,Int.reduceToNat,Int.reducePow,Nat.reducePow, z1, z2, g1, r1, hcc, ut, f3, f4, f5]
        refine next ⟨i + 1, ?_, by omega, by omega⟩
        rw [f1, f2]
    · rw [if_neg hcc] at hc
      obtain ⟨rfl, rfl⟩ := hc
      rcases hacc with rfl | hp
      · simp -dsimp only [i26b0]
        simp -dsimp (disch := first | omega | assumption | apply agg_two | apply agg_nInt | apply agg_rInt | (simp only [J1,J2,J3,J4,J5,J6,J7,J8]; omega)) only [i26, go_sem,↓reduceIte,reduceCtorEq,Nat.reduceEqDiff,Nat.reduceAdd,Nat.reduceSub,Nat.reduceMul,Nat.reduceLT,Nat.reduceLeDiff,Nat.reduceBEq,Nat.reduceBNe,Int.reduceLT,Int.reduceLE,Int.reduceEq,Int.reduceNeg,Int.reduceAdd,Int.reduceSub,Int.reduceMul,Int.reduceToNat,Int.reducePow,Nat.reducePow, z1, z2, g1, r1, hcc, ut, List.take_zero]
        refine next ⟨1, ?_, by omega, by omega⟩
        rw [f1, f2]; rfl
      · obtain ⟨f3, f4, f5⟩ := f3 hp
        simp -dsimp only [i26b0]
        simp -dsimp (disch := first | omega | assumption | apply agg_two | apply agg_nInt | apply agg_rInt | (simp only [J1,J2,J3,J4,J5,J6,J7,J8]; omega)) only [i26, go_sem,↓reduceIte,reduceCtorEq,Nat.reduceEqDiff,Nat.reduceAdd,Nat.reduceSub,Nat.reduceMul,Nat.reduceLT,Nat.reduceLeDiff,Nat.reduceBEq,Nat.reduceBNe,Int.reduceLT,Int.reduceLE,Int.reduceEq,Int.reduceNeg,Int.reduceAdd,Int.reduceSub,Int.reduceMul,Int.reduceToNat,Int.reducePow,Nat.reducePow, z1, z2, g1, r1, hcc, ut, f3, f4, f5]
        refine next ⟨i + 1, ?_, by omega, by omega⟩
        rw [f1, f2]
  · have : i = qs.length := by omega
    subst this
    rw [List.take_length]
    have hstop : ¬ ((qs.length : Int) < ps.length ∧ (qs.length : Int) < n) := by omega
    by_cases z1 : (qs.length : Int) < ps.length
    · have z2 : ¬ ((qs.length : Int) < n) := by omega
      rcases hacc with h0 | hp
      · have : qs = [] := List.eq_nil_of_length_eq_zero h0
        subst this
        simp -dsimp only [i26b0]
        simp -dsimp (disch := first | omega | assumption | apply agg_two | apply agg_nInt | apply agg_rInt | (simp only [J1,J2,J3,J4,J5,J6,J7,J8]; omega)) only [i26, go_sem,↓reduceIte,reduceCtorEq,Nat.reduceEqDiff,Nat.reduceAdd,Nat.reduceSub,Nat.reduceMul,Nat.reduceLT,Nat.reduceLeDiff,Nat.reduceBEq,Nat.reduceBNe,Int.reduceLT,Int.reduceLE,Int.reduceEq,Int.reduceNeg,Int.reduceAdd,Int.reduceSub,Int.reduceMul,Int.reduceToNat,Int.reducePow,Nat.reducePow, z1, z2]
        rfl
      · have ne : qs ≠ [] := fun h' => by rw [h'] at hp; simp at hp
        rw [accT_ne ne, accS_ne ne, accL_ne ne]
        simp -dsimp only [i26b0]
        simp -dsimp (disch := first | omega | assumption | apply agg_two | apply agg_nInt | apply agg_rInt | (simp only [J1,J2,J3,J4,J5,J6,J7,J8]; omega)) only [i26, go_sem,↓reduceIte,reduceCtorEq,Nat.reduceEqDiff,Nat.reduceAdd,Nat.reduceSub,Nat.reduceMul,Nat.reduceLT,Nat.reduceLeDiff,Nat.reduceBEq,Nat.reduceBNe,Int.reduceLT,Int.reduceLE,Int.reduceEq,Int.reduceNeg,Int.reduceAdd,Int.reduceSub,Int.reduceMul,Int.reduceToNat,Int.reducePow,Nat.reducePow, z1, z2, cutL_all]
    · rcases hacc with h0 | hp
      · have : qs = [] := List.eq_nil_of_length_eq_zero h0
        subst this
        simp -dsimp only [i26b0]
        simp -dsimp (disch := first | omega | assumption | apply agg_two | apply agg_nInt | apply agg_rInt | (simp only [J1,J2,J3,J4,J5,J6,J7,J8]; omega)) only [i26, go_sem,↓reduceIte,reduceCtorEq,Nat.reduceEqDiff,Nat.reduceAdd,Nat.reduceSub,Nat.reduceMul,Nat.reduceLT,Nat.reduceLeDiff,Nat.reduceBEq,Nat.reduceBNe,Int.reduceLT,Int.reduceLE,Int.reduceEq,Int.reduceNeg,Int.reduceAdd,Int.reduceSub,Int.reduceMul,Int.reduceToNat,Int.reducePow,Nat.reducePow, z1]
        rfl
      · have ne : qs ≠ [] := fun h' => by rw [h'] at hp; simp at hp
        rw [accT_ne ne, accS_ne ne, accL_ne ne]
        simp -dsimp only [i26b0]
        simp -dsimp (disch := first | omega | assumption | apply agg_two | apply agg_nInt | apply agg_rInt | (simp only [J1,J2,J3,J4,J5,J6,J7,J8]; omega)) only [i26, go_sem,↓reduceIte,reduceCtorEq,Nat.reduceEqDiff,Nat.reduceAdd,Nat.reduceSub,Nat.reduceMul,Nat.reduceLT,Nat.reduceLeDiff,Nat.reduceBEq,Nat.reduceBNe,Int.reduceLT,Int.reduceLE,Int.reduceEq,Int.reduceNeg,Int.reduceAdd,Int.reduceSub,Int.reduceMul,Int.reduceToNat,Int.reducePow,Nat.reducePow, z1, cutL_all]
theorem Cut3_P {x : FV} (h : RawP x) {n m : Nat} (hn : n ≤ 1000) (hm : m ≤ 24) :
    ∃ y zs, ret tab.get an 26 [x, .int .i64 (n : Int), .int .i64 (m : Int)] = some y ∧ IsP y zs ∧ LimP y ∧ zs.length ≤ n ∧ PBd (32 * m) zs := by
  obtain ⟨ps, rfl, hp, hl⟩ := h
  obtain ⟨qs, hr, hql, hq⟩ := Cut3_ok .any hp hl hn hm
  obtain ⟨zs, hzl, hz⟩ := exists_list (Q := fun i z => IsI (atF qs i) z ∧ Bd (32 * m) z ∧ Lims (atF qs i)) qs.length fun i hi => hq i _ (getF hi)
  have hz' : ∀ i, i < zs.length → IsI (atF qs i) (atZ zs i) ∧ Bd (32 * m) (atZ zs i) ∧ Lims (atF qs i) := fun i hi => hz i _ (getZ hi)
  refine ⟨_, zs, hr, ⟨_, _, rfl, hzl.symm, fun i hi => (hz' i hi).1⟩, fun t ps e i hi => ?_, by omega, fun i => ?_⟩
  · injection e with _ e
    subst e
    exact (hz' i (by omega)).2.2
  · rcases Nat.lt_or_ge i zs.length with h | h
    · exact (hz' i h).2.1
    · rw [atZ_out h]; exact Bd.zero _
theorem Cut3_I {x : FV} (h : RawI x) {m : Nat} (hm : m ≤ 24) :
    ∃ t q z, ret tab.get an 26 [.sl .full [x], .int .i64 1, .int .i64 (m : Int)] = some (.sl t [q]) ∧ IsI q z ∧ Bd (32 * m) z ∧ Lims q := by
  obtain ⟨qs, hr, hql, hq⟩ := Cut3_ok .full (ps := [x]) (n := 1) (fun y hy => by simp at hy; subst hy; exact h) (by simp) (by omega) hm
  match qs, hql with
  | [q], _ =>
    obtain ⟨z, hz⟩ := hq 0 q rfl
    exact ⟨_, q, z, hr, hz⟩
end Go.Proofs.YtklelbidjcealaaGreat
namespace Go.Proofs.YtklelbidjcealaaGreat
open Go Go.Ab
def refR (alg q : Int) (t : Tag) : FV := .agg [.int .i64 alg, .bool (decide (q < 0)), .sl t (i64s (digs B16 q.natAbs))]
def rsig (alg q : Int) (p : List Int) : List Int := if alg = 1 then phorn [1, 1] p else if alg = 3 then phorn [0, q] p else p
theorem at_x (q : Int) (m : Nat) : atZ [0, q] m = if m = 1 then q else 0 := by
  match m with
  | 0 => rfl
  | 1 => rfl
  | m + 2 => rw [atZ_out (by simp)]; simp
theorem conv_x (p : List Int) (q : Int) (k : Nat) : ∀ n, conv p [0, q] n k = if 1 ≤ k ∧ k - 1 < n then atZ p (k - 1) * q else 0
  | 0 => by rw [conv_zero, if_neg (by omega)]
  | n + 1 => by
    rw [conv_succ, conv_x p q k n, at_x]
    by_cases h : k = n + 1
    · subst h
      rw [if_neg (by omega), if_pos (by omega), if_pos (by omega), if_pos (by omega), Int.zero_add]; rfl
    · have e : (if n ≤ k then atZ p n * (if k - n = 1 then q else 0) else 0) = 0 := by
        split
        · rw [if_neg (by omega), Int.mul_zero]
        · rfl
      rw [e, Int.add_zero]
      by_cases h2 : 1 ≤ k ∧ k - 1 < n
      · rw [if_pos h2, if_pos (by omega)]
      · rw [if_neg h2, if_neg (by omega)]
theorem at_phorn0 (q : Int) : ∀ (p : List Int) (i : Nat), atZ (phorn [0, q] p) i = atZ p i * q ^ i
  | [], i => by rw [phorn, atZ_nil, Int.zero_mul]
  | c :: r, i => by
    rw [phorn, at_padd, at_pmul, conv_x]
    match i with
    | 0 => rw [if_neg (by omega), atZ_cons_zero, atZ_cons_zero, Int.pow_zero, Int.mul_one, Int.zero_add]
    | i + 1 =>
      have e : atZ [c] (i + 1) = 0 := atZ_out (by simp)
      rw [e, Int.add_zero, atZ_cons_succ, Nat.add_sub_cancel, at_phorn0 q r i]
      by_cases h : i < (phorn [0, q] r).length
      · rw [if_pos (by omega), Int.mul_assoc, Int.pow_succ]
      · rw [if_neg (by omega)]
        have h0 : atZ (phorn [0, q] r) i = 0 := atZ_out (by omega)
        rw [at_phorn0 q r i] at h0
        rw [Int.pow_succ, ← Int.mul_assoc, h0, Int.zero_mul]
theorem pstr_phorn {q : Int} (hq : q ≠ 0) (p : List Int) : pstr q p = phorn [0, q] (ptrim p) := (pstr_trimd hq p).ext (phorn_trimd _ _) fun i => by rw [at_pstr, at_phorn0, atZ_ptrim]
theorem sig_rsig {alg q : Int} (ha : alg = 1 ∨ alg = 2 ∨ alg = 3) (q0 : alg = 3 → q ≠ 0) (p : List Int) : sig alg q p = rsig alg q (ptrim p) := by
  rcases ha with rfl | rfl | rfl
  · rfl
  · rfl
  · show pstr q p = phorn [0, q] (ptrim p)
    exact pstr_phorn (q0 rfl) p
theorem del_trim (alg : Int) (p : List Int) : del alg (ptrim p) = del alg p := by
  unfold del
  split
  · exact (pderiv_trimd _).ext (pderiv_trimd _) fun i => by rw [at_pderiv, at_pderiv, atZ_ptrim]
  · rfl
theorem rsig_bd {alg q : Int} {p : List Int} {kp kq : Nat} (bp : PBd kp p) (hq : Bd kq q) (h1q : 1 ≤ kq) : PBd (kp + p.length * (kq + p.length + 1)) (rsig alg q p) := by
  unfold rsig
  split
  · exact phorn_bd (N := p.length) (by simp) (PBd.two (bd11.mono h1q) (bd11.mono h1q)) bp (Nat.le_refl _)
  · split
    · exact phorn_bd (N := p.length) (by simp) (PBd.two (Bd.zero kq) hq) bp (Nat.le_refl _)
    · exact bp.mono (by omega)
theorem rsig_len (alg q : Int) (p : List Int) : (rsig alg q p).length ≤ p.length := by
  unfold rsig
  split
  · exact phorn_len (by simp) p
  · split
    · exact phorn_len (by simp) p
    · exact Nat.le_refl _
theorem rsig_trimd {p : List Int} (h : Trimd p) (alg q : Int) : Trimd (rsig alg q p) := by
  unfold rsig
  split
  · exact phorn_trimd _ _
  · split
    · exact phorn_trimd _ _
    · exact h
theorem bd20 {n : Nat} (h : n ≤ 1000000) : Bd 20 (n : Int) := by
  show (n : Int).natAbs < 2 ^ 20
  rw [Int.natAbs_natCast]; omega
theorem del_bd {p : List Int} {k : Nat} (alg : Int) (hs : Few p.length) (bp : PBd k p) : PBd (20 + k) (del alg p) := by
  unfold del
  split
  · intro i
    rw [at_pderiv]
    by_cases h : i + 1 < p.length
    · exact (bd20 (by omega)).mul (bp _)
    · rw [atZ_out (by omega), Int.mul_zero]; exact Bd.zero _
  · exact PBd.nil _
theorem del_len (alg : Int) (p : List Int) : (del alg p).length ≤ p.length := by
  unfold del
  split
  · have := ptrim_len (rng (p.length - 1) fun i => ((i + 1 : Nat) : Int) * atZ p (i + 1))
    rw [rng_len] at this
    show (pderiv p).length ≤ _
    unfold pderiv
    omega
  · simp
theorem RSigma_ok {x : FV} {p : List Int} {alg q : Int} {t : Tag} {kp kq : Nat} (hx : IsRP x p) (hs : p.length ≤ 1000) (bp : PBd kp p) (hq : Bd kq q) (h1q : 1 ≤ kq) (q0 : alg = 3 → q ≠ 0) (hk : Fair (kp + p.length * (kq + p.length + 1) + kq + 3000000)) :
    ∃ y, ret tab.get an 48 [refR alg q t, x] = some y ∧ IsRP y (rsig alg q p) := by
  have r1 : ret tab.get an 22 [.int .i64 1] = some (rInt 1) := ROf_ok (by omega) (by omega)
  have r0 : ret tab.get an 22 [.int .i64 0] = some (rInt 0) := ROf_ok (by omega) (by omega)
  have hm : p.length * (1 + p.length + 1) ≤ 1000 * 1002 := Nat.mul_le_mul hs (by omega)
  have a0 := agg_rInt 0
  obtain ⟨tt, ps, e⟩ : ∃ t ps, x = .sl t ps := by obtain ⟨t, ps, rfl, _⟩ := hx; exact ⟨t, ps, rfl⟩
  by_cases c1 : alg = 1
  · subst c1
    obtain ⟨y, r2, hy⟩ := RShift_ok (a := 1) (ka := 1) (K := kp + 1002000) hx (rInt_R 1) (by omega) bd11 (by omega) bp (by omega) (by omega)
    refine ⟨y, ?_, hy⟩
    obtain ⟨t2, ps2, rfl, _⟩ := hy
    subst e
    unfold refR
    refine ret_eq (fn := i48) rfl rfl ?_
    simp -dsimp only [i48]
    simp -dsimp (disch := first | omega | assumption | apply agg_two | apply agg_nInt | apply agg_rInt | (simp only [J1,J2,J3,J4,J5,J6,J7,J8]; omega)) only [i48, ↓i48d0t, i48d0, go_sem,↓reduceIte,reduceCtorEq,Nat.reduceEqDiff,Nat.reduceAdd,Nat.reduceSub,Nat.reduceMul,Nat.reduceLT,Nat.reduceLeDiff,Nat.reduceBEq,Nat.reduceBNe,Int.reduceLT,Int.reduceLE,Int.reduceEq,Int.reduceNeg,Int.reduceAdd,Int.reduceSub,Int.reduceMul,Int.reduceToNat,Int.reducePow,Nat.reducePow, r1, r2]
  · by_cases c3 : alg = 3
    · subst c3
      have hQ : IsR (.agg [.bool (decide (q < 0)), .sl t (i64s (digs B16 q.natAbs))]) q := ⟨t, rfl⟩
      have hl : AllR [rInt 0, .agg [.bool (decide (q < 0)), .sl t (i64s (digs B16 q.natAbs))]] [0, q] := ⟨rfl, fun i hi => by
        match i, hi with
        | 0, _ => exact rInt_R 0
        | 1, _ => exact hQ⟩
      have tq : ptrim [0, q] = [0, q] := Trimd.ptrim (.inr (by simpa [atZ] using q0 rfl))
      obtain ⟨l, r2, hl2⟩ := RTrim_R .full hl (by simp)
      rw [tq] at hl2
      obtain ⟨y, r3, hy⟩ := RCompose_ok hx hl2 (by simp) (by omega) (PBd.two (Bd.zero kq) hq) bp (Nat.le_refl _) (by omega)
      refine ⟨y, ?_, hy⟩
      obtain ⟨t2, ps2, rfl, _⟩ := hy
      obtain ⟨t3, ps3, rfl, _⟩ := hl2
      subst e
      unfold refR
      refine ret_eq (fn := i48) rfl rfl ?_
      simp -dsimp only [i48]
      simp -dsimp (disch := first | omega | assumption | apply agg_two | apply agg_nInt | apply agg_rInt | (simp only [J1,J2,J3,J4,J5,J6,J7,J8]; omega)) only [i48, ↓i48d0t, i48d0, go_sem,↓reduceIte,reduceCtorEq,Nat.reduceEqDiff,Nat.reduceAdd,Nat.reduceSub,Nat.reduceMul,Nat.reduceLT,Nat.reduceLeDiff,Nat.reduceBEq,Nat.reduceBNe,Int.reduceLT,Int.reduceLE,Int.reduceEq,Int.reduceNeg,Int.reduceAdd,Int.reduceSub,Int.reduceMul,Int.reduceToNat,Int.reducePow,Nat.reducePow, r0, r2, r3, cutR3]
    · have e2 : rsig alg q p = p := by unfold rsig; rw [if_neg c1, if_neg c3]
      rw [e2]
      refine ⟨x, ?_, hx⟩
      subst e
      unfold refR
      refine ret_eq (fn := i48) rfl rfl ?_
      simp -dsimp only [i48]
      simp -dsimp (disch := first | omega | assumption | apply agg_two | apply agg_nInt | apply agg_rInt | (simp only [J1,J2,J3,J4,J5,J6,J7,J8]; omega)) only [i48, ↓i48d0t, i48d0, go_sem,↓reduceIte,reduceCtorEq,Nat.reduceEqDiff,Nat.reduceAdd,Nat.reduceSub,Nat.reduceMul,Nat.reduceLT,Nat.reduceLeDiff,Nat.reduceBEq,Nat.reduceBNe,Int.reduceLT,Int.reduceLE,Int.reduceEq,Int.reduceNeg,Int.reduceAdd,Int.reduceSub,Int.reduceMul,Int.reduceToNat,Int.reducePow,Nat.reducePow, c1, c3]
theorem RDelta_ok {x : FV} {p : List Int} {alg q : Int} {t : Tag} {kp : Nat} (hx : IsRP x p) (hs : Few p.length) (bp : PBd kp p) (hk : Fair (kp + 64)) :
    ∃ y, ret tab.get an 50 [refR alg q t, x] = some y ∧ IsRP y (del alg p) := by
  obtain ⟨tt, ps, e⟩ : ∃ t ps, x = .sl t ps := by obtain ⟨t, ps, rfl, _⟩ := hx; exact ⟨t, ps, rfl⟩
  unfold del
  by_cases c : alg = 2
  · subst c
    rw [if_pos rfl]
    obtain ⟨y, r2, hy⟩ := RPDeriv_ok hx hs bp hk
    refine ⟨y, ?_, hy⟩
    obtain ⟨t2, ps2, rfl, _⟩ := hy
    subst e
    unfold refR
    refine ret_eq (fn := i50) rfl rfl ?_
    simp -dsimp only [i50]
    simp -dsimp (disch := first | omega | assumption | apply agg_two | apply agg_nInt | apply agg_rInt | (simp only [J1,J2,J3,J4,J5,J6,J7,J8]; omega)) only [i50, go_sem,↓reduceIte,reduceCtorEq,Nat.reduceEqDiff,Nat.reduceAdd,Nat.reduceSub,Nat.reduceMul,Nat.reduceLT,Nat.reduceLeDiff,Nat.reduceBEq,Nat.reduceBNe,Int.reduceLT,Int.reduceLE,Int.reduceEq,Int.reduceNeg,Int.reduceAdd,Int.reduceSub,Int.reduceMul,Int.reduceToNat,Int.reducePow,Nat.reducePow, r2]
  · rw [if_neg c]
    refine ⟨.sl .nil [], ?_, ⟨_, _, rfl, rfl, fun i hi => by simp at hi⟩⟩
    subst e
    unfold refR
    refine ret_eq (fn := i50) rfl rfl ?_
    simp -dsimp only [i50]
    simp -dsimp (disch := first | omega | assumption | apply agg_two | apply agg_nInt | apply agg_rInt | (simp only [J1,J2,J3,J4,J5,J6,J7,J8]; omega)) only [i50, go_sem,↓reduceIte,reduceCtorEq,Nat.reduceEqDiff,Nat.reduceAdd,Nat.reduceSub,Nat.reduceMul,Nat.reduceLT,Nat.reduceLeDiff,Nat.reduceBEq,Nat.reduceBNe,Int.reduceLT,Int.reduceLE,Int.reduceEq,Int.reduceNeg,Int.reduceAdd,Int.reduceSub,Int.reduceMul,Int.reduceToNat,Int.reducePow,Nat.reducePow, c]
end Go.Proofs.YtklelbidjcealaaGreat
set_option maxRecDepth 1000000
namespace Go.Proofs.YtklelbidjcealaaGreat
open Go.Ab
def e0 : Kn:=⟨44,[.fv (.int .i64 2),.fv (.agg [(.bool false),(.sl .nil [])])],[],(.fv (.tup [(.ptr (.agg [(.int .i64 2),(.bool false),(.sl .nil [])])),(.int .i64 0)]),[],[.own 2 [(.agg [(.bool false),(.sl .nil [])])],.frz 3 [(.agg [(.int .i64 2),(.bool false),(.sl .nil [])])]])⟩
theorem x0 : Has tab.get an e0:=Has.of [] trivial 1000 (by kernel_rfl)
def e1 : Kn:=⟨79,[.fv (.bool false),.fv (.sl .any [(.int .i64 1)])],[],(.fv (.agg [(.bool false),(.sl .full [(.int .i64 1)])]),[],[.own 2 [(.agg [(.bool false),(.sl .full [(.int .i64 1)])])]])⟩
theorem x1 : Has tab.get an e1:=Has.of [] trivial 1000 (by kernel_rfl)
def e2 : Kn:=⟨22,[.fv (.int .i64 1)],[],(.fv (.agg [(.bool false),(.sl .full [(.int .i64 1)])]),[],[.own 2 [(.agg [(.bool false),(.sl .full [(.int .i64 1)])])],.frz 1 [(.int .i64 1)]])⟩
theorem x2 : Has tab.get an e2:=Has.of [e1] ⟨x1,trivial⟩ 1000 (by kernel_rfl)
def e3 : Kn:=⟨46,[.fv (.agg [(.bool false),(.sl .full [(.int .i64 1)])])],[],(.fv (.int .i64 1),[],[.own 2 [(.agg [(.bool false),(.sl .full [(.int .i64 1)])])]])⟩
theorem x3 : Has tab.get an e3:=Has.of [] trivial 1000 (by kernel_rfl)
def e4 : Kn:=⟨80,[.fv (.sl .any [(.agg [(.bool false),(.sl .full [(.int .i64 1)])])])],[],(.fv (.sl .full [(.agg [(.bool false),(.sl .full [(.int .i64 1)])])]),[],[])⟩
theorem x4 : Has tab.get an e4:=Has.of [e3] ⟨x3,trivial⟩ 1000 (by kernel_rfl)
def e5 : Kn:=⟨55,[.fv (.sl .full [(.int .i64 1)])],[],(.fv (.sl .full [(.agg [(.bool false),(.sl .full [(.int .i64 1)])])]),[],[.frz 2 [(.agg [(.bool false),(.sl .full [(.int .i64 1)])])]])⟩
theorem x5 : Has tab.get an e5:=Has.of [e2,e4] ⟨x2,⟨x4,trivial⟩⟩ 1000 (by kernel_rfl)
def e6 : Kn:=⟨70,[.fv (.sl .any [(.sl .nil []),(.sl .full [(.agg [(.bool false),(.sl .full [(.int .i64 1)])])])])],[],(.fv (.sl .full [(.sl .nil []),(.sl .full [(.agg [(.bool false),(.sl .full [(.int .i64 1)])])])]),[],[])⟩
theorem x6 : Has tab.get an e6:=Has.of [] trivial 1000 (by kernel_rfl)
def e7 : Kn:=⟨41,[.fv (.sl .nil [])],[],(.fv (.sl .nil []),[],[])⟩
theorem x7 : Has tab.get an e7:=Has.of [] trivial 1000 (by kernel_rfl)
def e8 : Kn:=⟨45,[.fv (.agg [(.bool false),(.sl .full [(.int .i64 1)])])],[],(.fv (.agg [(.bool false),(.sl .any [(.int .u32 1)])]),[],[.own 2 [(.agg [(.bool false),(.sl .full [(.int .i64 1)])])],.own 2 [(.agg [(.bool false),(.sl .any [(.int .u32 1)])])],.frz 1 [(.int .u32 1)]])⟩
theorem x8 : Has tab.get an e8:=Has.of [] trivial 1000 (by kernel_rfl)
def e9 : Kn:=⟨41,[.fv (.sl .full [(.agg [(.bool false),(.sl .full [(.int .i64 1)])])])],[],(.ref (.l 0) 2 0 1 true,[],[.own 2 [(.agg [(.bool false),(.sl .any [(.int .u32 1)])])]])⟩
theorem x9 : Has tab.get an e9:=Has.of [e8] ⟨x8,trivial⟩ 1000 (by kernel_rfl)
def e10 : Kn:=⟨23,[.fv (.sl .full [(.sl .nil []),(.sl .full [(.agg [(.bool false),(.sl .full [(.int .i64 1)])])])])],[],(.ref (.l 0) 1 0 2 true,[],[.own 1 [(.sl .nil []),(.sl .any [(.agg [(.bool false),(.sl .any [(.int .u32 1)])])])]])⟩
theorem x10 : Has tab.get an e10:=Has.of [e7,e9] ⟨x7,⟨x9,trivial⟩⟩ 1000 (by kernel_rfl)
def e11 : Kn:=⟨69,[.fv (.sl .full [(.sl .nil []),(.sl .full [(.agg [(.bool false),(.sl .full [(.int .i64 1)])])])])],[],(.fv (.sl .any [(.sl .nil []),(.sl .any [(.agg [(.bool false),(.sl .any [(.int .u32 1)])])])]),[],[.frz 1 [(.sl .nil []),(.sl .full [(.agg [(.bool false),(.sl .full [(.int .i64 1)])])])]])⟩
theorem x11 : Has tab.get an e11:=Has.of [e6,e10] ⟨x6,⟨x10,trivial⟩⟩ 1000 (by kernel_rfl)
def e12 : Kn:=⟨79,[.fv (.bool false),.fv (.sl .nil [])],[],(.fv (.agg [(.bool false),(.sl .full [])]),[],[.own 2 [(.agg [(.bool false),(.sl .full [])])]])⟩
theorem x12 : Has tab.get an e12:=Has.of [] trivial 1000 (by kernel_rfl)
def e13 : Kn:=⟨22,[.fv (.int .i64 0)],[],(.fv (.agg [(.bool false),(.sl .full [])]),[],[.own 2 [(.agg [(.bool false),(.sl .full [])])]])⟩
theorem x13 : Has tab.get an e13:=Has.of [e12] ⟨x12,trivial⟩ 1000 (by kernel_rfl)
def e14 : Kn:=⟨80,[.fv (.sl .any [(.agg [(.bool false),(.sl .full [])]),(.agg [(.bool false),(.sl .full [(.int .i64 1)])])])],[],(.fv (.sl .full [(.agg [(.bool false),(.sl .full [])]),(.agg [(.bool false),(.sl .full [(.int .i64 1)])])]),[],[])⟩
theorem x14 : Has tab.get an e14:=Has.of [e3] ⟨x3,trivial⟩ 1000 (by kernel_rfl)
def e15 : Kn:=⟨55,[.fv (.sl .full [(.int .i64 0),(.int .i64 1)])],[],(.fv (.sl .full [(.agg [(.bool false),(.sl .full [])]),(.agg [(.bool false),(.sl .full [(.int .i64 1)])])]),[],[.frz 2 [(.agg [(.bool false),(.sl .full [])]),(.agg [(.bool false),(.sl .full [(.int .i64 1)])])]])⟩
theorem x15 : Has tab.get an e15:=Has.of [e13,e2,e14] ⟨x13,⟨x2,⟨x14,trivial⟩⟩⟩ 1000 (by kernel_rfl)
def e16 : Kn:=⟨70,[.fv (.sl .any [(.sl .full [(.agg [(.bool false),(.sl .full [])]),(.agg [(.bool false),(.sl .full [(.int .i64 1)])])])])],[],(.fv (.sl .full [(.sl .full [(.agg [(.bool false),(.sl .full [])]),(.agg [(.bool false),(.sl .full [(.int .i64 1)])])])]),[],[])⟩
theorem x16 : Has tab.get an e16:=Has.of [] trivial 1000 (by kernel_rfl)
def e17 : Kn:=⟨45,[.fv (.agg [(.bool false),(.sl .full [])])],[],(.fv (.agg [(.bool false),(.sl .nil [])]),[],[.own 2 [(.agg [(.bool false),(.sl .full [])])],.own 2 [(.agg [(.bool false),(.sl .nil [])])]])⟩
theorem x17 : Has tab.get an e17:=Has.of [] trivial 1000 (by kernel_rfl)
def e18 : Kn:=⟨41,[.fv (.sl .full [(.agg [(.bool false),(.sl .full [])]),(.agg [(.bool false),(.sl .full [(.int .i64 1)])])])],[],(.ref (.l 0) 2 0 2 true,[],[.own 2 [(.agg [(.bool false),(.sl .nil [])]),(.agg [(.bool false),(.sl .any [(.int .u32 1)])])]])⟩
theorem x18 : Has tab.get an e18:=Has.of [e17,e8] ⟨x17,⟨x8,trivial⟩⟩ 1000 (by kernel_rfl)
def e19 : Kn:=⟨23,[.fv (.sl .full [(.sl .full [(.agg [(.bool false),(.sl .full [])]),(.agg [(.bool false),(.sl .full [(.int .i64 1)])])])])],[],(.ref (.l 0) 1 0 1 true,[],[.own 1 [(.sl .any [(.agg [(.bool false),(.sl .nil [])]),(.agg [(.bool false),(.sl .any [(.int .u32 1)])])])]])⟩
theorem x19 : Has tab.get an e19:=Has.of [e18] ⟨x18,trivial⟩ 1000 (by kernel_rfl)
def e20 : Kn:=⟨69,[.fv (.sl .full [(.sl .full [(.agg [(.bool false),(.sl .full [])]),(.agg [(.bool false),(.sl .full [(.int .i64 1)])])])])],[],(.fv (.sl .any [(.sl .any [(.agg [(.bool false),(.sl .nil [])]),(.agg [(.bool false),(.sl .any [(.int .u32 1)])])])]),[],[.frz 1 [(.sl .full [(.agg [(.bool false),(.sl .full [])]),(.agg [(.bool false),(.sl .full [(.int .i64 1)])])])]])⟩
theorem x20 : Has tab.get an e20:=Has.of [e16,e19] ⟨x16,⟨x19,trivial⟩⟩ 1000 (by kernel_rfl)
def e21 : Kn:=⟨165,[.fv (.sl .any [(.int .u32 1)])],[],(.fv (.sl .any [(.int .u32 1)]),[],[])⟩
theorem x21 : Has tab.get an e21:=Has.of [] trivial 1000 (by kernel_rfl)
def e22 : Kn:=⟨129,[.fv (.agg [(.bool false),(.sl .any [(.int .u32 1)])])],[],(.fv (.sl .any [(.int .u32 1)]),[],[.own 2 [(.agg [(.bool false),(.sl .any [(.int .u32 1)])])]])⟩
theorem x22 : Has tab.get an e22:=Has.of [e21] ⟨x21,trivial⟩ 1000 (by kernel_rfl)
def e23 : Kn:=⟨84,[.fv (.agg [(.bool false),(.sl .any [(.int .u32 1)])])],[],(.fv (.int .i64 1),[],[.own 2 [(.agg [(.bool false),(.sl .any [(.int .u32 1)])])]])⟩
theorem x23 : Has tab.get an e23:=Has.of [e22] ⟨x22,trivial⟩ 1000 (by kernel_rfl)
def e24 : Kn:=⟨130,[.fv (.sl .any [(.agg [(.bool false),(.sl .any [(.int .u32 1)])])])],[],(.fv (.sl .any [(.agg [(.bool false),(.sl .any [(.int .u32 1)])])]),[],[])⟩
theorem x24 : Has tab.get an e24:=Has.of [e23] ⟨x23,trivial⟩ 1000 (by kernel_rfl)
def e25 : Kn:=⟨115,[.fv (.sl .any [(.agg [(.bool false),(.sl .any [(.int .u32 1)])])])],[],(.fv (.int .i64 0),[],[])⟩
theorem x25 : Has tab.get an e25:=Has.of [e24] ⟨x24,trivial⟩ 1000 (by kernel_rfl)
def e26 : Kn:=⟨130,[.fv (.sl .nil [])],[],(.fv (.sl .nil []),[],[])⟩
theorem x26 : Has tab.get an e26:=Has.of [] trivial 1000 (by kernel_rfl)
def e27 : Kn:=⟨115,[.fv (.sl .nil [])],[],(.fv (.int .i64 (-1)),[],[])⟩
theorem x27 : Has tab.get an e27:=Has.of [e26] ⟨x26,trivial⟩ 1000 (by kernel_rfl)
def e28 : Kn:=⟨116,[.fv (.sl .nil [])],[],(.fv (.int .i64 0),[],[])⟩
theorem x28 : Has tab.get an e28:=Has.of [] trivial 1000 (by kernel_rfl)
def e29 : Kn:=⟨155,[.fv (.int .u32 1)],[],(.fv (.int .i64 1),[],[])⟩
theorem x29 : Has tab.get an e29:=Has.of [] trivial 1000 (by kernel_rfl)
def e30 : Kn:=⟨119,[.fv (.agg [(.bool false),(.sl .any [(.int .u32 1)])])],[],(.fv (.int .i64 1),[],[.own 2 [(.agg [(.bool false),(.sl .any [(.int .u32 1)])])]])⟩
theorem x30 : Has tab.get an e30:=Has.of [e22,e29] ⟨x22,⟨x29,trivial⟩⟩ 1000 (by kernel_rfl)
def e31 : Kn:=⟨116,[.fv (.sl .any [(.agg [(.bool false),(.sl .any [(.int .u32 1)])])])],[],(.fv (.int .i64 1),[],[])⟩
theorem x31 : Has tab.get an e31:=Has.of [e30] ⟨x30,trivial⟩ 1000 (by kernel_rfl)
def e32 : Kn:=⟨118,[.fv (.sl .any [(.sl .nil []),(.sl .any [(.agg [(.bool false),(.sl .any [(.int .u32 1)])])])])],[],(.fv (.agg [(.int .i64 1),(.int .i64 0),(.int .i64 1)]),[],[.own 3 [(.agg [(.int .i64 1),(.int .i64 0),(.int .i64 1)])],.own 3 [(.agg [(.int .i64 1),(.int .i64 0),(.int .i64 1)])]])⟩
theorem x32 : Has tab.get an e32:=Has.of [e25,e27,e28,e31] ⟨x25,⟨x27,⟨x28,⟨x31,trivial⟩⟩⟩⟩ 1000 (by kernel_rfl)
def e33 : Kn:=⟨130,[.fv (.sl .any [(.agg [(.bool false),(.sl .nil [])]),(.agg [(.bool false),(.sl .any [(.int .u32 1)])])])],[],(.fv (.sl .any [(.agg [(.bool false),(.sl .nil [])]),(.agg [(.bool false),(.sl .any [(.int .u32 1)])])]),[],[])⟩
theorem x33 : Has tab.get an e33:=Has.of [e23] ⟨x23,trivial⟩ 1000 (by kernel_rfl)
def e34 : Kn:=⟨115,[.fv (.sl .any [(.agg [(.bool false),(.sl .nil [])]),(.agg [(.bool false),(.sl .any [(.int .u32 1)])])])],[],(.fv (.int .i64 1),[],[])⟩
theorem x34 : Has tab.get an e34:=Has.of [e33] ⟨x33,trivial⟩ 1000 (by kernel_rfl)
def e35 : Kn:=⟨165,[.fv (.sl .nil [])],[],(.fv (.sl .any []),[],[])⟩
theorem x35 : Has tab.get an e35:=Has.of [] trivial 1000 (by kernel_rfl)
def e36 : Kn:=⟨129,[.fv (.agg [(.bool false),(.sl .nil [])])],[],(.fv (.sl .any []),[],[.own 2 [(.agg [(.bool false),(.sl .nil [])])]])⟩
theorem x36 : Has tab.get an e36:=Has.of [e35] ⟨x35,trivial⟩ 1000 (by kernel_rfl)
def e37 : Kn:=⟨119,[.fv (.agg [(.bool false),(.sl .nil [])])],[],(.fv (.int .i64 0),[],[.own 2 [(.agg [(.bool false),(.sl .nil [])])]])⟩
theorem x37 : Has tab.get an e37:=Has.of [e36] ⟨x36,trivial⟩ 1000 (by kernel_rfl)
def e38 : Kn:=⟨116,[.fv (.sl .any [(.agg [(.bool false),(.sl .nil [])]),(.agg [(.bool false),(.sl .any [(.int .u32 1)])])])],[],(.fv (.int .i64 1),[],[])⟩
theorem x38 : Has tab.get an e38:=Has.of [e37,e30] ⟨x37,⟨x30,trivial⟩⟩ 1000 (by kernel_rfl)
def e39 : Kn:=⟨118,[.fv (.sl .any [(.sl .any [(.agg [(.bool false),(.sl .nil [])]),(.agg [(.bool false),(.sl .any [(.int .u32 1)])])])])],[],(.fv (.agg [(.int .i64 0),(.int .i64 1),(.int .i64 1)]),[],[.own 3 [(.agg [(.int .i64 0),(.int .i64 1),(.int .i64 1)])],.own 3 [(.agg [(.int .i64 0),(.int .i64 1),(.int .i64 1)])]])⟩
theorem x39 : Has tab.get an e39:=Has.of [e34,e38] ⟨x34,⟨x38,trivial⟩⟩ 1000 (by kernel_rfl)
def e40 : Kn:=⟨121,[.fv (.sl .full [(.int .i64 2),(.int .i64 2)])],[],(.fv (.int .i64 4),[],[])⟩
theorem x40 : Has tab.get an e40:=Has.of [] trivial 1000 (by kernel_rfl)
def e41 : Kn:=⟨121,[.fv (.sl .full [(.int .i64 1),(.int .i64 2),(.int .i64 0)])],[],(.fv (.int .i64 0),[],[])⟩
theorem x41 : Has tab.get an e41:=Has.of [] trivial 1000 (by kernel_rfl)
def e42 : Kn:=⟨120,[.fv (.sl .full [(.int .i64 1),(.int .i64 1),(.int .i64 4),(.int .i64 0),(.int .i64 8)])],[],(.fv (.int .i64 14),[],[])⟩
theorem x42 : Has tab.get an e42:=Has.of [] trivial 1000 (by kernel_rfl)
def e43 : Kn:=⟨120,[.fv (.sl .full [(.int .i64 0),(.int .i64 1),(.int .i64 2)])],[],(.fv (.int .i64 3),[],[])⟩
theorem x43 : Has tab.get an e43:=Has.of [] trivial 1000 (by kernel_rfl)
def e44 : Kn:=⟨121,[.fv (.sl .full [(.int .i64 1),(.int .i64 2)])],[],(.fv (.int .i64 2),[],[])⟩
theorem x44 : Has tab.get an e44:=Has.of [] trivial 1000 (by kernel_rfl)
def e45 : Kn:=⟨121,[.fv (.sl .full [(.int .i64 2),(.int .i64 1)])],[],(.fv (.int .i64 2),[],[])⟩
theorem x45 : Has tab.get an e45:=Has.of [] trivial 1000 (by kernel_rfl)
def e46 : Kn:=⟨121,[.fv (.sl .full [(.int .i64 2),(.int .i64 3)])],[],(.fv (.int .i64 6),[],[])⟩
theorem x46 : Has tab.get an e46:=Has.of [] trivial 1000 (by kernel_rfl)
def e47 : Kn:=⟨121,[.fv (.sl .full [(.int .i64 6),(.int .i64 14)])],[],(.fv (.int .i64 84),[],[])⟩
theorem x47 : Has tab.get an e47:=Has.of [] trivial 1000 (by kernel_rfl)
def e48 : Kn:=⟨122,[.fv (.sl .full [(.int .i64 2),(.int .i64 1),(.int .i64 3),(.int .i64 14)])],[],(.fv (.int .i64 84),[],[])⟩
theorem x48 : Has tab.get an e48:=Has.of [e44,e45,e46,e47] ⟨x44,⟨x45,⟨x46,⟨x47,trivial⟩⟩⟩⟩ 1000 (by kernel_rfl)
def e49 : Kn:=⟨71,[.fv (.sl .any [(.sl .nil []),(.sl .any [(.agg [(.bool false),(.sl .any [(.int .u32 1)])])])]),.fv (.sl .any [(.sl .any [(.agg [(.bool false),(.sl .nil [])]),(.agg [(.bool false),(.sl .any [(.int .u32 1)])])])]),.fv (.agg [(.bool false),(.sl .nil [])])],[],(.fv (.int .i64 84),[],[.own 2 [(.agg [(.bool false),(.sl .nil [])])],.own 3 [(.agg [(.int .i64 1),(.int .i64 0),(.int .i64 1)])],.own 3 [(.agg [(.int .i64 0),(.int .i64 1),(.int .i64 1)])]])⟩
theorem x49 : Has tab.get an e49:=Has.of [e32,e39,e37,e40,e41,e42,e43,e48] ⟨x32,⟨x39,⟨x37,⟨x40,⟨x41,⟨x42,⟨x43,⟨x48,trivial⟩⟩⟩⟩⟩⟩⟩⟩ 1000 (by kernel_rfl)
def e50 : Kn:=⟨83,[.fv (.sl .any [(.sl .any [(.agg [(.bool false),(.sl .nil [])]),(.agg [(.bool false),(.sl .any [(.int .u32 1)])])])])],[],(.fv (.sl .any [(.sl .any [(.agg [(.bool false),(.sl .nil [])]),(.agg [(.bool false),(.sl .any [(.int .u32 1)])])])]),[],[])⟩
theorem x50 : Has tab.get an e50:=Has.of [e34] ⟨x34,trivial⟩ 1000 (by kernel_rfl)
def e51 : Kn:=⟨174,[.fv (.agg [(.bool false),(.sl .nil [])])],[],(.fv (.bool false),[],[.own 2 [(.agg [(.bool false),(.sl .nil [])])]])⟩
theorem x51 : Has tab.get an e51:=Has.of [] trivial 1000 (by kernel_rfl)
def e52 : Kn:=⟨165,[.fv (.sl .any [(.int .u32 0)])],[],(.fv (.sl .any []),[],[])⟩
theorem x52 : Has tab.get an e52:=Has.of [] trivial 1000 (by kernel_rfl)
def e53 : Kn:=⟨177,[.fv (.sl .any []),.fv (.sl .any [])],[],(.fv (.sl .any []),[],[.frz 1 [(.int .u32 0)]])⟩
theorem x53 : Has tab.get an e53:=Has.of [e52] ⟨x52,trivial⟩ 1000 (by kernel_rfl)
def e54 : Kn:=⟨165,[.fv (.sl .any [])],[],(.fv (.sl .any []),[],[])⟩
theorem x54 : Has tab.get an e54:=Has.of [] trivial 1000 (by kernel_rfl)
def e55 : Kn:=⟨134,[.fv (.bool false),.fv (.sl .any [])],[],(.fv (.agg [(.bool false),(.sl .nil [])]),[],[.own 2 [(.agg [(.bool false),(.sl .nil [])])]])⟩
theorem x55 : Has tab.get an e55:=Has.of [e54] ⟨x54,trivial⟩ 1000 (by kernel_rfl)
def e56 : Kn:=⟨151,[.fv (.agg [(.bool false),(.sl .nil [])]),.fv (.agg [(.bool false),(.sl .nil [])]),.fv (.bool false)],[],(.fv (.agg [(.bool false),(.sl .nil [])]),[],[.own 2 [(.agg [(.bool false),(.sl .nil [])])],.own 2 [(.agg [(.bool false),(.sl .nil [])])],.own 2 [(.agg [(.bool false),(.sl .nil [])])]])⟩
theorem x56 : Has tab.get an e56:=Has.of [e36,e51,e53,e55] ⟨x36,⟨x51,⟨x53,⟨x55,trivial⟩⟩⟩⟩ 1000 (by kernel_rfl)
def e57 : Kn:=⟨103,[.fv (.agg [(.bool false),(.sl .nil [])]),.fv (.agg [(.bool false),(.sl .nil [])])],[],(.fv (.agg [(.bool false),(.sl .nil [])]),[],[.own 2 [(.agg [(.bool false),(.sl .nil [])])],.own 2 [(.agg [(.bool false),(.sl .nil [])])],.own 2 [(.agg [(.bool false),(.sl .nil [])])]])⟩
theorem x57 : Has tab.get an e57:=Has.of [e56] ⟨x56,trivial⟩ 1000 (by kernel_rfl)
def e58 : Kn:=⟨131,[.fv (.agg [(.bool false),(.sl .nil [])])],[],(.fv (.agg [(.bool false),(.sl .nil [])]),[],[.own 2 [(.agg [(.bool false),(.sl .nil [])])],.own 2 [(.agg [(.bool false),(.sl .nil [])])]])⟩
theorem x58 : Has tab.get an e58:=Has.of [e57] ⟨x57,trivial⟩ 1000 (by kernel_rfl)
def e59 : Kn:=⟨174,[.fv (.agg [(.bool false),(.sl .any [(.int .u32 1)])])],[],(.fv (.bool false),[],[.own 2 [(.agg [(.bool false),(.sl .any [(.int .u32 1)])])]])⟩
theorem x59 : Has tab.get an e59:=Has.of [] trivial 1000 (by kernel_rfl)
def e60 : Kn:=⟨165,[.fv (.sl .any [(.int .u32 1),(.int .u32 0)])],[],(.fv (.sl .any [(.int .u32 1)]),[],[])⟩
theorem x60 : Has tab.get an e60:=Has.of [] trivial 1000 (by kernel_rfl)
def e61 : Kn:=⟨177,[.fv (.sl .any [(.int .u32 1)]),.fv (.sl .any [])],[],(.fv (.sl .any [(.int .u32 1)]),[],[.frz 1 [(.int .u32 1),(.int .u32 0)]])⟩
theorem x61 : Has tab.get an e61:=Has.of [e60] ⟨x60,trivial⟩ 1000 (by kernel_rfl)
def e62 : Kn:=⟨134,[.fv (.bool false),.fv (.sl .any [(.int .u32 1)])],[],(.fv (.agg [(.bool false),(.sl .any [(.int .u32 1)])]),[],[.own 2 [(.agg [(.bool false),(.sl .any [(.int .u32 1)])])],.frz 1 [(.int .u32 1)]])⟩
theorem x62 : Has tab.get an e62:=Has.of [e21] ⟨x21,trivial⟩ 1000 (by kernel_rfl)
def e63 : Kn:=⟨151,[.fv (.agg [(.bool false),(.sl .any [(.int .u32 1)])]),.fv (.agg [(.bool false),(.sl .nil [])]),.fv (.bool false)],[],(.fv (.agg [(.bool false),(.sl .any [(.int .u32 1)])]),[],[.own 2 [(.agg [(.bool false),(.sl .any [(.int .u32 1)])])],.own 2 [(.agg [(.bool false),(.sl .nil [])])],.own 2 [(.agg [(.bool false),(.sl .any [(.int .u32 1)])])]])⟩
theorem x63 : Has tab.get an e63:=Has.of [e22,e36,e59,e51,e61,e62] ⟨x22,⟨x36,⟨x59,⟨x51,⟨x61,⟨x62,trivial⟩⟩⟩⟩⟩⟩ 1000 (by kernel_rfl)
def e64 : Kn:=⟨103,[.fv (.agg [(.bool false),(.sl .any [(.int .u32 1)])]),.fv (.agg [(.bool false),(.sl .nil [])])],[],(.fv (.agg [(.bool false),(.sl .any [(.int .u32 1)])]),[],[.own 2 [(.agg [(.bool false),(.sl .any [(.int .u32 1)])])],.own 2 [(.agg [(.bool false),(.sl .nil [])])],.own 2 [(.agg [(.bool false),(.sl .any [(.int .u32 1)])])]])⟩
theorem x64 : Has tab.get an e64:=Has.of [e63] ⟨x63,trivial⟩ 1000 (by kernel_rfl)
def e65 : Kn:=⟨131,[.fv (.agg [(.bool false),(.sl .any [(.int .u32 1)])])],[],(.fv (.agg [(.bool false),(.sl .any [(.int .u32 1)])]),[],[.own 2 [(.agg [(.bool false),(.sl .any [(.int .u32 1)])])],.own 2 [(.agg [(.bool false),(.sl .any [(.int .u32 1)])])]])⟩
theorem x65 : Has tab.get an e65:=Has.of [e64] ⟨x64,trivial⟩ 1000 (by kernel_rfl)
def e66 : Kn:=⟨130,[.ref (.b 0) 2 0 2 true],[.own 2 [(.agg [(.bool false),(.sl .nil [])]),(.agg [(.bool false),(.sl .any [(.int .u32 1)])])]],(.ref (.b 0) 2 0 2 true,[.own 2 [(.agg [(.bool false),(.sl .nil [])]),(.agg [(.bool false),(.sl .any [(.int .u32 1)])])]],[])⟩
theorem x66 : Has tab.get an e66:=Has.of [e23] ⟨x23,trivial⟩ 1000 (by kernel_rfl)
def e67 : Kn:=⟨132,[.fv (.sl .any [(.agg [(.bool false),(.sl .nil [])]),(.agg [(.bool false),(.sl .any [(.int .u32 1)])])]),.fv (.fn (.func 131) [] [])],[],(.ref (.l 0) 2 0 2 true,[],[.own 2 [(.agg [(.bool false),(.sl .nil [])]),(.agg [(.bool false),(.sl .any [(.int .u32 1)])])]])⟩
theorem x67 : Has tab.get an e67:=Has.of [e33,e58,e65,e66] ⟨x33,⟨x58,⟨x65,⟨x66,trivial⟩⟩⟩⟩ 1000 (by kernel_rfl)
def e68 : Kn:=⟨93,[.fv (.sl .any [(.agg [(.bool false),(.sl .nil [])]),(.agg [(.bool false),(.sl .any [(.int .u32 1)])])])],[],(.ref (.l 0) 2 0 2 true,[],[.own 2 [(.agg [(.bool false),(.sl .nil [])]),(.agg [(.bool false),(.sl .any [(.int .u32 1)])])]])⟩
theorem x68 : Has tab.get an e68:=Has.of [e67] ⟨x67,trivial⟩ 1000 (by kernel_rfl)
def e69 : Kn:=⟨39,[.fv (.sl .any [(.sl .any [(.agg [(.bool false),(.sl .nil [])]),(.agg [(.bool false),(.sl .any [(.int .u32 1)])])])]),.fv .nilFn],[],(.fv (.sl .any [(.sl .any [(.agg [(.bool false),(.sl .nil [])]),(.agg [(.bool false),(.sl .any [(.int .u32 1)])])])]),[],[.frz 1 [(.sl .any [(.agg [(.bool false),(.sl .nil [])]),(.agg [(.bool false),(.sl .any [(.int .u32 1)])])])]])⟩
theorem x69 : Has tab.get an e69:=Has.of [e50,e68] ⟨x50,⟨x68,trivial⟩⟩ 1000 (by kernel_rfl)
def e70 : Kn:=⟨60,[.fv (.sl .any [(.sl .any [(.agg [(.bool false),(.sl .nil [])]),(.agg [(.bool false),(.sl .any [(.int .u32 1)])])])])],[],(.fv (.sl .any [(.sl .any [(.agg [(.bool false),(.sl .nil [])]),(.agg [(.bool false),(.sl .any [(.int .u32 1)])])])]),[],[])⟩
theorem x70 : Has tab.get an e70:=Has.of [e69] ⟨x69,trivial⟩ 1000 (by kernel_rfl)
def e71 : Kn:=⟨83,[.fv (.sl .any [(.sl .nil []),(.sl .any [(.agg [(.bool false),(.sl .any [(.int .u32 1)])])])])],[],(.fv (.sl .any [(.sl .nil []),(.sl .any [(.agg [(.bool false),(.sl .any [(.int .u32 1)])])])]),[],[])⟩
theorem x71 : Has tab.get an e71:=Has.of [e25] ⟨x25,trivial⟩ 1000 (by kernel_rfl)
def e72 : Kn:=⟨95,[.fv (.sl .nil []),.fv (.sl .any [(.agg [(.bool false),(.sl .nil [])]),(.agg [(.bool false),(.sl .any [(.int .u32 1)])])])],[],(.fv (.sl .nil []),[],[])⟩
theorem x72 : Has tab.get an e72:=Has.of [e26,e33] ⟨x26,⟨x33,trivial⟩⟩ 1000 (by kernel_rfl)
def e73 : Kn:=⟨114,[.fv (.agg [(.sl .nil [])]),.fv (.sl .any [(.agg [(.bool false),(.sl .nil [])]),(.agg [(.bool false),(.sl .any [(.int .u32 1)])])])],[],(.fv (.sl .nil []),[],[.own 1 [(.agg [(.sl .nil [])])]])⟩
theorem x73 : Has tab.get an e73:=Has.of [e72] ⟨x72,trivial⟩ 1000 (by kernel_rfl)
def e74 : Kn:=⟨130,[.ref (.b 0) 2 0 0 true],[.own 2 []],(.fv (.sl .nil []),[.own 2 []],[])⟩
theorem x74 : Has tab.get an e74:=Has.of [] trivial 1000 (by kernel_rfl)
def e75 : Kn:=⟨132,[.fv (.sl .nil []),.fv (.fn (.func 131) [] [])],[],(.fv (.sl .nil []),[],[.own 2 []])⟩
theorem x75 : Has tab.get an e75:=Has.of [e26,e74] ⟨x26,⟨x74,trivial⟩⟩ 1000 (by kernel_rfl)
def e76 : Kn:=⟨93,[.fv (.sl .nil [])],[],(.fv (.sl .nil []),[],[.own 2 []])⟩
theorem x76 : Has tab.get an e76:=Has.of [e75] ⟨x75,trivial⟩ 1000 (by kernel_rfl)
def e77 : Kn:=⟨83,[.fv (.sl .any [(.sl .nil [])])],[],(.fv (.sl .nil []),[],[])⟩
theorem x77 : Has tab.get an e77:=Has.of [e27] ⟨x27,trivial⟩ 1000 (by kernel_rfl)
def e78 : Kn:=⟨39,[.fv (.sl .any [(.sl .any [(.agg [(.bool false),(.sl .nil [])]),(.agg [(.bool false),(.sl .any [(.int .u32 1)])])])]),.fv (.fn (.func 114) [(.agg [(.sl .nil [])])] [])],[],(.fv (.sl .nil []),[],[.frz 1 [(.sl .nil [])]])⟩
theorem x78 : Has tab.get an e78:=Has.of [e50,e68,e73,e76,e77] ⟨x50,⟨x68,⟨x73,⟨x76,⟨x77,trivial⟩⟩⟩⟩⟩ 1000 (by kernel_rfl)
def e79 : Kn:=⟨59,[.fv (.sl .nil []),.fv (.sl .any [(.sl .any [(.agg [(.bool false),(.sl .nil [])]),(.agg [(.bool false),(.sl .any [(.int .u32 1)])])])])],[],(.fv (.sl .nil []),[],[])⟩
theorem x79 : Has tab.get an e79:=Has.of [e78] ⟨x78,trivial⟩ 1000 (by kernel_rfl)
def e80 : Kn:=⟨83,[.fv (.sl .any [])],[],(.fv (.sl .nil []),[],[])⟩
theorem x80 : Has tab.get an e80:=Has.of [] trivial 1000 (by kernel_rfl)
def e81 : Kn:=⟨99,[.fv (.sl .nil []),.fv (.sl .nil []),.fv (.fn (.func 94) [] [])],[],(.fv (.sl .nil []),[],[.frz 1 []])⟩
theorem x81 : Has tab.get an e81:=Has.of [e80] ⟨x80,trivial⟩ 1000 (by kernel_rfl)
def e82 : Kn:=⟨36,[.fv (.sl .nil []),.fv (.sl .nil [])],[],(.fv (.sl .nil []),[],[])⟩
theorem x82 : Has tab.get an e82:=Has.of [e81] ⟨x81,trivial⟩ 1000 (by kernel_rfl)
def e83 : Kn:=⟨51,[.fv (.ptr (.agg [(.int .i64 2),(.bool false),(.sl .nil [])]))],[],(.fv (.int .i64 2),[],[])⟩
theorem x83 : Has tab.get an e83:=Has.of [] trivial 1000 (by kernel_rfl)
def e84 : Kn:=⟨47,[.fv (.ptr (.agg [(.int .i64 2),(.bool false),(.sl .nil [])])),.fv (.sl .any [(.agg [(.bool false),(.sl .nil [])]),(.agg [(.bool false),(.sl .any [(.int .u32 1)])])])],[],(.fv (.sl .any [(.agg [(.bool false),(.sl .nil [])]),(.agg [(.bool false),(.sl .any [(.int .u32 1)])])]),[],[])⟩
theorem x84 : Has tab.get an e84:=Has.of [e83,e68] ⟨x83,⟨x68,trivial⟩⟩ 1000 (by kernel_rfl)
def e85 : Kn:=⟨39,[.fv (.sl .any [(.sl .any [(.agg [(.bool false),(.sl .nil [])]),(.agg [(.bool false),(.sl .any [(.int .u32 1)])])])]),.fv (.fn (.func 47) [(.ptr (.agg [(.int .i64 2),(.bool false),(.sl .nil [])]))] [])],[],(.fv (.sl .any [(.sl .any [(.agg [(.bool false),(.sl .nil [])]),(.agg [(.bool false),(.sl .any [(.int .u32 1)])])])]),[],[.frz 1 [(.sl .any [(.agg [(.bool false),(.sl .nil [])]),(.agg [(.bool false),(.sl .any [(.int .u32 1)])])])]])⟩
theorem x85 : Has tab.get an e85:=Has.of [e50,e68,e84] ⟨x50,⟨x68,⟨x84,trivial⟩⟩⟩ 1000 (by kernel_rfl)
def e86 : Kn:=⟨165,[.fv (.sl .full [(.int .u32 1),(.int .u32 0)])],[],(.fv (.sl .any [(.int .u32 1)]),[],[])⟩
theorem x86 : Has tab.get an e86:=Has.of [] trivial 1000 (by kernel_rfl)
def e87 : Kn:=⟨134,[.fv (.bool false),.fv (.sl .full [(.int .u32 1),(.int .u32 0)])],[],(.fv (.agg [(.bool false),(.sl .any [(.int .u32 1)])]),[],[.own 2 [(.agg [(.bool false),(.sl .any [(.int .u32 1)])])],.frz 1 [(.int .u32 1)]])⟩
theorem x87 : Has tab.get an e87:=Has.of [e86] ⟨x86,trivial⟩ 1000 (by kernel_rfl)
def e88 : Kn:=⟨87,[.fv (.int .i64 1)],[],(.fv (.agg [(.bool false),(.sl .any [(.int .u32 1)])]),[],[.own 2 [(.agg [(.bool false),(.sl .any [(.int .u32 1)])])]])⟩
theorem x88 : Has tab.get an e88:=Has.of [e87] ⟨x87,trivial⟩ 1000 (by kernel_rfl)
def e89 : Kn:=⟨193,[.fv (.sl .any [(.int .u32 1)]),.fv (.sl .any [(.int .u32 1)])],[],(.fv (.sl .any [(.int .u32 1)]),[],[.frz 1 [(.int .u32 1),(.int .u32 0)]])⟩
theorem x89 : Has tab.get an e89:=Has.of [e60] ⟨x60,trivial⟩ 1000 (by kernel_rfl)
def e90 : Kn:=⟨175,[.fv (.sl .any [(.int .u32 1)]),.fv (.sl .any [(.int .u32 1)])],[],(.fv (.sl .any [(.int .u32 1)]),[],[])⟩
theorem x90 : Has tab.get an e90:=Has.of [e89] ⟨x89,trivial⟩ 1000 (by kernel_rfl)
def e91 : Kn:=⟨145,[.fv (.agg [(.bool false),(.sl .any [(.int .u32 1)])]),.fv (.agg [(.bool false),(.sl .any [(.int .u32 1)])])],[],(.fv (.agg [(.bool false),(.sl .any [(.int .u32 1)])]),[],[.own 2 [(.agg [(.bool false),(.sl .any [(.int .u32 1)])])],.own 2 [(.agg [(.bool false),(.sl .any [(.int .u32 1)])])],.own 2 [(.agg [(.bool false),(.sl .any [(.int .u32 1)])])]])⟩
theorem x91 : Has tab.get an e91:=Has.of [e59,e22,e90,e62] ⟨x59,⟨x22,⟨x90,⟨x62,trivial⟩⟩⟩⟩ 1000 (by kernel_rfl)
def e92 : Kn:=⟨130,[.ref (.b 0) 2 0 1 true],[.own 2 [(.agg [(.bool false),(.sl .any [(.int .u32 1)])])]],(.ref (.b 0) 2 0 1 true,[.own 2 [(.agg [(.bool false),(.sl .any [(.int .u32 1)])])]],[])⟩
theorem x92 : Has tab.get an e92:=Has.of [e23] ⟨x23,trivial⟩ 1000 (by kernel_rfl)
def e93 : Kn:=⟨108,[.fv (.sl .any [(.agg [(.bool false),(.sl .nil [])]),(.agg [(.bool false),(.sl .any [(.int .u32 1)])])])],[],(.ref (.l 0) 2 0 1 true,[],[.own 2 [(.agg [(.bool false),(.sl .any [(.int .u32 1)])])]])⟩
theorem x93 : Has tab.get an e93:=Has.of [e33,e88,e91,e92] ⟨x33,⟨x88,⟨x91,⟨x92,trivial⟩⟩⟩⟩ 1000 (by kernel_rfl)
def e94 : Kn:=⟨49,[.fv (.ptr (.agg [(.int .i64 2),(.bool false),(.sl .nil [])])),.fv (.sl .any [(.agg [(.bool false),(.sl .nil [])]),(.agg [(.bool false),(.sl .any [(.int .u32 1)])])])],[],(.fv (.sl .any [(.agg [(.bool false),(.sl .any [(.int .u32 1)])])]),[],[])⟩
theorem x94 : Has tab.get an e94:=Has.of [e83,e93] ⟨x83,⟨x93,trivial⟩⟩ 1000 (by kernel_rfl)
def e95 : Kn:=⟨132,[.fv (.sl .any [(.agg [(.bool false),(.sl .any [(.int .u32 1)])])]),.fv (.fn (.func 131) [] [])],[],(.ref (.l 0) 2 0 1 true,[],[.own 2 [(.agg [(.bool false),(.sl .any [(.int .u32 1)])])]])⟩
theorem x95 : Has tab.get an e95:=Has.of [e24,e65,e92] ⟨x24,⟨x65,⟨x92,trivial⟩⟩⟩ 1000 (by kernel_rfl)
def e96 : Kn:=⟨93,[.fv (.sl .any [(.agg [(.bool false),(.sl .any [(.int .u32 1)])])])],[],(.ref (.l 0) 2 0 1 true,[],[.own 2 [(.agg [(.bool false),(.sl .any [(.int .u32 1)])])]])⟩
theorem x96 : Has tab.get an e96:=Has.of [e95] ⟨x95,trivial⟩ 1000 (by kernel_rfl)
def e97 : Kn:=⟨83,[.fv (.sl .any [(.sl .any [(.agg [(.bool false),(.sl .any [(.int .u32 1)])])])])],[],(.fv (.sl .any [(.sl .any [(.agg [(.bool false),(.sl .any [(.int .u32 1)])])])]),[],[])⟩
theorem x97 : Has tab.get an e97:=Has.of [e25] ⟨x25,trivial⟩ 1000 (by kernel_rfl)
def e98 : Kn:=⟨39,[.fv (.sl .any [(.sl .any [(.agg [(.bool false),(.sl .nil [])]),(.agg [(.bool false),(.sl .any [(.int .u32 1)])])])]),.fv (.fn (.func 49) [(.ptr (.agg [(.int .i64 2),(.bool false),(.sl .nil [])]))] [])],[],(.fv (.sl .any [(.sl .any [(.agg [(.bool false),(.sl .any [(.int .u32 1)])])])]),[],[.frz 1 [(.sl .any [(.agg [(.bool false),(.sl .any [(.int .u32 1)])])])]])⟩
theorem x98 : Has tab.get an e98:=Has.of [e50,e68,e94,e96,e97] ⟨x50,⟨x68,⟨x94,⟨x96,⟨x97,trivial⟩⟩⟩⟩⟩ 1000 (by kernel_rfl)
def e99 : Kn:=⟨146,[.fv (.sl .any [(.sl .nil []),(.sl .any [(.agg [(.bool false),(.sl .nil [])]),(.agg [(.bool false),(.sl .any [(.int .u32 1)])])])]),.fv (.int .i64 0)],[],(.fv (.sl .nil []),[],[])⟩
theorem x99 : Has tab.get an e99:=Has.of [] trivial 1000 (by kernel_rfl)
def e100 : Kn:=⟨146,[.fv (.sl .any [(.sl .any [(.agg [(.bool false),(.sl .any [(.int .u32 1)])])])]),.fv (.int .i64 0)],[],(.fv (.sl .any [(.agg [(.bool false),(.sl .any [(.int .u32 1)])])]),[],[])⟩
theorem x100 : Has tab.get an e100:=Has.of [] trivial 1000 (by kernel_rfl)
def e101 : Kn:=⟨173,[.fv (.sl .nil []),.fv (.int .i64 0)],[],(.fv (.agg [(.bool false),(.sl .nil [])]),[],[.own 2 [(.agg [(.bool false),(.sl .nil [])])]])⟩
theorem x101 : Has tab.get an e101:=Has.of [] trivial 1000 (by kernel_rfl)
def e102 : Kn:=⟨173,[.fv (.sl .any [(.agg [(.bool false),(.sl .any [(.int .u32 1)])])]),.fv (.int .i64 0)],[],(.fv (.agg [(.bool false),(.sl .any [(.int .u32 1)])]),[],[.own 2 [(.agg [(.bool false),(.sl .any [(.int .u32 1)])])]])⟩
theorem x102 : Has tab.get an e102:=Has.of [] trivial 1000 (by kernel_rfl)
def e103 : Kn:=⟨177,[.fv (.sl .any []),.fv (.sl .any [(.int .u32 1)])],[],(.fv (.sl .any [(.int .u32 1)]),[],[.frz 1 [(.int .u32 1),(.int .u32 0)]])⟩
theorem x103 : Has tab.get an e103:=Has.of [e60] ⟨x60,trivial⟩ 1000 (by kernel_rfl)
def e104 : Kn:=⟨151,[.fv (.agg [(.bool false),(.sl .nil [])]),.fv (.agg [(.bool false),(.sl .any [(.int .u32 1)])]),.fv (.bool false)],[],(.fv (.agg [(.bool false),(.sl .any [(.int .u32 1)])]),[],[.own 2 [(.agg [(.bool false),(.sl .nil [])])],.own 2 [(.agg [(.bool false),(.sl .any [(.int .u32 1)])])],.own 2 [(.agg [(.bool false),(.sl .any [(.int .u32 1)])])]])⟩
theorem x104 : Has tab.get an e104:=Has.of [e36,e22,e51,e59,e103,e62] ⟨x36,⟨x22,⟨x51,⟨x59,⟨x103,⟨x62,trivial⟩⟩⟩⟩⟩⟩ 1000 (by kernel_rfl)
def e105 : Kn:=⟨103,[.fv (.agg [(.bool false),(.sl .nil [])]),.fv (.agg [(.bool false),(.sl .any [(.int .u32 1)])])],[],(.fv (.agg [(.bool false),(.sl .any [(.int .u32 1)])]),[],[.own 2 [(.agg [(.bool false),(.sl .nil [])])],.own 2 [(.agg [(.bool false),(.sl .any [(.int .u32 1)])])],.own 2 [(.agg [(.bool false),(.sl .any [(.int .u32 1)])])]])⟩
theorem x105 : Has tab.get an e105:=Has.of [e104] ⟨x104,trivial⟩ 1000 (by kernel_rfl)
def e106 : Kn:=⟨144,[.fv (.sl .nil []),.fv (.sl .any [(.agg [(.bool false),(.sl .any [(.int .u32 1)])])]),.fv (.fn (.func 103) [] [])],[],(.ref (.l 0) 2 0 1 true,[],[.own 2 [(.agg [(.bool false),(.sl .any [(.int .u32 1)])])]])⟩
theorem x106 : Has tab.get an e106:=Has.of [e26,e24,e101,e102,e105,e92] ⟨x26,⟨x24,⟨x101,⟨x102,⟨x105,⟨x92,trivial⟩⟩⟩⟩⟩⟩ 1000 (by kernel_rfl)
def e107 : Kn:=⟨94,[.fv (.sl .nil []),.fv (.sl .any [(.agg [(.bool false),(.sl .any [(.int .u32 1)])])])],[],(.fv (.sl .any [(.agg [(.bool false),(.sl .any [(.int .u32 1)])])]),[],[])⟩
theorem x107 : Has tab.get an e107:=Has.of [e106] ⟨x106,trivial⟩ 1000 (by kernel_rfl)
def e108 : Kn:=⟨146,[.fv (.sl .any [(.sl .nil []),(.sl .any [(.agg [(.bool false),(.sl .nil [])]),(.agg [(.bool false),(.sl .any [(.int .u32 1)])])])]),.fv (.int .i64 1)],[],(.fv (.sl .any [(.agg [(.bool false),(.sl .nil [])]),(.agg [(.bool false),(.sl .any [(.int .u32 1)])])]),[],[])⟩
theorem x108 : Has tab.get an e108:=Has.of [] trivial 1000 (by kernel_rfl)
def e109 : Kn:=⟨146,[.fv (.sl .any [(.sl .any [(.agg [(.bool false),(.sl .any [(.int .u32 1)])])])]),.fv (.int .i64 1)],[],(.fv (.sl .nil []),[],[])⟩
theorem x109 : Has tab.get an e109:=Has.of [] trivial 1000 (by kernel_rfl)
def e110 : Kn:=⟨173,[.fv (.sl .any [(.agg [(.bool false),(.sl .nil [])]),(.agg [(.bool false),(.sl .any [(.int .u32 1)])])]),.fv (.int .i64 0)],[],(.fv (.agg [(.bool false),(.sl .nil [])]),[],[.own 2 [(.agg [(.bool false),(.sl .nil [])])]])⟩
theorem x110 : Has tab.get an e110:=Has.of [] trivial 1000 (by kernel_rfl)
def e111 : Kn:=⟨173,[.fv (.sl .any [(.agg [(.bool false),(.sl .nil [])]),(.agg [(.bool false),(.sl .any [(.int .u32 1)])])]),.fv (.int .i64 1)],[],(.fv (.agg [(.bool false),(.sl .any [(.int .u32 1)])]),[],[.own 2 [(.agg [(.bool false),(.sl .any [(.int .u32 1)])])]])⟩
theorem x111 : Has tab.get an e111:=Has.of [] trivial 1000 (by kernel_rfl)
def e112 : Kn:=⟨173,[.fv (.sl .nil []),.fv (.int .i64 1)],[],(.fv (.agg [(.bool false),(.sl .nil [])]),[],[.own 2 [(.agg [(.bool false),(.sl .nil [])])]])⟩
theorem x112 : Has tab.get an e112:=Has.of [] trivial 1000 (by kernel_rfl)
def e113 : Kn:=⟨144,[.fv (.sl .any [(.agg [(.bool false),(.sl .nil [])]),(.agg [(.bool false),(.sl .any [(.int .u32 1)])])]),.fv (.sl .nil []),.fv (.fn (.func 103) [] [])],[],(.ref (.l 0) 2 0 2 true,[],[.own 2 [(.agg [(.bool false),(.sl .nil [])]),(.agg [(.bool false),(.sl .any [(.int .u32 1)])])]])⟩
theorem x113 : Has tab.get an e113:=Has.of [e33,e26,e110,e101,e57,e111,e112,e64,e66] ⟨x33,⟨x26,⟨x110,⟨x101,⟨x57,⟨x111,⟨x112,⟨x64,⟨x66,trivial⟩⟩⟩⟩⟩⟩⟩⟩⟩ 1000 (by kernel_rfl)
def e114 : Kn:=⟨94,[.fv (.sl .any [(.agg [(.bool false),(.sl .nil [])]),(.agg [(.bool false),(.sl .any [(.int .u32 1)])])]),.fv (.sl .nil [])],[],(.fv (.sl .any [(.agg [(.bool false),(.sl .nil [])]),(.agg [(.bool false),(.sl .any [(.int .u32 1)])])]),[],[])⟩
theorem x114 : Has tab.get an e114:=Has.of [e113] ⟨x113,trivial⟩ 1000 (by kernel_rfl)
def e115 : Kn:=⟨83,[.fv (.sl .any [(.sl .any [(.agg [(.bool false),(.sl .any [(.int .u32 1)])])]),(.sl .any [(.agg [(.bool false),(.sl .nil [])]),(.agg [(.bool false),(.sl .any [(.int .u32 1)])])])])],[],(.fv (.sl .any [(.sl .any [(.agg [(.bool false),(.sl .any [(.int .u32 1)])])]),(.sl .any [(.agg [(.bool false),(.sl .nil [])]),(.agg [(.bool false),(.sl .any [(.int .u32 1)])])])]),[],[])⟩
theorem x115 : Has tab.get an e115:=Has.of [e34] ⟨x34,trivial⟩ 1000 (by kernel_rfl)
def e116 : Kn:=⟨99,[.fv (.sl .any [(.sl .nil []),(.sl .any [(.agg [(.bool false),(.sl .nil [])]),(.agg [(.bool false),(.sl .any [(.int .u32 1)])])])]),.fv (.sl .any [(.sl .any [(.agg [(.bool false),(.sl .any [(.int .u32 1)])])])]),.fv (.fn (.func 94) [] [])],[],(.fv (.sl .any [(.sl .any [(.agg [(.bool false),(.sl .any [(.int .u32 1)])])]),(.sl .any [(.agg [(.bool false),(.sl .nil [])]),(.agg [(.bool false),(.sl .any [(.int .u32 1)])])])]),[],[.frz 1 [(.sl .any [(.agg [(.bool false),(.sl .any [(.int .u32 1)])])]),(.sl .any [(.agg [(.bool false),(.sl .nil [])]),(.agg [(.bool false),(.sl .any [(.int .u32 1)])])])]])⟩
theorem x116 : Has tab.get an e116:=Has.of [e99,e100,e107,e108,e109,e114,e115] ⟨x99,⟨x100,⟨x107,⟨x108,⟨x109,⟨x114,⟨x115,trivial⟩⟩⟩⟩⟩⟩⟩ 1000 (by kernel_rfl)
def e117 : Kn:=⟨36,[.fv (.sl .any [(.sl .nil []),(.sl .any [(.agg [(.bool false),(.sl .nil [])]),(.agg [(.bool false),(.sl .any [(.int .u32 1)])])])]),.fv (.sl .any [(.sl .any [(.agg [(.bool false),(.sl .any [(.int .u32 1)])])])])],[],(.fv (.sl .any [(.sl .any [(.agg [(.bool false),(.sl .any [(.int .u32 1)])])]),(.sl .any [(.agg [(.bool false),(.sl .nil [])]),(.agg [(.bool false),(.sl .any [(.int .u32 1)])])])]),[],[])⟩
theorem x117 : Has tab.get an e117:=Has.of [e116] ⟨x116,trivial⟩ 1000 (by kernel_rfl)
def e118 : Kn:=⟨123,[.fv (.sl .any [(.sl .any [(.agg [(.bool false),(.sl .nil [])]),(.agg [(.bool false),(.sl .any [(.int .u32 1)])])])]),.fv (.fn (.func 47) [(.ptr (.agg [(.int .i64 2),(.bool false),(.sl .nil [])]))] []),.fv (.fn (.func 49) [(.ptr (.agg [(.int .i64 2),(.bool false),(.sl .nil [])]))] [])],[],(.fv (.sl .any [(.sl .any [(.agg [(.bool false),(.sl .any [(.int .u32 1)])])]),(.sl .any [(.agg [(.bool false),(.sl .nil [])]),(.agg [(.bool false),(.sl .any [(.int .u32 1)])])])]),[],[.frz 1 [(.sl .nil []),(.sl .any [(.agg [(.bool false),(.sl .nil [])]),(.agg [(.bool false),(.sl .any [(.int .u32 1)])])])]])⟩
theorem x118 : Has tab.get an e118:=Has.of [e85,e98,e117] ⟨x85,⟨x98,⟨x117,trivial⟩⟩⟩ 1000 (by kernel_rfl)
def e119 : Kn:=⟨95,[.fv (.sl .any [(.agg [(.bool false),(.sl .any [(.int .u32 1)])])]),.fv (.sl .any [(.agg [(.bool false),(.sl .any [(.int .u32 1)])])])],[],(.ref (.l 0) 2 0 1 true,[],[.own 2 [(.agg [(.bool false),(.sl .any [(.int .u32 1)])])]])⟩
theorem x119 : Has tab.get an e119:=Has.of [e24,e23,e91,e105,e92] ⟨x24,⟨x23,⟨x91,⟨x105,⟨x92,trivial⟩⟩⟩⟩⟩ 1000 (by kernel_rfl)
def e120 : Kn:=⟨114,[.fv (.agg [(.sl .any [(.agg [(.bool false),(.sl .any [(.int .u32 1)])])])]),.fv (.sl .any [(.agg [(.bool false),(.sl .any [(.int .u32 1)])])])],[],(.fv (.sl .any [(.agg [(.bool false),(.sl .any [(.int .u32 1)])])]),[],[.own 1 [(.agg [(.sl .any [(.agg [(.bool false),(.sl .any [(.int .u32 1)])])])])]])⟩
theorem x120 : Has tab.get an e120:=Has.of [e119] ⟨x119,trivial⟩ 1000 (by kernel_rfl)
def e121 : Kn:=⟨193,[.fv (.sl .any [(.int .u32 1)]),.fv (.sl .any [])],[],(.fv (.sl .any []),[],[.frz 1 [(.int .u32 0)]])⟩
theorem x121 : Has tab.get an e121:=Has.of [e52] ⟨x52,trivial⟩ 1000 (by kernel_rfl)
def e122 : Kn:=⟨175,[.fv (.sl .any [(.int .u32 1)]),.fv (.sl .any [])],[],(.fv (.sl .any []),[],[])⟩
theorem x122 : Has tab.get an e122:=Has.of [e121] ⟨x121,trivial⟩ 1000 (by kernel_rfl)
def e123 : Kn:=⟨145,[.fv (.agg [(.bool false),(.sl .any [(.int .u32 1)])]),.fv (.agg [(.bool false),(.sl .nil [])])],[],(.fv (.agg [(.bool false),(.sl .nil [])]),[],[.own 2 [(.agg [(.bool false),(.sl .any [(.int .u32 1)])])],.own 2 [(.agg [(.bool false),(.sl .nil [])])],.own 2 [(.agg [(.bool false),(.sl .nil [])])]])⟩
theorem x123 : Has tab.get an e123:=Has.of [e59,e51,e22,e36,e122,e55] ⟨x59,⟨x51,⟨x22,⟨x36,⟨x122,⟨x55,trivial⟩⟩⟩⟩⟩⟩ 1000 (by kernel_rfl)
def e124 : Kn:=⟨95,[.fv (.sl .any [(.agg [(.bool false),(.sl .any [(.int .u32 1)])])]),.fv (.sl .any [(.agg [(.bool false),(.sl .nil [])]),(.agg [(.bool false),(.sl .any [(.int .u32 1)])])])],[],(.ref (.l 0) 2 0 2 true,[],[.own 2 [(.agg [(.bool false),(.sl .nil [])]),(.agg [(.bool false),(.sl .any [(.int .u32 1)])])]])⟩
theorem x124 : Has tab.get an e124:=Has.of [e24,e33,e23,e123,e57,e91,e105,e66] ⟨x24,⟨x33,⟨x23,⟨x123,⟨x57,⟨x91,⟨x105,⟨x66,trivial⟩⟩⟩⟩⟩⟩⟩⟩ 1000 (by kernel_rfl)
def e125 : Kn:=⟨114,[.fv (.agg [(.sl .any [(.agg [(.bool false),(.sl .any [(.int .u32 1)])])])]),.fv (.sl .any [(.agg [(.bool false),(.sl .nil [])]),(.agg [(.bool false),(.sl .any [(.int .u32 1)])])])],[],(.fv (.sl .any [(.agg [(.bool false),(.sl .nil [])]),(.agg [(.bool false),(.sl .any [(.int .u32 1)])])]),[],[.own 1 [(.agg [(.sl .any [(.agg [(.bool false),(.sl .any [(.int .u32 1)])])])])]])⟩
theorem x125 : Has tab.get an e125:=Has.of [e124] ⟨x124,trivial⟩ 1000 (by kernel_rfl)
def e126 : Kn:=⟨39,[.fv (.sl .any [(.sl .any [(.agg [(.bool false),(.sl .any [(.int .u32 1)])])]),(.sl .any [(.agg [(.bool false),(.sl .nil [])]),(.agg [(.bool false),(.sl .any [(.int .u32 1)])])])]),.fv (.fn (.func 114) [(.agg [(.sl .any [(.agg [(.bool false),(.sl .any [(.int .u32 1)])])])])] [])],[],(.fv (.sl .any [(.sl .any [(.agg [(.bool false),(.sl .any [(.int .u32 1)])])]),(.sl .any [(.agg [(.bool false),(.sl .nil [])]),(.agg [(.bool false),(.sl .any [(.int .u32 1)])])])]),[],[.frz 1 [(.sl .any [(.agg [(.bool false),(.sl .any [(.int .u32 1)])])]),(.sl .any [(.agg [(.bool false),(.sl .nil [])]),(.agg [(.bool false),(.sl .any [(.int .u32 1)])])])]])⟩
theorem x126 : Has tab.get an e126:=Has.of [e115,e96,e120,e68,e125] ⟨x115,⟨x96,⟨x120,⟨x68,⟨x125,trivial⟩⟩⟩⟩⟩ 1000 (by kernel_rfl)
def e127 : Kn:=⟨59,[.fv (.sl .any [(.agg [(.bool false),(.sl .any [(.int .u32 1)])])]),.fv (.sl .any [(.sl .any [(.agg [(.bool false),(.sl .any [(.int .u32 1)])])]),(.sl .any [(.agg [(.bool false),(.sl .nil [])]),(.agg [(.bool false),(.sl .any [(.int .u32 1)])])])])],[],(.fv (.sl .any [(.sl .any [(.agg [(.bool false),(.sl .any [(.int .u32 1)])])]),(.sl .any [(.agg [(.bool false),(.sl .nil [])]),(.agg [(.bool false),(.sl .any [(.int .u32 1)])])])]),[],[])⟩
theorem x127 : Has tab.get an e127:=Has.of [e126] ⟨x126,trivial⟩ 1000 (by kernel_rfl)
def e128 : Kn:=⟨146,[.fv (.sl .nil []),.fv (.int .i64 0)],[],(.fv (.sl .nil []),[],[])⟩
theorem x128 : Has tab.get an e128:=Has.of [] trivial 1000 (by kernel_rfl)
def e129 : Kn:=⟨146,[.fv (.sl .any [(.sl .any [(.agg [(.bool false),(.sl .any [(.int .u32 1)])])]),(.sl .any [(.agg [(.bool false),(.sl .nil [])]),(.agg [(.bool false),(.sl .any [(.int .u32 1)])])])]),.fv (.int .i64 0)],[],(.fv (.sl .any [(.agg [(.bool false),(.sl .any [(.int .u32 1)])])]),[],[])⟩
theorem x129 : Has tab.get an e129:=Has.of [] trivial 1000 (by kernel_rfl)
def e130 : Kn:=⟨146,[.fv (.sl .nil []),.fv (.int .i64 1)],[],(.fv (.sl .nil []),[],[])⟩
theorem x130 : Has tab.get an e130:=Has.of [] trivial 1000 (by kernel_rfl)
def e131 : Kn:=⟨146,[.fv (.sl .any [(.sl .any [(.agg [(.bool false),(.sl .any [(.int .u32 1)])])]),(.sl .any [(.agg [(.bool false),(.sl .nil [])]),(.agg [(.bool false),(.sl .any [(.int .u32 1)])])])]),.fv (.int .i64 1)],[],(.fv (.sl .any [(.agg [(.bool false),(.sl .nil [])]),(.agg [(.bool false),(.sl .any [(.int .u32 1)])])]),[],[])⟩
theorem x131 : Has tab.get an e131:=Has.of [] trivial 1000 (by kernel_rfl)
end Go.Proofs.YtklelbidjcealaaGreat
set_option maxRecDepth 1000000
namespace Go.Proofs.YtklelbidjcealaaGreat
open Go.Ab
def e132 : Kn:=⟨144,[.fv (.sl .nil []),.fv (.sl .any [(.agg [(.bool false),(.sl .nil [])]),(.agg [(.bool false),(.sl .any [(.int .u32 1)])])]),.fv (.fn (.func 103) [] [])],[],(.ref (.l 0) 2 0 2 true,[],[.own 2 [(.agg [(.bool false),(.sl .nil [])]),(.agg [(.bool false),(.sl .any [(.int .u32 1)])])]])⟩
theorem x132 : Has tab.get an e132:=Has.of [e26,e33,e101,e110,e57,e112,e111,e105,e66] ⟨x26,⟨x33,⟨x101,⟨x110,⟨x57,⟨x112,⟨x111,⟨x105,⟨x66,trivial⟩⟩⟩⟩⟩⟩⟩⟩⟩ 1000 (by kernel_rfl)
def e133 : Kn:=⟨94,[.fv (.sl .nil []),.fv (.sl .any [(.agg [(.bool false),(.sl .nil [])]),(.agg [(.bool false),(.sl .any [(.int .u32 1)])])])],[],(.fv (.sl .any [(.agg [(.bool false),(.sl .nil [])]),(.agg [(.bool false),(.sl .any [(.int .u32 1)])])]),[],[])⟩
theorem x133 : Has tab.get an e133:=Has.of [e132] ⟨x132,trivial⟩ 1000 (by kernel_rfl)
def e134 : Kn:=⟨99,[.fv (.sl .nil []),.fv (.sl .any [(.sl .any [(.agg [(.bool false),(.sl .any [(.int .u32 1)])])]),(.sl .any [(.agg [(.bool false),(.sl .nil [])]),(.agg [(.bool false),(.sl .any [(.int .u32 1)])])])]),.fv (.fn (.func 94) [] [])],[],(.fv (.sl .any [(.sl .any [(.agg [(.bool false),(.sl .any [(.int .u32 1)])])]),(.sl .any [(.agg [(.bool false),(.sl .nil [])]),(.agg [(.bool false),(.sl .any [(.int .u32 1)])])])]),[],[.frz 1 [(.sl .any [(.agg [(.bool false),(.sl .any [(.int .u32 1)])])]),(.sl .any [(.agg [(.bool false),(.sl .nil [])]),(.agg [(.bool false),(.sl .any [(.int .u32 1)])])])]])⟩
theorem x134 : Has tab.get an e134:=Has.of [e128,e129,e107,e130,e131,e133,e115] ⟨x128,⟨x129,⟨x107,⟨x130,⟨x131,⟨x133,⟨x115,trivial⟩⟩⟩⟩⟩⟩⟩ 1000 (by kernel_rfl)
def e135 : Kn:=⟨36,[.fv (.sl .nil []),.fv (.sl .any [(.sl .any [(.agg [(.bool false),(.sl .any [(.int .u32 1)])])]),(.sl .any [(.agg [(.bool false),(.sl .nil [])]),(.agg [(.bool false),(.sl .any [(.int .u32 1)])])])])],[],(.fv (.sl .any [(.sl .any [(.agg [(.bool false),(.sl .any [(.int .u32 1)])])]),(.sl .any [(.agg [(.bool false),(.sl .nil [])]),(.agg [(.bool false),(.sl .any [(.int .u32 1)])])])]),[],[])⟩
theorem x135 : Has tab.get an e135:=Has.of [e134] ⟨x134,trivial⟩ 1000 (by kernel_rfl)
def e136 : Kn:=⟨39,[.fv (.sl .any [(.sl .any [(.agg [(.bool false),(.sl .any [(.int .u32 1)])])]),(.sl .any [(.agg [(.bool false),(.sl .nil [])]),(.agg [(.bool false),(.sl .any [(.int .u32 1)])])])]),.fv .nilFn],[],(.fv (.sl .any [(.sl .any [(.agg [(.bool false),(.sl .any [(.int .u32 1)])])]),(.sl .any [(.agg [(.bool false),(.sl .nil [])]),(.agg [(.bool false),(.sl .any [(.int .u32 1)])])])]),[],[.frz 1 [(.sl .any [(.agg [(.bool false),(.sl .any [(.int .u32 1)])])]),(.sl .any [(.agg [(.bool false),(.sl .nil [])]),(.agg [(.bool false),(.sl .any [(.int .u32 1)])])])]])⟩
theorem x136 : Has tab.get an e136:=Has.of [e115,e96,e68] ⟨x115,⟨x96,⟨x68,trivial⟩⟩⟩ 1000 (by kernel_rfl)
def e137 : Kn:=⟨60,[.fv (.sl .any [(.sl .any [(.agg [(.bool false),(.sl .any [(.int .u32 1)])])]),(.sl .any [(.agg [(.bool false),(.sl .nil [])]),(.agg [(.bool false),(.sl .any [(.int .u32 1)])])])])],[],(.fv (.sl .any [(.sl .any [(.agg [(.bool false),(.sl .any [(.int .u32 1)])])]),(.sl .any [(.agg [(.bool false),(.sl .nil [])]),(.agg [(.bool false),(.sl .any [(.int .u32 1)])])])]),[],[])⟩
theorem x137 : Has tab.get an e137:=Has.of [e136] ⟨x136,trivial⟩ 1000 (by kernel_rfl)
def e138 : Kn:=⟨72,[.fv (.sl .any [(.sl .nil []),(.sl .any [(.agg [(.bool false),(.sl .any [(.int .u32 1)])])])]),.fv (.sl .any [(.sl .any [(.agg [(.bool false),(.sl .nil [])]),(.agg [(.bool false),(.sl .any [(.int .u32 1)])])])]),.fv (.fn (.func 47) [(.ptr (.agg [(.int .i64 2),(.bool false),(.sl .nil [])]))] []),.fv (.fn (.func 49) [(.ptr (.agg [(.int .i64 2),(.bool false),(.sl .nil [])]))] [])],[],(.fv (.sl .any [(.sl .any [(.agg [(.bool false),(.sl .any [(.int .u32 1)])])]),(.sl .any [(.agg [(.bool false),(.sl .nil [])]),(.agg [(.bool false),(.sl .any [(.int .u32 1)])])])]),[],[])⟩
theorem x138 : Has tab.get an e138:=Has.of [e70,e71,e79,e82,e118,e127,e135,e137] ⟨x70,⟨x71,⟨x79,⟨x82,⟨x118,⟨x127,⟨x135,⟨x137,trivial⟩⟩⟩⟩⟩⟩⟩⟩ 1000 (by kernel_rfl)
def e139 : Kn:=⟨18,[.fv (.ptr (.agg [(.int .i64 2),(.bool false),(.sl .nil [])])),.fv (.sl .any [(.sl .nil []),(.sl .any [(.agg [(.bool false),(.sl .any [(.int .u32 1)])])])]),.fv (.sl .any [(.sl .any [(.agg [(.bool false),(.sl .nil [])]),(.agg [(.bool false),(.sl .any [(.int .u32 1)])])])])],[],(.fv (.tup [(.sl .any [(.sl .any [(.agg [(.bool false),(.sl .any [(.int .u32 1)])])]),(.sl .any [(.agg [(.bool false),(.sl .nil [])]),(.agg [(.bool false),(.sl .any [(.int .u32 1)])])])]),(.int .i64 0)]),[],[])⟩
theorem x139 : Has tab.get an e139:=Has.of [e49,e138] ⟨x49,⟨x138,trivial⟩⟩ 1000 (by kernel_rfl)
def e140 : Kn:=⟨146,[.fv (.sl .any [(.sl .nil []),(.sl .any [(.agg [(.bool false),(.sl .any [(.int .u32 1)])])])]),.fv (.int .i64 0)],[],(.fv (.sl .nil []),[],[])⟩
theorem x140 : Has tab.get an e140:=Has.of [] trivial 1000 (by kernel_rfl)
def e141 : Kn:=⟨144,[.fv (.sl .any [(.agg [(.bool false),(.sl .any [(.int .u32 1)])])]),.fv (.sl .nil []),.fv (.fn (.func 103) [] [])],[],(.ref (.l 0) 2 0 1 true,[],[.own 2 [(.agg [(.bool false),(.sl .any [(.int .u32 1)])])]])⟩
theorem x141 : Has tab.get an e141:=Has.of [e24,e26,e102,e101,e64,e92] ⟨x24,⟨x26,⟨x102,⟨x101,⟨x64,⟨x92,trivial⟩⟩⟩⟩⟩⟩ 1000 (by kernel_rfl)
def e142 : Kn:=⟨94,[.fv (.sl .any [(.agg [(.bool false),(.sl .any [(.int .u32 1)])])]),.fv (.sl .nil [])],[],(.fv (.sl .any [(.agg [(.bool false),(.sl .any [(.int .u32 1)])])]),[],[])⟩
theorem x142 : Has tab.get an e142:=Has.of [e141] ⟨x141,trivial⟩ 1000 (by kernel_rfl)
def e143 : Kn:=⟨146,[.fv (.sl .any [(.sl .nil []),(.sl .any [(.agg [(.bool false),(.sl .any [(.int .u32 1)])])])]),.fv (.int .i64 1)],[],(.fv (.sl .any [(.agg [(.bool false),(.sl .any [(.int .u32 1)])])]),[],[])⟩
theorem x143 : Has tab.get an e143:=Has.of [] trivial 1000 (by kernel_rfl)
def e144 : Kn:=⟨173,[.fv (.sl .any [(.agg [(.bool false),(.sl .any [(.int .u32 1)])])]),.fv (.int .i64 1)],[],(.fv (.agg [(.bool false),(.sl .nil [])]),[],[.own 2 [(.agg [(.bool false),(.sl .nil [])])]])⟩
theorem x144 : Has tab.get an e144:=Has.of [] trivial 1000 (by kernel_rfl)
def e145 : Kn:=⟨130,[.ref (.b 0) 2 0 2 true],[.own 2 [(.agg [(.bool false),(.sl .any [(.int .u32 1)])]),(.agg [(.bool false),(.sl .any [(.int .u32 1)])])]],(.ref (.b 0) 2 0 2 true,[.own 2 [(.agg [(.bool false),(.sl .any [(.int .u32 1)])]),(.agg [(.bool false),(.sl .any [(.int .u32 1)])])]],[])⟩
theorem x145 : Has tab.get an e145:=Has.of [e23] ⟨x23,trivial⟩ 1000 (by kernel_rfl)
def e146 : Kn:=⟨144,[.fv (.sl .any [(.agg [(.bool false),(.sl .nil [])]),(.agg [(.bool false),(.sl .any [(.int .u32 1)])])]),.fv (.sl .any [(.agg [(.bool false),(.sl .any [(.int .u32 1)])])]),.fv (.fn (.func 103) [] [])],[],(.ref (.l 0) 2 0 2 true,[],[.own 2 [(.agg [(.bool false),(.sl .any [(.int .u32 1)])]),(.agg [(.bool false),(.sl .any [(.int .u32 1)])])]])⟩
theorem x146 : Has tab.get an e146:=Has.of [e33,e24,e110,e102,e105,e111,e144,e64,e145] ⟨x33,⟨x24,⟨x110,⟨x102,⟨x105,⟨x111,⟨x144,⟨x64,⟨x145,trivial⟩⟩⟩⟩⟩⟩⟩⟩⟩ 1000 (by kernel_rfl)
def e147 : Kn:=⟨94,[.fv (.sl .any [(.agg [(.bool false),(.sl .nil [])]),(.agg [(.bool false),(.sl .any [(.int .u32 1)])])]),.fv (.sl .any [(.agg [(.bool false),(.sl .any [(.int .u32 1)])])])],[],(.fv (.sl .any [(.agg [(.bool false),(.sl .any [(.int .u32 1)])]),(.agg [(.bool false),(.sl .any [(.int .u32 1)])])]),[],[])⟩
theorem x147 : Has tab.get an e147:=Has.of [e146] ⟨x146,trivial⟩ 1000 (by kernel_rfl)
def e148 : Kn:=⟨130,[.fv (.sl .any [(.agg [(.bool false),(.sl .any [(.int .u32 1)])]),(.agg [(.bool false),(.sl .any [(.int .u32 1)])])])],[],(.fv (.sl .any [(.agg [(.bool false),(.sl .any [(.int .u32 1)])]),(.agg [(.bool false),(.sl .any [(.int .u32 1)])])]),[],[])⟩
theorem x148 : Has tab.get an e148:=Has.of [e23] ⟨x23,trivial⟩ 1000 (by kernel_rfl)
def e149 : Kn:=⟨115,[.fv (.sl .any [(.agg [(.bool false),(.sl .any [(.int .u32 1)])]),(.agg [(.bool false),(.sl .any [(.int .u32 1)])])])],[],(.fv (.int .i64 1),[],[])⟩
theorem x149 : Has tab.get an e149:=Has.of [e148] ⟨x148,trivial⟩ 1000 (by kernel_rfl)
def e150 : Kn:=⟨83,[.fv (.sl .any [(.sl .any [(.agg [(.bool false),(.sl .any [(.int .u32 1)])])]),(.sl .any [(.agg [(.bool false),(.sl .any [(.int .u32 1)])]),(.agg [(.bool false),(.sl .any [(.int .u32 1)])])])])],[],(.fv (.sl .any [(.sl .any [(.agg [(.bool false),(.sl .any [(.int .u32 1)])])]),(.sl .any [(.agg [(.bool false),(.sl .any [(.int .u32 1)])]),(.agg [(.bool false),(.sl .any [(.int .u32 1)])])])]),[],[])⟩
theorem x150 : Has tab.get an e150:=Has.of [e149] ⟨x149,trivial⟩ 1000 (by kernel_rfl)
def e151 : Kn:=⟨99,[.fv (.sl .any [(.sl .any [(.agg [(.bool false),(.sl .any [(.int .u32 1)])])]),(.sl .any [(.agg [(.bool false),(.sl .nil [])]),(.agg [(.bool false),(.sl .any [(.int .u32 1)])])])]),.fv (.sl .any [(.sl .nil []),(.sl .any [(.agg [(.bool false),(.sl .any [(.int .u32 1)])])])]),.fv (.fn (.func 94) [] [])],[],(.fv (.sl .any [(.sl .any [(.agg [(.bool false),(.sl .any [(.int .u32 1)])])]),(.sl .any [(.agg [(.bool false),(.sl .any [(.int .u32 1)])]),(.agg [(.bool false),(.sl .any [(.int .u32 1)])])])]),[],[.frz 1 [(.sl .any [(.agg [(.bool false),(.sl .any [(.int .u32 1)])])]),(.sl .any [(.agg [(.bool false),(.sl .any [(.int .u32 1)])]),(.agg [(.bool false),(.sl .any [(.int .u32 1)])])])]])⟩
theorem x151 : Has tab.get an e151:=Has.of [e129,e140,e142,e131,e143,e147,e150] ⟨x129,⟨x140,⟨x142,⟨x131,⟨x143,⟨x147,⟨x150,trivial⟩⟩⟩⟩⟩⟩⟩ 1000 (by kernel_rfl)
def e152 : Kn:=⟨36,[.fv (.sl .any [(.sl .any [(.agg [(.bool false),(.sl .any [(.int .u32 1)])])]),(.sl .any [(.agg [(.bool false),(.sl .nil [])]),(.agg [(.bool false),(.sl .any [(.int .u32 1)])])])]),.fv (.sl .any [(.sl .nil []),(.sl .any [(.agg [(.bool false),(.sl .any [(.int .u32 1)])])])])],[],(.fv (.sl .any [(.sl .any [(.agg [(.bool false),(.sl .any [(.int .u32 1)])])]),(.sl .any [(.agg [(.bool false),(.sl .any [(.int .u32 1)])]),(.agg [(.bool false),(.sl .any [(.int .u32 1)])])])]),[],[])⟩
theorem x152 : Has tab.get an e152:=Has.of [e151] ⟨x151,trivial⟩ 1000 (by kernel_rfl)
def e153 : Kn:=⟨80,[.fv (.sl .any [(.agg [(.bool false),(.sl .full [])]),(.agg [(.bool false),(.sl .full [])]),(.agg [(.bool false),(.sl .full [(.int .i64 1)])])])],[],(.fv (.sl .full [(.agg [(.bool false),(.sl .full [])]),(.agg [(.bool false),(.sl .full [])]),(.agg [(.bool false),(.sl .full [(.int .i64 1)])])]),[],[])⟩
theorem x153 : Has tab.get an e153:=Has.of [e3] ⟨x3,trivial⟩ 1000 (by kernel_rfl)
def e154 : Kn:=⟨55,[.fv (.sl .full [(.int .i64 0),(.int .i64 0),(.int .i64 1)])],[],(.fv (.sl .full [(.agg [(.bool false),(.sl .full [])]),(.agg [(.bool false),(.sl .full [])]),(.agg [(.bool false),(.sl .full [(.int .i64 1)])])]),[],[.frz 2 [(.agg [(.bool false),(.sl .full [])]),(.agg [(.bool false),(.sl .full [])]),(.agg [(.bool false),(.sl .full [(.int .i64 1)])])]])⟩
theorem x154 : Has tab.get an e154:=Has.of [e13,e2,e153] ⟨x13,⟨x2,⟨x153,trivial⟩⟩⟩ 1000 (by kernel_rfl)
def e155 : Kn:=⟨41,[.fv (.sl .full [(.agg [(.bool false),(.sl .full [])]),(.agg [(.bool false),(.sl .full [])]),(.agg [(.bool false),(.sl .full [(.int .i64 1)])])])],[],(.ref (.l 0) 2 0 3 true,[],[.own 2 [(.agg [(.bool false),(.sl .nil [])]),(.agg [(.bool false),(.sl .nil [])]),(.agg [(.bool false),(.sl .any [(.int .u32 1)])])]])⟩
theorem x155 : Has tab.get an e155:=Has.of [e17,e8] ⟨x17,⟨x8,trivial⟩⟩ 1000 (by kernel_rfl)
def e156 : Kn:=⟨130,[.fv (.sl .any [(.agg [(.bool false),(.sl .nil [])]),(.agg [(.bool false),(.sl .nil [])]),(.agg [(.bool false),(.sl .any [(.int .u32 1)])])])],[],(.fv (.sl .any [(.agg [(.bool false),(.sl .nil [])]),(.agg [(.bool false),(.sl .nil [])]),(.agg [(.bool false),(.sl .any [(.int .u32 1)])])]),[],[])⟩
theorem x156 : Has tab.get an e156:=Has.of [e23] ⟨x23,trivial⟩ 1000 (by kernel_rfl)
def e157 : Kn:=⟨115,[.fv (.sl .any [(.agg [(.bool false),(.sl .nil [])]),(.agg [(.bool false),(.sl .nil [])]),(.agg [(.bool false),(.sl .any [(.int .u32 1)])])])],[],(.fv (.int .i64 2),[],[])⟩
theorem x157 : Has tab.get an e157:=Has.of [e156] ⟨x156,trivial⟩ 1000 (by kernel_rfl)
def e158 : Kn:=⟨116,[.fv (.sl .any [(.agg [(.bool false),(.sl .nil [])]),(.agg [(.bool false),(.sl .nil [])]),(.agg [(.bool false),(.sl .any [(.int .u32 1)])])])],[],(.fv (.int .i64 1),[],[])⟩
theorem x158 : Has tab.get an e158:=Has.of [e37,e30] ⟨x37,⟨x30,trivial⟩⟩ 1000 (by kernel_rfl)
def e159 : Kn:=⟨120,[.fv (.sl .full [(.int .i64 0),(.int .i64 8)])],[],(.fv (.int .i64 8),[],[])⟩
theorem x159 : Has tab.get an e159:=Has.of [] trivial 1000 (by kernel_rfl)
def e160 : Kn:=⟨121,[.fv (.sl .full [(.int .i64 2),(.int .i64 4),(.int .i64 8)])],[],(.fv (.int .i64 64),[],[])⟩
theorem x160 : Has tab.get an e160:=Has.of [] trivial 1000 (by kernel_rfl)
def e161 : Kn:=⟨120,[.fv (.sl .full [(.int .i64 1),(.int .i64 1),(.int .i64 64)])],[],(.fv (.int .i64 66),[],[])⟩
theorem x161 : Has tab.get an e161:=Has.of [] trivial 1000 (by kernel_rfl)
def e162 : Kn:=⟨120,[.fv (.sl .full [(.int .i64 0),(.int .i64 5)])],[],(.fv (.int .i64 5),[],[])⟩
theorem x162 : Has tab.get an e162:=Has.of [] trivial 1000 (by kernel_rfl)
def e163 : Kn:=⟨121,[.fv (.sl .full [(.int .i64 2),(.int .i64 5)])],[],(.fv (.int .i64 10),[],[])⟩
theorem x163 : Has tab.get an e163:=Has.of [] trivial 1000 (by kernel_rfl)
def e164 : Kn:=⟨121,[.fv (.sl .full [(.int .i64 10),(.int .i64 66)])],[],(.fv (.int .i64 660),[],[])⟩
theorem x164 : Has tab.get an e164:=Has.of [] trivial 1000 (by kernel_rfl)
def e165 : Kn:=⟨122,[.fv (.sl .full [(.int .i64 2),(.int .i64 5),(.int .i64 66)])],[],(.fv (.int .i64 660),[],[])⟩
theorem x165 : Has tab.get an e165:=Has.of [e44,e163,e164] ⟨x44,⟨x163,⟨x164,trivial⟩⟩⟩ 1000 (by kernel_rfl)
def e166 : Kn:=⟨92,[.fv (.sl .any [(.sl .nil []),(.sl .any [(.agg [(.bool false),(.sl .any [(.int .u32 1)])])])]),.fv (.sl .any [(.agg [(.bool false),(.sl .nil [])]),(.agg [(.bool false),(.sl .nil [])]),(.agg [(.bool false),(.sl .any [(.int .u32 1)])])]),.fv (.agg [(.bool false),(.sl .nil [])])],[],(.fv (.int .i64 660),[],[.own 2 [(.agg [(.bool false),(.sl .nil [])])],.own 3 [(.agg [(.int .i64 1),(.int .i64 0),(.int .i64 1)])]])⟩
theorem x166 : Has tab.get an e166:=Has.of [e32,e157,e37,e158,e159,e160,e161,e162,e165] ⟨x32,⟨x157,⟨x37,⟨x158,⟨x159,⟨x160,⟨x161,⟨x162,⟨x165,trivial⟩⟩⟩⟩⟩⟩⟩⟩⟩ 1000 (by kernel_rfl)
def e167 : Kn:=⟨130,[.ref (.b 0) 2 0 3 true],[.own 2 [(.agg [(.bool false),(.sl .nil [])]),(.agg [(.bool false),(.sl .nil [])]),(.agg [(.bool false),(.sl .any [(.int .u32 1)])])]],(.ref (.b 0) 2 0 3 true,[.own 2 [(.agg [(.bool false),(.sl .nil [])]),(.agg [(.bool false),(.sl .nil [])]),(.agg [(.bool false),(.sl .any [(.int .u32 1)])])]],[])⟩
theorem x167 : Has tab.get an e167:=Has.of [e23] ⟨x23,trivial⟩ 1000 (by kernel_rfl)
def e168 : Kn:=⟨132,[.fv (.sl .any [(.agg [(.bool false),(.sl .nil [])]),(.agg [(.bool false),(.sl .nil [])]),(.agg [(.bool false),(.sl .any [(.int .u32 1)])])]),.fv (.fn (.func 131) [] [])],[],(.ref (.l 0) 2 0 3 true,[],[.own 2 [(.agg [(.bool false),(.sl .nil [])]),(.agg [(.bool false),(.sl .nil [])]),(.agg [(.bool false),(.sl .any [(.int .u32 1)])])]])⟩
theorem x168 : Has tab.get an e168:=Has.of [e156,e58,e65,e167] ⟨x156,⟨x58,⟨x65,⟨x167,trivial⟩⟩⟩⟩ 1000 (by kernel_rfl)
def e169 : Kn:=⟨93,[.fv (.sl .any [(.agg [(.bool false),(.sl .nil [])]),(.agg [(.bool false),(.sl .nil [])]),(.agg [(.bool false),(.sl .any [(.int .u32 1)])])])],[],(.ref (.l 0) 2 0 3 true,[],[.own 2 [(.agg [(.bool false),(.sl .nil [])]),(.agg [(.bool false),(.sl .nil [])]),(.agg [(.bool false),(.sl .any [(.int .u32 1)])])]])⟩
theorem x169 : Has tab.get an e169:=Has.of [e168] ⟨x168,trivial⟩ 1000 (by kernel_rfl)
def e170 : Kn:=⟨95,[.fv (.sl .nil []),.fv (.sl .any [(.agg [(.bool false),(.sl .nil [])]),(.agg [(.bool false),(.sl .nil [])]),(.agg [(.bool false),(.sl .any [(.int .u32 1)])])])],[],(.fv (.sl .nil []),[],[])⟩
theorem x170 : Has tab.get an e170:=Has.of [e26,e156] ⟨x26,⟨x156,trivial⟩⟩ 1000 (by kernel_rfl)
def e171 : Kn:=⟨144,[.fv (.sl .nil []),.fv (.sl .nil []),.fv (.fn (.func 103) [] [])],[],(.fv (.sl .nil []),[],[.own 2 []])⟩
theorem x171 : Has tab.get an e171:=Has.of [e26,e74] ⟨x26,⟨x74,trivial⟩⟩ 1000 (by kernel_rfl)
def e172 : Kn:=⟨94,[.fv (.sl .nil []),.fv (.sl .nil [])],[],(.fv (.sl .nil []),[],[])⟩
theorem x172 : Has tab.get an e172:=Has.of [e171] ⟨x171,trivial⟩ 1000 (by kernel_rfl)
def e173 : Kn:=⟨175,[.fv (.sl .any []),.fv (.sl .any [(.int .u32 1)])],[],(.fv (.sl .any []),[],[])⟩
theorem x173 : Has tab.get an e173:=Has.of [e121] ⟨x121,trivial⟩ 1000 (by kernel_rfl)
def e174 : Kn:=⟨145,[.fv (.agg [(.bool false),(.sl .nil [])]),.fv (.agg [(.bool false),(.sl .any [(.int .u32 1)])])],[],(.fv (.agg [(.bool false),(.sl .nil [])]),[],[.own 2 [(.agg [(.bool false),(.sl .nil [])])],.own 2 [(.agg [(.bool false),(.sl .any [(.int .u32 1)])])],.own 2 [(.agg [(.bool false),(.sl .nil [])])]])⟩
theorem x174 : Has tab.get an e174:=Has.of [e51,e59,e36,e22,e173,e55] ⟨x51,⟨x59,⟨x36,⟨x22,⟨x173,⟨x55,trivial⟩⟩⟩⟩⟩⟩ 1000 (by kernel_rfl)
def e175 : Kn:=⟨165,[.fv (.sl .full [(.int .u32 2),(.int .u32 0)])],[],(.fv (.sl .any [(.int .u32 2)]),[],[])⟩
theorem x175 : Has tab.get an e175:=Has.of [] trivial 1000 (by kernel_rfl)
def e176 : Kn:=⟨134,[.fv (.bool false),.fv (.sl .full [(.int .u32 2),(.int .u32 0)])],[],(.fv (.agg [(.bool false),(.sl .any [(.int .u32 2)])]),[],[.own 2 [(.agg [(.bool false),(.sl .any [(.int .u32 2)])])],.frz 1 [(.int .u32 2)]])⟩
theorem x176 : Has tab.get an e176:=Has.of [e175] ⟨x175,trivial⟩ 1000 (by kernel_rfl)
def e177 : Kn:=⟨87,[.fv (.int .i64 2)],[],(.fv (.agg [(.bool false),(.sl .any [(.int .u32 2)])]),[],[.own 2 [(.agg [(.bool false),(.sl .any [(.int .u32 2)])])]])⟩
theorem x177 : Has tab.get an e177:=Has.of [e176] ⟨x176,trivial⟩ 1000 (by kernel_rfl)
def e178 : Kn:=⟨174,[.fv (.agg [(.bool false),(.sl .any [(.int .u32 2)])])],[],(.fv (.bool false),[],[.own 2 [(.agg [(.bool false),(.sl .any [(.int .u32 2)])])]])⟩
theorem x178 : Has tab.get an e178:=Has.of [] trivial 1000 (by kernel_rfl)
def e179 : Kn:=⟨165,[.fv (.sl .any [(.int .u32 2)])],[],(.fv (.sl .any [(.int .u32 2)]),[],[])⟩
theorem x179 : Has tab.get an e179:=Has.of [] trivial 1000 (by kernel_rfl)
def e180 : Kn:=⟨129,[.fv (.agg [(.bool false),(.sl .any [(.int .u32 2)])])],[],(.fv (.sl .any [(.int .u32 2)]),[],[.own 2 [(.agg [(.bool false),(.sl .any [(.int .u32 2)])])]])⟩
theorem x180 : Has tab.get an e180:=Has.of [e179] ⟨x179,trivial⟩ 1000 (by kernel_rfl)
def e181 : Kn:=⟨165,[.fv (.sl .any [(.int .u32 2),(.int .u32 0)])],[],(.fv (.sl .any [(.int .u32 2)]),[],[])⟩
theorem x181 : Has tab.get an e181:=Has.of [] trivial 1000 (by kernel_rfl)
def e182 : Kn:=⟨193,[.fv (.sl .any [(.int .u32 1)]),.fv (.sl .any [(.int .u32 2)])],[],(.fv (.sl .any [(.int .u32 2)]),[],[.frz 1 [(.int .u32 2),(.int .u32 0)]])⟩
theorem x182 : Has tab.get an e182:=Has.of [e181] ⟨x181,trivial⟩ 1000 (by kernel_rfl)
def e183 : Kn:=⟨175,[.fv (.sl .any [(.int .u32 1)]),.fv (.sl .any [(.int .u32 2)])],[],(.fv (.sl .any [(.int .u32 2)]),[],[])⟩
theorem x183 : Has tab.get an e183:=Has.of [e182] ⟨x182,trivial⟩ 1000 (by kernel_rfl)
def e184 : Kn:=⟨134,[.fv (.bool false),.fv (.sl .any [(.int .u32 2)])],[],(.fv (.agg [(.bool false),(.sl .any [(.int .u32 2)])]),[],[.own 2 [(.agg [(.bool false),(.sl .any [(.int .u32 2)])])],.frz 1 [(.int .u32 2)]])⟩
theorem x184 : Has tab.get an e184:=Has.of [e179] ⟨x179,trivial⟩ 1000 (by kernel_rfl)
def e185 : Kn:=⟨145,[.fv (.agg [(.bool false),(.sl .any [(.int .u32 1)])]),.fv (.agg [(.bool false),(.sl .any [(.int .u32 2)])])],[],(.fv (.agg [(.bool false),(.sl .any [(.int .u32 2)])]),[],[.own 2 [(.agg [(.bool false),(.sl .any [(.int .u32 1)])])],.own 2 [(.agg [(.bool false),(.sl .any [(.int .u32 2)])])],.own 2 [(.agg [(.bool false),(.sl .any [(.int .u32 2)])])]])⟩
theorem x185 : Has tab.get an e185:=Has.of [e59,e178,e22,e180,e183,e184] ⟨x59,⟨x178,⟨x22,⟨x180,⟨x183,⟨x184,trivial⟩⟩⟩⟩⟩⟩ 1000 (by kernel_rfl)
def e186 : Kn:=⟨84,[.fv (.agg [(.bool false),(.sl .any [(.int .u32 2)])])],[],(.fv (.int .i64 1),[],[.own 2 [(.agg [(.bool false),(.sl .any [(.int .u32 2)])])]])⟩
theorem x186 : Has tab.get an e186:=Has.of [e180] ⟨x180,trivial⟩ 1000 (by kernel_rfl)
def e187 : Kn:=⟨130,[.ref (.b 0) 2 0 2 true],[.own 2 [(.agg [(.bool false),(.sl .nil [])]),(.agg [(.bool false),(.sl .any [(.int .u32 2)])])]],(.ref (.b 0) 2 0 2 true,[.own 2 [(.agg [(.bool false),(.sl .nil [])]),(.agg [(.bool false),(.sl .any [(.int .u32 2)])])]],[])⟩
theorem x187 : Has tab.get an e187:=Has.of [e186] ⟨x186,trivial⟩ 1000 (by kernel_rfl)
def e188 : Kn:=⟨108,[.fv (.sl .any [(.agg [(.bool false),(.sl .nil [])]),(.agg [(.bool false),(.sl .nil [])]),(.agg [(.bool false),(.sl .any [(.int .u32 1)])])])],[],(.ref (.l 0) 2 0 2 true,[],[.own 2 [(.agg [(.bool false),(.sl .nil [])]),(.agg [(.bool false),(.sl .any [(.int .u32 2)])])]])⟩
theorem x188 : Has tab.get an e188:=Has.of [e156,e88,e174,e177,e185,e187] ⟨x156,⟨x88,⟨x174,⟨x177,⟨x185,⟨x187,trivial⟩⟩⟩⟩⟩⟩ 1000 (by kernel_rfl)
def e189 : Kn:=⟨49,[.fv (.ptr (.agg [(.int .i64 2),(.bool false),(.sl .nil [])])),.fv (.sl .any [(.agg [(.bool false),(.sl .nil [])]),(.agg [(.bool false),(.sl .nil [])]),(.agg [(.bool false),(.sl .any [(.int .u32 1)])])])],[],(.fv (.sl .any [(.agg [(.bool false),(.sl .nil [])]),(.agg [(.bool false),(.sl .any [(.int .u32 2)])])]),[],[])⟩
theorem x189 : Has tab.get an e189:=Has.of [e83,e188] ⟨x83,⟨x188,trivial⟩⟩ 1000 (by kernel_rfl)
def e190 : Kn:=⟨130,[.fv (.sl .any [(.agg [(.bool false),(.sl .nil [])]),(.agg [(.bool false),(.sl .any [(.int .u32 2)])])])],[],(.fv (.sl .any [(.agg [(.bool false),(.sl .nil [])]),(.agg [(.bool false),(.sl .any [(.int .u32 2)])])]),[],[])⟩
theorem x190 : Has tab.get an e190:=Has.of [e186] ⟨x186,trivial⟩ 1000 (by kernel_rfl)
def e191 : Kn:=⟨177,[.fv (.sl .any []),.fv (.sl .any [(.int .u32 2)])],[],(.fv (.sl .any [(.int .u32 2)]),[],[.frz 1 [(.int .u32 2),(.int .u32 0)]])⟩
theorem x191 : Has tab.get an e191:=Has.of [e181] ⟨x181,trivial⟩ 1000 (by kernel_rfl)
def e192 : Kn:=⟨151,[.fv (.agg [(.bool false),(.sl .nil [])]),.fv (.agg [(.bool false),(.sl .any [(.int .u32 2)])]),.fv (.bool false)],[],(.fv (.agg [(.bool false),(.sl .any [(.int .u32 2)])]),[],[.own 2 [(.agg [(.bool false),(.sl .nil [])])],.own 2 [(.agg [(.bool false),(.sl .any [(.int .u32 2)])])],.own 2 [(.agg [(.bool false),(.sl .any [(.int .u32 2)])])]])⟩
theorem x192 : Has tab.get an e192:=Has.of [e36,e180,e51,e178,e191,e184] ⟨x36,⟨x180,⟨x51,⟨x178,⟨x191,⟨x184,trivial⟩⟩⟩⟩⟩⟩ 1000 (by kernel_rfl)
def e193 : Kn:=⟨103,[.fv (.agg [(.bool false),(.sl .nil [])]),.fv (.agg [(.bool false),(.sl .any [(.int .u32 2)])])],[],(.fv (.agg [(.bool false),(.sl .any [(.int .u32 2)])]),[],[.own 2 [(.agg [(.bool false),(.sl .nil [])])],.own 2 [(.agg [(.bool false),(.sl .any [(.int .u32 2)])])],.own 2 [(.agg [(.bool false),(.sl .any [(.int .u32 2)])])]])⟩
theorem x193 : Has tab.get an e193:=Has.of [e192] ⟨x192,trivial⟩ 1000 (by kernel_rfl)
def e194 : Kn:=⟨95,[.fv (.sl .any [(.agg [(.bool false),(.sl .any [(.int .u32 1)])])]),.fv (.sl .any [(.agg [(.bool false),(.sl .nil [])]),(.agg [(.bool false),(.sl .any [(.int .u32 2)])])])],[],(.ref (.l 0) 2 0 2 true,[],[.own 2 [(.agg [(.bool false),(.sl .nil [])]),(.agg [(.bool false),(.sl .any [(.int .u32 2)])])]])⟩
theorem x194 : Has tab.get an e194:=Has.of [e24,e190,e23,e123,e57,e185,e193,e187] ⟨x24,⟨x190,⟨x23,⟨x123,⟨x57,⟨x185,⟨x193,⟨x187,trivial⟩⟩⟩⟩⟩⟩⟩⟩ 1000 (by kernel_rfl)
def e195 : Kn:=⟨173,[.fv (.sl .any [(.agg [(.bool false),(.sl .nil [])]),(.agg [(.bool false),(.sl .any [(.int .u32 2)])])]),.fv (.int .i64 0)],[],(.fv (.agg [(.bool false),(.sl .nil [])]),[],[.own 2 [(.agg [(.bool false),(.sl .nil [])])]])⟩
theorem x195 : Has tab.get an e195:=Has.of [] trivial 1000 (by kernel_rfl)
def e196 : Kn:=⟨173,[.fv (.sl .any [(.agg [(.bool false),(.sl .nil [])]),(.agg [(.bool false),(.sl .any [(.int .u32 2)])])]),.fv (.int .i64 1)],[],(.fv (.agg [(.bool false),(.sl .any [(.int .u32 2)])]),[],[.own 2 [(.agg [(.bool false),(.sl .any [(.int .u32 2)])])]])⟩
theorem x196 : Has tab.get an e196:=Has.of [] trivial 1000 (by kernel_rfl)
def e197 : Kn:=⟨144,[.fv (.sl .nil []),.fv (.sl .any [(.agg [(.bool false),(.sl .nil [])]),(.agg [(.bool false),(.sl .any [(.int .u32 2)])])]),.fv (.fn (.func 103) [] [])],[],(.ref (.l 0) 2 0 2 true,[],[.own 2 [(.agg [(.bool false),(.sl .nil [])]),(.agg [(.bool false),(.sl .any [(.int .u32 2)])])]])⟩
theorem x197 : Has tab.get an e197:=Has.of [e26,e190,e101,e195,e57,e112,e196,e193,e187] ⟨x26,⟨x190,⟨x101,⟨x195,⟨x57,⟨x112,⟨x196,⟨x193,⟨x187,trivial⟩⟩⟩⟩⟩⟩⟩⟩⟩ 1000 (by kernel_rfl)
def e198 : Kn:=⟨94,[.fv (.sl .nil []),.fv (.sl .any [(.agg [(.bool false),(.sl .nil [])]),(.agg [(.bool false),(.sl .any [(.int .u32 2)])])])],[],(.fv (.sl .any [(.agg [(.bool false),(.sl .nil [])]),(.agg [(.bool false),(.sl .any [(.int .u32 2)])])]),[],[])⟩
theorem x198 : Has tab.get an e198:=Has.of [e197] ⟨x197,trivial⟩ 1000 (by kernel_rfl)
def e199 : Kn:=⟨33,[.fv (.ptr (.agg [(.int .i64 2),(.bool false),(.sl .nil [])])),.fv (.sl .any [(.sl .nil []),(.sl .any [(.agg [(.bool false),(.sl .any [(.int .u32 1)])])])]),.fv (.sl .any [(.agg [(.bool false),(.sl .nil [])]),(.agg [(.bool false),(.sl .nil [])]),(.agg [(.bool false),(.sl .any [(.int .u32 1)])])])],[],(.fv (.tup [(.sl .any [(.agg [(.bool false),(.sl .nil [])]),(.agg [(.bool false),(.sl .any [(.int .u32 2)])])]),(.int .i64 0)]),[],[])⟩
theorem x199 : Has tab.get an e199:=Has.of [e166,e169,e71,e170,e172,e189,e194,e198] ⟨x166,⟨x169,⟨x71,⟨x170,⟨x172,⟨x189,⟨x194,⟨x198,trivial⟩⟩⟩⟩⟩⟩⟩⟩ 1000 (by kernel_rfl)
def e200 : Kn:=⟨37,[.fv (.sl .any [(.sl .any [(.agg [(.bool false),(.sl .any [(.int .u32 1)])])]),(.sl .any [(.agg [(.bool false),(.sl .nil [])]),(.agg [(.bool false),(.sl .any [(.int .u32 1)])])])])],[],(.fv (.int .i64 1),[],[])⟩
theorem x200 : Has tab.get an e200:=Has.of [e115] ⟨x115,trivial⟩ 1000 (by kernel_rfl)
def e201 : Kn:=⟨126,[.fv (.sl .nil [])],[],(.fv (.agg [(.bool false),(.sl .nil [])]),[],[.own 2 [(.agg [(.bool false),(.sl .nil [])])],.own 2 [(.agg [(.bool false),(.sl .nil [])])]])⟩
theorem x201 : Has tab.get an e201:=Has.of [] trivial 1000 (by kernel_rfl)
def e202 : Kn:=⟨176,[.fv (.sl .any []),.fv (.sl .any [(.int .u32 1)])],[],(.fv (.int .i64 (-1)),[],[])⟩
theorem x202 : Has tab.get an e202:=Has.of [] trivial 1000 (by kernel_rfl)
def e203 : Kn:=⟨156,[.fv (.sl .any []),.fv (.sl .any [(.int .u32 1)])],[],(.fv (.tup [(.sl .nil []),(.sl .any [])]),[],[])⟩
theorem x203 : Has tab.get an e203:=Has.of [e202] ⟨x202,trivial⟩ 1000 (by kernel_rfl)
def e204 : Kn:=⟨125,[.fv (.agg [(.bool false),(.sl .nil [])]),.fv (.agg [(.bool false),(.sl .any [(.int .u32 1)])])],[],(.fv (.agg [(.bool false),(.sl .any [(.int .u32 1)])]),[],[.own 2 [(.agg [(.bool false),(.sl .any [(.int .u32 1)])])]])⟩
theorem x204 : Has tab.get an e204:=Has.of [e36,e22,e203,e62] ⟨x36,⟨x22,⟨x203,⟨x62,trivial⟩⟩⟩⟩ 1000 (by kernel_rfl)
def e205 : Kn:=⟨126,[.fv (.sl .any [(.agg [(.bool false),(.sl .any [(.int .u32 1)])])])],[],(.fv (.agg [(.bool false),(.sl .any [(.int .u32 1)])]),[],[.own 2 [(.agg [(.bool false),(.sl .any [(.int .u32 1)])])],.own 2 [(.agg [(.bool false),(.sl .any [(.int .u32 1)])])]])⟩
theorem x205 : Has tab.get an e205:=Has.of [e204] ⟨x204,trivial⟩ 1000 (by kernel_rfl)
def e206 : Kn:=⟨127,[.fv (.sl .nil [])],[],(.fv (.sl .nil []),[],[])⟩
theorem x206 : Has tab.get an e206:=Has.of [e26] ⟨x26,trivial⟩ 1000 (by kernel_rfl)
def e207 : Kn:=⟨176,[.fv (.sl .any [(.int .u32 1)]),.fv (.sl .any [(.int .u32 1)])],[],(.fv (.int .i64 0),[],[])⟩
theorem x207 : Has tab.get an e207:=Has.of [] trivial 1000 (by kernel_rfl)
def e208 : Kn:=⟨179,[.fv (.sl .any [(.int .u32 1)]),.fv (.int .u32 1)],[],(.fv (.tup [(.sl .any [(.int .u32 1)]),(.int .u32 0)]),[],[.frz 1 [(.int .u32 1)]])⟩
theorem x208 : Has tab.get an e208:=Has.of [e21] ⟨x21,trivial⟩ 1000 (by kernel_rfl)
def e209 : Kn:=⟨165,[.fv (.sl .full [(.int .u32 0)])],[],(.fv (.sl .any []),[],[])⟩
theorem x209 : Has tab.get an e209:=Has.of [] trivial 1000 (by kernel_rfl)
def e210 : Kn:=⟨156,[.fv (.sl .any [(.int .u32 1)]),.fv (.sl .any [(.int .u32 1)])],[],(.fv (.tup [(.sl .any [(.int .u32 1)]),(.sl .any [])]),[],[])⟩
theorem x210 : Has tab.get an e210:=Has.of [e207,e208,e209] ⟨x207,⟨x208,⟨x209,trivial⟩⟩⟩ 1000 (by kernel_rfl)
def e211 : Kn:=⟨166,[.fv (.agg [(.bool false),(.sl .any [(.int .u32 1)])]),.fv (.agg [(.bool false),(.sl .any [(.int .u32 1)])])],[],(.fv (.tup [(.agg [(.bool false),(.sl .any [(.int .u32 1)])]),(.agg [(.bool false),(.sl .nil [])]),(.int .i64 0)]),[],[.own 2 [(.agg [(.bool false),(.sl .any [(.int .u32 1)])])],.own 2 [(.agg [(.bool false),(.sl .any [(.int .u32 1)])])],.own 2 [(.agg [(.bool false),(.sl .any [(.int .u32 1)])])],.own 2 [(.agg [(.bool false),(.sl .nil [])])]])⟩
theorem x211 : Has tab.get an e211:=Has.of [e22,e210,e59,e62,e55] ⟨x22,⟨x210,⟨x59,⟨x62,⟨x55,trivial⟩⟩⟩⟩⟩ 1000 (by kernel_rfl)
def e212 : Kn:=⟨186,[.fv (.agg [(.bool false),(.sl .any [(.int .u32 1)])]),.ptr (.b 0) 2 0 0],[.own 2 [(.agg [(.bool false),(.sl .any [(.int .u32 1)])])]],(.fv (.agg [(.bool false),(.sl .any [(.int .u32 1)])]),[.own 2 [(.agg [(.bool false),(.sl .any [(.int .u32 1)])])]],[.own 2 [(.agg [(.bool false),(.sl .any [(.int .u32 1)])])],.own 2 [(.agg [(.bool false),(.sl .any [(.int .u32 1)])])],.own 2 [(.agg [(.bool false),(.sl .any [(.int .u32 1)])])],.own 2 [(.agg [(.bool false),(.sl .nil [])])]])⟩
theorem x212 : Has tab.get an e212:=Has.of [e211] ⟨x211,trivial⟩ 1000 (by kernel_rfl)
def e213 : Kn:=⟨132,[.fv (.sl .any [(.agg [(.bool false),(.sl .any [(.int .u32 1)])])]),.clo (.func 186) 0 [(.own (.b 0) 2)]],[.own 2 [(.agg [(.bool false),(.sl .any [(.int .u32 1)])])]],(.ref (.l 0) 2 0 1 true,[.own 2 [(.agg [(.bool false),(.sl .any [(.int .u32 1)])])]],[.own 2 [(.agg [(.bool false),(.sl .any [(.int .u32 1)])])]])⟩
theorem x213 : Has tab.get an e213:=Has.of [e24,e212,e92] ⟨x24,⟨x212,⟨x92,trivial⟩⟩⟩ 1000 (by kernel_rfl)
def e214 : Kn:=⟨158,[.fv (.sl .any [(.agg [(.bool false),(.sl .any [(.int .u32 1)])])]),.fv (.agg [(.bool false),(.sl .any [(.int .u32 1)])])],[],(.fv (.sl .any [(.agg [(.bool false),(.sl .any [(.int .u32 1)])])]),[],[.own 2 [(.agg [(.bool false),(.sl .any [(.int .u32 1)])])]])⟩
theorem x214 : Has tab.get an e214:=Has.of [e213] ⟨x213,trivial⟩ 1000 (by kernel_rfl)
def e215 : Kn:=⟨127,[.fv (.sl .any [(.agg [(.bool false),(.sl .any [(.int .u32 1)])])])],[],(.fv (.sl .any [(.agg [(.bool false),(.sl .any [(.int .u32 1)])])]),[],[.own 2 [(.agg [(.bool false),(.sl .any [(.int .u32 1)])])]])⟩
theorem x215 : Has tab.get an e215:=Has.of [e24,e205,e23,e214] ⟨x24,⟨x205,⟨x23,⟨x214,trivial⟩⟩⟩⟩ 1000 (by kernel_rfl)
def e216 : Kn:=⟨133,[.fv (.agg [(.bool false),(.sl .any [(.int .u32 1)])]),.fv (.agg [(.bool false),(.sl .any [(.int .u32 1)])])],[],(.fv (.agg [(.bool false),(.sl .any [(.int .u32 1)])]),[],[.own 2 [(.agg [(.bool false),(.sl .any [(.int .u32 1)])])],.own 2 [(.agg [(.bool false),(.sl .any [(.int .u32 1)])])],.own 2 [(.agg [(.bool false),(.sl .any [(.int .u32 1)])])]])⟩
theorem x216 : Has tab.get an e216:=Has.of [e91] ⟨x91,trivial⟩ 1000 (by kernel_rfl)
def e217 : Kn:=⟨132,[.fv (.sl .any [(.agg [(.bool false),(.sl .any [(.int .u32 1)])])]),.fv (.fn (.func 133) [(.agg [(.bool false),(.sl .any [(.int .u32 1)])])] [])],[],(.ref (.l 0) 2 0 1 true,[],[.own 2 [(.agg [(.bool false),(.sl .any [(.int .u32 1)])])]])⟩
theorem x217 : Has tab.get an e217:=Has.of [e24,e216,e92] ⟨x24,⟨x216,⟨x92,trivial⟩⟩⟩ 1000 (by kernel_rfl)
def e218 : Kn:=⟨86,[.fv (.sl .any [(.agg [(.bool false),(.sl .any [(.int .u32 1)])])]),.fv (.agg [(.bool false),(.sl .any [(.int .u32 1)])])],[],(.fv (.sl .any [(.agg [(.bool false),(.sl .any [(.int .u32 1)])])]),[],[.own 2 [(.agg [(.bool false),(.sl .any [(.int .u32 1)])])]])⟩
theorem x218 : Has tab.get an e218:=Has.of [e217] ⟨x217,trivial⟩ 1000 (by kernel_rfl)
def e219 : Kn:=⟨82,[.fv (.sl .nil []),.fv (.sl .any [(.agg [(.bool false),(.sl .any [(.int .u32 1)])])])],[],(.fv (.sl .any [(.agg [(.bool false),(.sl .any [(.int .u32 1)])])]),[],[.own 2 [(.agg [(.bool false),(.sl .any [(.int .u32 1)])])]])⟩
theorem x219 : Has tab.get an e219:=Has.of [e201,e205,e204,e206,e215,e218] ⟨x201,⟨x205,⟨x204,⟨x206,⟨x215,⟨x218,trivial⟩⟩⟩⟩⟩⟩ 1000 (by kernel_rfl)
def e220 : Kn:=⟨125,[.fv (.agg [(.bool false),(.sl .nil [])]),.fv (.agg [(.bool false),(.sl .nil [])])],[],(.fv (.agg [(.bool false),(.sl .nil [])]),[],[.own 2 [(.agg [(.bool false),(.sl .nil [])])]])⟩
theorem x220 : Has tab.get an e220:=Has.of [e36,e55] ⟨x36,⟨x55,trivial⟩⟩ 1000 (by kernel_rfl)
def e221 : Kn:=⟨126,[.fv (.sl .any [(.agg [(.bool false),(.sl .nil [])]),(.agg [(.bool false),(.sl .any [(.int .u32 1)])])])],[],(.fv (.agg [(.bool false),(.sl .any [(.int .u32 1)])]),[],[.own 2 [(.agg [(.bool false),(.sl .any [(.int .u32 1)])])],.own 2 [(.agg [(.bool false),(.sl .any [(.int .u32 1)])])]])⟩
theorem x221 : Has tab.get an e221:=Has.of [e220,e204] ⟨x220,⟨x204,trivial⟩⟩ 1000 (by kernel_rfl)
def e222 : Kn:=⟨125,[.fv (.agg [(.bool false),(.sl .any [(.int .u32 1)])]),.fv (.agg [(.bool false),(.sl .any [(.int .u32 1)])])],[],(.fv (.agg [(.bool false),(.sl .any [(.int .u32 1)])]),[],[.own 2 [(.agg [(.bool false),(.sl .any [(.int .u32 1)])])]])⟩
theorem x222 : Has tab.get an e222:=Has.of [e22,e210,e62] ⟨x22,⟨x210,⟨x62,trivial⟩⟩⟩ 1000 (by kernel_rfl)
def e223 : Kn:=⟨134,[.fv (.bool false),.fv (.sl .nil [])],[],(.fv (.agg [(.bool false),(.sl .nil [])]),[],[.own 2 [(.agg [(.bool false),(.sl .nil [])])]])⟩
theorem x223 : Has tab.get an e223:=Has.of [e35] ⟨x35,trivial⟩ 1000 (by kernel_rfl)
def e224 : Kn:=⟨166,[.fv (.agg [(.bool false),(.sl .nil [])]),.fv (.agg [(.bool false),(.sl .any [(.int .u32 1)])])],[],(.fv (.tup [(.agg [(.bool false),(.sl .nil [])]),(.agg [(.bool false),(.sl .nil [])]),(.int .i64 0)]),[],[.own 2 [(.agg [(.bool false),(.sl .nil [])])],.own 2 [(.agg [(.bool false),(.sl .any [(.int .u32 1)])])],.own 2 [(.agg [(.bool false),(.sl .nil [])])],.own 2 [(.agg [(.bool false),(.sl .nil [])])]])⟩
theorem x224 : Has tab.get an e224:=Has.of [e22,e36,e203,e51,e59,e223,e55] ⟨x22,⟨x36,⟨x203,⟨x51,⟨x59,⟨x223,⟨x55,trivial⟩⟩⟩⟩⟩⟩⟩ 1000 (by kernel_rfl)
def e225 : Kn:=⟨186,[.fv (.agg [(.bool false),(.sl .nil [])]),.ptr (.b 0) 2 0 0],[.own 2 [(.agg [(.bool false),(.sl .any [(.int .u32 1)])])]],(.fv (.agg [(.bool false),(.sl .nil [])]),[.own 2 [(.agg [(.bool false),(.sl .any [(.int .u32 1)])])]],[.own 2 [(.agg [(.bool false),(.sl .nil [])])],.own 2 [(.agg [(.bool false),(.sl .nil [])])],.own 2 [(.agg [(.bool false),(.sl .nil [])])],.own 2 [(.agg [(.bool false),(.sl .nil [])])]])⟩
theorem x225 : Has tab.get an e225:=Has.of [e224] ⟨x224,trivial⟩ 1000 (by kernel_rfl)
def e226 : Kn:=⟨132,[.fv (.sl .any [(.agg [(.bool false),(.sl .nil [])]),(.agg [(.bool false),(.sl .any [(.int .u32 1)])])]),.clo (.func 186) 0 [(.own (.b 0) 2)]],[.own 2 [(.agg [(.bool false),(.sl .any [(.int .u32 1)])])]],(.ref (.l 0) 2 0 2 true,[.own 2 [(.agg [(.bool false),(.sl .any [(.int .u32 1)])])]],[.own 2 [(.agg [(.bool false),(.sl .nil [])]),(.agg [(.bool false),(.sl .any [(.int .u32 1)])])]])⟩
theorem x226 : Has tab.get an e226:=Has.of [e33,e225,e212,e66] ⟨x33,⟨x225,⟨x212,⟨x66,trivial⟩⟩⟩⟩ 1000 (by kernel_rfl)
def e227 : Kn:=⟨158,[.fv (.sl .any [(.agg [(.bool false),(.sl .nil [])]),(.agg [(.bool false),(.sl .any [(.int .u32 1)])])]),.fv (.agg [(.bool false),(.sl .any [(.int .u32 1)])])],[],(.fv (.sl .any [(.agg [(.bool false),(.sl .nil [])]),(.agg [(.bool false),(.sl .any [(.int .u32 1)])])]),[],[.own 2 [(.agg [(.bool false),(.sl .any [(.int .u32 1)])])]])⟩
theorem x227 : Has tab.get an e227:=Has.of [e226] ⟨x226,trivial⟩ 1000 (by kernel_rfl)
def e228 : Kn:=⟨127,[.fv (.sl .any [(.agg [(.bool false),(.sl .nil [])]),(.agg [(.bool false),(.sl .any [(.int .u32 1)])])])],[],(.fv (.sl .any [(.agg [(.bool false),(.sl .nil [])]),(.agg [(.bool false),(.sl .any [(.int .u32 1)])])]),[],[.own 2 [(.agg [(.bool false),(.sl .any [(.int .u32 1)])])]])⟩
theorem x228 : Has tab.get an e228:=Has.of [e33,e221,e23,e227] ⟨x33,⟨x221,⟨x23,⟨x227,trivial⟩⟩⟩⟩ 1000 (by kernel_rfl)
def e229 : Kn:=⟨130,[.fv (.sl .full [(.agg [(.bool false),(.sl .any [(.int .u32 1)])])])],[],(.fv (.sl .any [(.agg [(.bool false),(.sl .any [(.int .u32 1)])])]),[],[])⟩
theorem x229 : Has tab.get an e229:=Has.of [e23] ⟨x23,trivial⟩ 1000 (by kernel_rfl)
def e230 : Kn:=⟨132,[.fv (.sl .full [(.agg [(.bool false),(.sl .any [(.int .u32 1)])])]),.fv (.fn (.func 131) [] [])],[],(.ref (.l 0) 2 0 1 true,[],[.own 2 [(.agg [(.bool false),(.sl .any [(.int .u32 1)])])]])⟩
theorem x230 : Has tab.get an e230:=Has.of [e229,e65,e92] ⟨x229,⟨x65,⟨x92,trivial⟩⟩⟩ 1000 (by kernel_rfl)
def e231 : Kn:=⟨93,[.fv (.sl .full [(.agg [(.bool false),(.sl .any [(.int .u32 1)])])])],[],(.ref (.l 0) 2 0 1 true,[],[.own 2 [(.agg [(.bool false),(.sl .any [(.int .u32 1)])])]])⟩
theorem x231 : Has tab.get an e231:=Has.of [e230] ⟨x230,trivial⟩ 1000 (by kernel_rfl)
def e232 : Kn:=⟨82,[.fv (.sl .any [(.agg [(.bool false),(.sl .any [(.int .u32 1)])])]),.fv (.sl .any [(.agg [(.bool false),(.sl .nil [])]),(.agg [(.bool false),(.sl .any [(.int .u32 1)])])])],[],(.fv (.sl .any [(.agg [(.bool false),(.sl .any [(.int .u32 1)])])]),[],[.own 2 [(.agg [(.bool false),(.sl .any [(.int .u32 1)])])]])⟩
theorem x232 : Has tab.get an e232:=Has.of [e205,e221,e222,e215,e228,e231] ⟨x205,⟨x221,⟨x222,⟨x215,⟨x228,⟨x231,trivial⟩⟩⟩⟩⟩⟩ 1000 (by kernel_rfl)
def e233 : Kn:=⟨28,[.fv (.sl .any [(.sl .any [(.agg [(.bool false),(.sl .any [(.int .u32 1)])])]),(.sl .any [(.agg [(.bool false),(.sl .nil [])]),(.agg [(.bool false),(.sl .any [(.int .u32 1)])])])])],[],(.fv (.sl .any [(.agg [(.bool false),(.sl .any [(.int .u32 1)])])]),[],[])⟩
theorem x233 : Has tab.get an e233:=Has.of [e219,e232] ⟨x219,⟨x232,trivial⟩⟩ 1000 (by kernel_rfl)
def e234 : Kn:=⟨85,[.fv (.sl .any [(.agg [(.bool false),(.sl .nil [])]),(.agg [(.bool false),(.sl .any [(.int .u32 1)])])])],[],(.fv (.agg [(.bool false),(.sl .any [(.int .u32 1)])]),[],[.own 2 [(.agg [(.bool false),(.sl .any [(.int .u32 1)])])]])⟩
theorem x234 : Has tab.get an e234:=Has.of [e33,e65] ⟨x33,⟨x65,trivial⟩⟩ 1000 (by kernel_rfl)
def e235 : Kn:=⟨84,[.fv (.agg [(.bool false),(.sl .nil [])])],[],(.fv (.int .i64 0),[],[.own 2 [(.agg [(.bool false),(.sl .nil [])])]])⟩
theorem x235 : Has tab.get an e235:=Has.of [e36] ⟨x36,trivial⟩ 1000 (by kernel_rfl)
def e236 : Kn:=⟨167,[.fv (.agg [(.bool false),(.sl .any [(.int .u32 1)])]),.fv (.int .i64 0)],[],(.ref (.l 2) 2 0 1 true,[],[.own 2 [(.agg [(.bool false),(.sl .any [(.int .u32 1)])])],.dead,.own 2 [(.agg [(.bool false),(.sl .any [(.int .u32 1)])])]])⟩
theorem x236 : Has tab.get an e236:=Has.of [] trivial 1000 (by kernel_rfl)
def e237 : Kn:=⟨178,[.fv (.sl .any [(.int .u32 1)]),.fv (.sl .any [(.int .u32 1)])],[],(.fv (.sl .any []),[],[.frz 1 [(.int .u32 0)]])⟩
theorem x237 : Has tab.get an e237:=Has.of [e52] ⟨x52,trivial⟩ 1000 (by kernel_rfl)
def e238 : Kn:=⟨151,[.fv (.agg [(.bool false),(.sl .any [(.int .u32 1)])]),.fv (.agg [(.bool false),(.sl .any [(.int .u32 1)])]),.fv (.bool true)],[],(.fv (.agg [(.bool false),(.sl .nil [])]),[],[.own 2 [(.agg [(.bool false),(.sl .any [(.int .u32 1)])])],.own 2 [(.agg [(.bool false),(.sl .any [(.int .u32 1)])])],.own 2 [(.agg [(.bool false),(.sl .nil [])])]])⟩
theorem x238 : Has tab.get an e238:=Has.of [e22,e59,e207,e237,e55] ⟨x22,⟨x59,⟨x207,⟨x237,⟨x55,trivial⟩⟩⟩⟩⟩ 1000 (by kernel_rfl)
def e239 : Kn:=⟨153,[.fv (.agg [(.bool false),(.sl .any [(.int .u32 1)])]),.fv (.agg [(.bool false),(.sl .any [(.int .u32 1)])])],[],(.fv (.agg [(.bool false),(.sl .nil [])]),[],[.own 2 [(.agg [(.bool false),(.sl .any [(.int .u32 1)])])],.own 2 [(.agg [(.bool false),(.sl .any [(.int .u32 1)])])],.own 2 [(.agg [(.bool false),(.sl .nil [])])]])⟩
theorem x239 : Has tab.get an e239:=Has.of [e238] ⟨x238,trivial⟩ 1000 (by kernel_rfl)
def e240 : Kn:=⟨130,[.ref (.b 0) 2 0 1 true],[.own 2 [(.agg [(.bool false),(.sl .nil [])])]],(.fv (.sl .nil []),[.own 2 [(.agg [(.bool false),(.sl .nil [])])]],[])⟩
theorem x240 : Has tab.get an e240:=Has.of [e235] ⟨x235,trivial⟩ 1000 (by kernel_rfl)
def e241 : Kn:=⟨144,[.fv (.sl .any [(.agg [(.bool false),(.sl .any [(.int .u32 1)])])]),.fv (.sl .any [(.agg [(.bool false),(.sl .any [(.int .u32 1)])])]),.fv (.fn (.func 153) [] [])],[],(.fv (.sl .nil []),[],[.own 2 [(.agg [(.bool false),(.sl .nil [])])]])⟩
theorem x241 : Has tab.get an e241:=Has.of [e24,e102,e239,e240] ⟨x24,⟨x102,⟨x239,⟨x240,trivial⟩⟩⟩⟩ 1000 (by kernel_rfl)
def e242 : Kn:=⟨113,[.fv (.sl .any [(.agg [(.bool false),(.sl .any [(.int .u32 1)])])]),.fv (.sl .any [(.agg [(.bool false),(.sl .any [(.int .u32 1)])])])],[],(.fv (.sl .nil []),[],[])⟩
theorem x242 : Has tab.get an e242:=Has.of [e241] ⟨x241,trivial⟩ 1000 (by kernel_rfl)
def e243 : Kn:=⟨135,[.fv (.sl .any [(.agg [(.bool false),(.sl .any [(.int .u32 1)])])]),.fv (.sl .any [(.agg [(.bool false),(.sl .any [(.int .u32 1)])])])],[],(.fv (.tup [(.sl .any [(.agg [(.bool false),(.sl .any [(.int .u32 1)])])]),(.bool true)]),[],[])⟩
theorem x243 : Has tab.get an e243:=Has.of [e96,e211,e235,e236,e107,e119,e242] ⟨x96,⟨x211,⟨x235,⟨x236,⟨x107,⟨x119,⟨x242,trivial⟩⟩⟩⟩⟩⟩⟩ 1000 (by kernel_rfl)
def e244 : Kn:=⟨88,[.fv (.agg [(.sl .any [(.agg [(.bool false),(.sl .any [(.int .u32 1)])])])]),.fv (.sl .any [(.agg [(.bool false),(.sl .any [(.int .u32 1)])])])],[],(.fv (.sl .any [(.agg [(.bool false),(.sl .any [(.int .u32 1)])])]),[],[.own 1 [(.agg [(.sl .any [(.agg [(.bool false),(.sl .any [(.int .u32 1)])])])])]])⟩
theorem x244 : Has tab.get an e244:=Has.of [e243] ⟨x243,trivial⟩ 1000 (by kernel_rfl)
def e245 : Kn:=⟨167,[.fv (.agg [(.bool false),(.sl .any [(.int .u32 1)])]),.fv (.int .i64 1)],[],(.ref (.l 2) 2 0 2 true,[],[.own 2 [(.agg [(.bool false),(.sl .any [(.int .u32 1)])])],.dead,.own 2 [(.agg [(.bool false),(.sl .nil [])]),(.agg [(.bool false),(.sl .any [(.int .u32 1)])])]])⟩
theorem x245 : Has tab.get an e245:=Has.of [] trivial 1000 (by kernel_rfl)
def e246 : Kn:=⟨95,[.fv (.sl .any [(.agg [(.bool false),(.sl .nil [])]),(.agg [(.bool false),(.sl .any [(.int .u32 1)])])]),.fv (.sl .any [(.agg [(.bool false),(.sl .any [(.int .u32 1)])])])],[],(.ref (.l 0) 2 0 2 true,[],[.own 2 [(.agg [(.bool false),(.sl .nil [])]),(.agg [(.bool false),(.sl .any [(.int .u32 1)])])]])⟩
theorem x246 : Has tab.get an e246:=Has.of [e33,e24,e235,e23,e91,e105,e66] ⟨x33,⟨x24,⟨x235,⟨x23,⟨x91,⟨x105,⟨x66,trivial⟩⟩⟩⟩⟩⟩⟩ 1000 (by kernel_rfl)
def e247 : Kn:=⟨176,[.fv (.sl .any []),.fv (.sl .any [])],[],(.fv (.int .i64 0),[],[])⟩
theorem x247 : Has tab.get an e247:=Has.of [] trivial 1000 (by kernel_rfl)
def e248 : Kn:=⟨178,[.fv (.sl .any []),.fv (.sl .any [])],[],(.fv (.sl .any []),[],[.frz 1 []])⟩
theorem x248 : Has tab.get an e248:=Has.of [e54] ⟨x54,trivial⟩ 1000 (by kernel_rfl)
def e249 : Kn:=⟨151,[.fv (.agg [(.bool false),(.sl .nil [])]),.fv (.agg [(.bool false),(.sl .nil [])]),.fv (.bool true)],[],(.fv (.agg [(.bool false),(.sl .nil [])]),[],[.own 2 [(.agg [(.bool false),(.sl .nil [])])],.own 2 [(.agg [(.bool false),(.sl .nil [])])],.own 2 [(.agg [(.bool false),(.sl .nil [])])]])⟩
theorem x249 : Has tab.get an e249:=Has.of [e36,e51,e247,e248,e55] ⟨x36,⟨x51,⟨x247,⟨x248,⟨x55,trivial⟩⟩⟩⟩⟩ 1000 (by kernel_rfl)
def e250 : Kn:=⟨153,[.fv (.agg [(.bool false),(.sl .nil [])]),.fv (.agg [(.bool false),(.sl .nil [])])],[],(.fv (.agg [(.bool false),(.sl .nil [])]),[],[.own 2 [(.agg [(.bool false),(.sl .nil [])])],.own 2 [(.agg [(.bool false),(.sl .nil [])])],.own 2 [(.agg [(.bool false),(.sl .nil [])])]])⟩
theorem x250 : Has tab.get an e250:=Has.of [e249] ⟨x249,trivial⟩ 1000 (by kernel_rfl)
def e251 : Kn:=⟨130,[.ref (.b 0) 2 0 2 true],[.own 2 [(.agg [(.bool false),(.sl .nil [])]),(.agg [(.bool false),(.sl .nil [])])]],(.fv (.sl .nil []),[.own 2 [(.agg [(.bool false),(.sl .nil [])]),(.agg [(.bool false),(.sl .nil [])])]],[])⟩
theorem x251 : Has tab.get an e251:=Has.of [e235] ⟨x235,trivial⟩ 1000 (by kernel_rfl)
def e252 : Kn:=⟨144,[.fv (.sl .any [(.agg [(.bool false),(.sl .nil [])]),(.agg [(.bool false),(.sl .any [(.int .u32 1)])])]),.fv (.sl .any [(.agg [(.bool false),(.sl .nil [])]),(.agg [(.bool false),(.sl .any [(.int .u32 1)])])]),.fv (.fn (.func 153) [] [])],[],(.fv (.sl .nil []),[],[.own 2 [(.agg [(.bool false),(.sl .nil [])]),(.agg [(.bool false),(.sl .nil [])])]])⟩
theorem x252 : Has tab.get an e252:=Has.of [e33,e110,e250,e111,e239,e251] ⟨x33,⟨x110,⟨x250,⟨x111,⟨x239,⟨x251,trivial⟩⟩⟩⟩⟩⟩ 1000 (by kernel_rfl)
def e253 : Kn:=⟨113,[.fv (.sl .any [(.agg [(.bool false),(.sl .nil [])]),(.agg [(.bool false),(.sl .any [(.int .u32 1)])])]),.fv (.sl .any [(.agg [(.bool false),(.sl .nil [])]),(.agg [(.bool false),(.sl .any [(.int .u32 1)])])])],[],(.fv (.sl .nil []),[],[])⟩
theorem x253 : Has tab.get an e253:=Has.of [e252] ⟨x252,trivial⟩ 1000 (by kernel_rfl)
def e254 : Kn:=⟨135,[.fv (.sl .any [(.agg [(.bool false),(.sl .nil [])]),(.agg [(.bool false),(.sl .any [(.int .u32 1)])])]),.fv (.sl .any [(.agg [(.bool false),(.sl .any [(.int .u32 1)])])])],[],(.fv (.tup [(.sl .any [(.agg [(.bool false),(.sl .nil [])]),(.agg [(.bool false),(.sl .any [(.int .u32 1)])])]),(.bool true)]),[],[])⟩
theorem x254 : Has tab.get an e254:=Has.of [e68,e96,e211,e235,e245,e133,e246,e253] ⟨x68,⟨x96,⟨x211,⟨x235,⟨x245,⟨x133,⟨x246,⟨x253,trivial⟩⟩⟩⟩⟩⟩⟩⟩ 1000 (by kernel_rfl)
def e255 : Kn:=⟨88,[.fv (.agg [(.sl .any [(.agg [(.bool false),(.sl .any [(.int .u32 1)])])])]),.fv (.sl .any [(.agg [(.bool false),(.sl .nil [])]),(.agg [(.bool false),(.sl .any [(.int .u32 1)])])])],[],(.fv (.sl .any [(.agg [(.bool false),(.sl .nil [])]),(.agg [(.bool false),(.sl .any [(.int .u32 1)])])]),[],[.own 1 [(.agg [(.sl .any [(.agg [(.bool false),(.sl .any [(.int .u32 1)])])])])]])⟩
theorem x255 : Has tab.get an e255:=Has.of [e254] ⟨x254,trivial⟩ 1000 (by kernel_rfl)
def e256 : Kn:=⟨39,[.fv (.sl .any [(.sl .any [(.agg [(.bool false),(.sl .any [(.int .u32 1)])])]),(.sl .any [(.agg [(.bool false),(.sl .nil [])]),(.agg [(.bool false),(.sl .any [(.int .u32 1)])])])]),.fv (.fn (.func 88) [(.agg [(.sl .any [(.agg [(.bool false),(.sl .any [(.int .u32 1)])])])])] [])],[],(.fv (.sl .any [(.sl .any [(.agg [(.bool false),(.sl .any [(.int .u32 1)])])]),(.sl .any [(.agg [(.bool false),(.sl .nil [])]),(.agg [(.bool false),(.sl .any [(.int .u32 1)])])])]),[],[.frz 1 [(.sl .any [(.agg [(.bool false),(.sl .any [(.int .u32 1)])])]),(.sl .any [(.agg [(.bool false),(.sl .nil [])]),(.agg [(.bool false),(.sl .any [(.int .u32 1)])])])]])⟩
theorem x256 : Has tab.get an e256:=Has.of [e115,e96,e244,e68,e255] ⟨x115,⟨x96,⟨x244,⟨x68,⟨x255,trivial⟩⟩⟩⟩⟩ 1000 (by kernel_rfl)
def e257 : Kn:=⟨29,[.fv (.sl .any [(.sl .any [(.agg [(.bool false),(.sl .any [(.int .u32 1)])])]),(.sl .any [(.agg [(.bool false),(.sl .nil [])]),(.agg [(.bool false),(.sl .any [(.int .u32 1)])])])])],[],(.fv (.sl .any [(.sl .any [(.agg [(.bool false),(.sl .any [(.int .u32 1)])])]),(.sl .any [(.agg [(.bool false),(.sl .nil [])]),(.agg [(.bool false),(.sl .any [(.int .u32 1)])])])]),[],[])⟩
theorem x257 : Has tab.get an e257:=Has.of [e115,e233,e234,e23,e256] ⟨x115,⟨x233,⟨x234,⟨x23,⟨x256,trivial⟩⟩⟩⟩⟩ 1000 (by kernel_rfl)
def e258 : Kn:=⟨147,[.fv (.agg [(.bool false),(.sl .any [(.int .u32 1)])]),.fv (.agg [(.bool false),(.sl .any [(.int .u32 1)])])],[],(.fv (.int .i64 0),[],[.own 2 [(.agg [(.bool false),(.sl .any [(.int .u32 1)])])],.own 2 [(.agg [(.bool false),(.sl .any [(.int .u32 1)])])]])⟩
theorem x258 : Has tab.get an e258:=Has.of [e23,e22,e207] ⟨x23,⟨x22,⟨x207,trivial⟩⟩⟩ 1000 (by kernel_rfl)
def e259 : Kn:=⟨100,[.fv (.sl .any [(.agg [(.bool false),(.sl .any [(.int .u32 1)])])]),.fv (.sl .any [(.agg [(.bool false),(.sl .any [(.int .u32 1)])])])],[],(.fv (.bool true),[],[])⟩
theorem x259 : Has tab.get an e259:=Has.of [e24,e258] ⟨x24,⟨x258,trivial⟩⟩ 1000 (by kernel_rfl)
def e260 : Kn:=⟨147,[.fv (.agg [(.bool false),(.sl .nil [])]),.fv (.agg [(.bool false),(.sl .nil [])])],[],(.fv (.int .i64 0),[],[.own 2 [(.agg [(.bool false),(.sl .nil [])])],.own 2 [(.agg [(.bool false),(.sl .nil [])])]])⟩
theorem x260 : Has tab.get an e260:=Has.of [e235,e36,e247] ⟨x235,⟨x36,⟨x247,trivial⟩⟩⟩ 1000 (by kernel_rfl)
def e261 : Kn:=⟨100,[.fv (.sl .any [(.agg [(.bool false),(.sl .nil [])]),(.agg [(.bool false),(.sl .any [(.int .u32 1)])])]),.fv (.sl .any [(.agg [(.bool false),(.sl .nil [])]),(.agg [(.bool false),(.sl .any [(.int .u32 1)])])])],[],(.fv (.bool true),[],[])⟩
theorem x261 : Has tab.get an e261:=Has.of [e33,e260,e258] ⟨x33,⟨x260,⟨x258,trivial⟩⟩⟩ 1000 (by kernel_rfl)
def e262 : Kn:=⟨38,[.fv (.sl .any [(.sl .any [(.agg [(.bool false),(.sl .any [(.int .u32 1)])])]),(.sl .any [(.agg [(.bool false),(.sl .nil [])]),(.agg [(.bool false),(.sl .any [(.int .u32 1)])])])]),.fv (.sl .any [(.sl .any [(.agg [(.bool false),(.sl .any [(.int .u32 1)])])]),(.sl .any [(.agg [(.bool false),(.sl .nil [])]),(.agg [(.bool false),(.sl .any [(.int .u32 1)])])])])],[],(.fv (.bool true),[],[])⟩
theorem x262 : Has tab.get an e262:=Has.of [e115,e259,e261] ⟨x115,⟨x259,⟨x261,trivial⟩⟩⟩ 1000 (by kernel_rfl)
def e263 : Kn:=⟨14,[],[],(.fv (.bool true),[],[])⟩
theorem x263 : Has tab.get an e263:=Has.of [e0,e5,e11,e15,e20,e139,e152,e154,e155,e199,e200,e257,e262,e83] ⟨x0,⟨x5,⟨x11,⟨x15,⟨x20,⟨x139,⟨x152,⟨x154,⟨x155,⟨x199,⟨x200,⟨x257,⟨x262,⟨x83,trivial⟩⟩⟩⟩⟩⟩⟩⟩⟩⟩⟩⟩⟩⟩ 1000 (by kernel_rfl)
end Go.Proofs.YtklelbidjcealaaGreat
namespace Go.Proofs.YtklelbidjcealaaGreat
open Go Go.Ab
theorem Begun_ok : ret tab.get an 14 [] = some (.bool true) := by
  have h : lim tab.get an 14 [] [] = some (.fv (.bool true), [], []) := lim_has x263
  simp [ret, h, toFV]
theorem nPoly_lims {k : Nat} {zs : List Int} (h : PBd k zs) (hk : Fair k) : LimP (nPoly zs) := fun t ps e i hi => by
  injection e with _ e
  subst e
  have hi' : i < zs.length := by simpa using hi
  rw [atF_map hi']
  intro b t xs e
  injection e with e
  injection e with e1 e2
  injection e2 with e2 _
  injection e2 with _ e3
  have := congrArg List.length e3
  simp at this
  have hb := (h i).len
  omega
theorem cells_rInt (z : Int) : FV.cells (rInt z) = [.bool (decide (z < 0)), .sl .full (i64s (digs B16 z.natAbs))] := rfl
theorem OreNew_ok {alg : Int} {q p : FV} (ha1 : -9223372036854775808 ≤ alg) (ha2 : alg ≤ 9223372036854775807) (hq : RawI q) (hp : RawP p) :
    ret tab.get an 10 [.int .i64 alg, q, p] = some (.bool true) := by
  have rb := Begun_ok
  have aq : Agg 2 q := by obtain ⟨b, xs, rfl, _⟩ := hq; exact agg_two _ _
  obtain ⟨t, c, z, r1', hc, hz, hlc⟩ := Cut3_I hq (m := 1) (by omega)
  have r1 : ret tab.get an 26 [.sl .full [q], .int .i64 1, .int .i64 1] = some (.sl t [c]) := r1'
  have r2 : ret tab.get an 43 [c] = some (rInt z) := From_ok hc hlc
  have r3 : ret tab.get an 45 [rInt z] = some (nInt z) := To_ok (rInt_R z) hz (by omega)
  have ac := hc.agg
  have az := agg_rInt z
  have an' := agg_nInt z
  have r4 := New_ok (nInt_I hz (by omega)) hz (by omega) ha1 ha2
  have r5 := RSign_ok (rInt_R z)
  obtain ⟨p', zs, r6', hp', hlim, hlen, hbd⟩ := Cut3_P hp (n := 7) (m := 3) (by omega) (by omega)
  have r6 : ret tab.get an 26 [p, .int .i64 7, .int .i64 3] = some p' := r6'
  obtain ⟨y0, r7, hy0⟩ := RPFrom_ok hp' (by omega) hlim
  have hbt := hbd.trim
  have hlt : (ptrim zs).length ≤ 7 := by have := ptrim_len zs; omega
  obtain ⟨tp, pps, ep⟩ := hp'.one
  by_cases hA : alg < 1 ∨ alg > 3
  · have c1 : ¬ alg = 1 := by omega
    have c2 : ¬ alg = 2 := by omega
    have c3 : ¬ alg = 3 := by omega
    rw [if_neg (by omega), if_neg (by omega)] at r4
    obtain ⟨pp, rfl, _⟩ := hp
    subst ep
    refine ret_eq (fn := i10) rfl rfl ?_
    simp -dsimp only [i10]
    by_cases c4 : alg < 1
    · simp -dsimp (disch := first | omega | assumption | apply agg_two | apply agg_nInt | apply agg_rInt | (simp only [J1,J2,J3,J4,J5,J6,J7,J8]; omega)) only [i10, ↓i10d0t, i10d0, ↓i10d1t, i10d1, ↓i10d2t, i10d2, go_sem,↓reduceIte,reduceCtorEq,Nat.reduceEqDiff,Nat.reduceAdd,Nat.reduceSub,Nat.reduceMul,Nat.reduceLT,Nat.reduceLeDiff,Nat.reduceBEq,Nat.reduceBNe,Int.reduceLT,Int.reduceLE,Int.reduceEq,Int.reduceNeg,Int.reduceAdd,Int.reduceSub,Int.reduceMul,Int.reduceToNat,Int.reducePow,Nat.reducePow, rb, r1, r2, r3, r4, r6, c4]
    · have c5 : alg > 3 := by omega
      simp -dsimp (disch := first | omega | assumption | apply agg_two | apply agg_nInt | apply agg_rInt | (simp only [J1,J2,J3,J4,J5,J6,J7,J8]; omega)) only [i10, ↓i10d0t, i10d0, ↓i10d1t, i10d1, ↓i10d2t, i10d2, go_sem,↓reduceIte,reduceCtorEq,Nat.reduceEqDiff,Nat.reduceAdd,Nat.reduceSub,Nat.reduceMul,Nat.reduceLT,Nat.reduceLeDiff,Nat.reduceBEq,Nat.reduceBNe,Int.reduceLT,Int.reduceLE,Int.reduceEq,Int.reduceNeg,Int.reduceAdd,Int.reduceSub,Int.reduceMul,Int.reduceToNat,Int.reducePow,Nat.reducePow, rb, r1, r2, r3, r4, r6, c4, c5]
  · by_cases hB : alg = 3 ∧ z = 0
    · obtain ⟨rfl, rfl⟩ := hB
      rw [if_neg (by omega), if_pos rfl, if_pos rfl] at r4
      obtain ⟨pp, rfl, _⟩ := hp
      subst ep
      refine ret_eq (fn := i10) rfl rfl ?_
      simp -dsimp only [i10]
      simp -dsimp (disch := first | omega | assumption | apply agg_two | apply agg_nInt | apply agg_rInt | (simp only [J1,J2,J3,J4,J5,J6,J7,J8]; omega)) only [i10, ↓i10d0t, i10d0, ↓i10d1t, i10d1, ↓i10d2t, i10d2, go_sem,↓reduceIte,reduceCtorEq,Nat.reduceEqDiff,Nat.reduceAdd,Nat.reduceSub,Nat.reduceMul,Nat.reduceLT,Nat.reduceLeDiff,Nat.reduceBEq,Nat.reduceBNe,Int.reduceLT,Int.reduceLE,Int.reduceEq,Int.reduceNeg,Int.reduceAdd,Int.reduceSub,Int.reduceMul,Int.reduceToNat,Int.reducePow,Nat.reducePow, rb, r1, r2, r3, r4, r5, r6, Int.sign_zero]
    · have core : ∀ (qq : Int) (tt : Tag), Bd 32 qq → (alg = 3 → qq ≠ 0) →
          (∃ (u1 : Tag) (v1 : List FV) (u2 : Tag) (v2 : List FV), ret tab.get an 47 [mkRule alg qq, p'] = some (nPoly (sig alg qq zs)) ∧ ret tab.get an 48 [refR alg qq tt, y0] = some (.sl u1 v1) ∧ ret tab.get an 30 [nPoly (sig alg qq zs), .sl u1 v1] = some (.bool true) ∧
            ret tab.get an 49 [mkRule alg qq, p'] = some (nPoly (del alg zs)) ∧ ret tab.get an 50 [refR alg qq tt, y0] = some (.sl u2 v2) ∧ ret tab.get an 30 [nPoly (del alg zs), .sl u2 v2] = some (.bool true)) ∧
          ret tab.get an 51 [mkRule alg qq] = some (.int .i64 alg) ∧ ret tab.get an 53 [mkRule alg qq] = some (nInt qq) ∧ ret tab.get an 52 [nInt qq, .agg [.bool (decide (qq < 0)), .sl tt (i64s (digs B16 qq.natAbs))]] = some (.bool true) := by
        intro qq tt hqq q0
        have ha : alg = 1 ∨ alg = 2 ∨ alg = 3 := by omega
        have hm : zs.length * 32 ≤ 7 * 32 := Nat.mul_le_mul_right _ hlen
        have hm2 : (ptrim zs).length * (32 + (ptrim zs).length + 1) ≤ 7 * 40 := Nat.mul_le_mul hlt (by omega)
        have s1 := Sigma_ok (alg := alg) hp' (by omega) hbd hqq q0 ha (by omega)
        obtain ⟨y1, s2, z1⟩ := RSigma_ok (t := tt) hy0 (by omega) hbt hqq (by omega) q0 (by omega)
        obtain ⟨y2, s4, z2⟩ := RDelta_ok (alg := alg) (q := qq) (t := tt) hy0 (by omega) hbt (by omega)
        have s3 := Delta_ok (alg := alg) (q := qq) hp' (by omega) hbd (by omega)
        have b1 := (rsig_bd (alg := alg) hbt hqq (by omega)).mono (k := 1000) (by omega)
        have l1 := rsig_len alg qq (ptrim zs)
        have b2 := (del_bd alg (by omega) hbd).mono (k := 1000) (by omega)
        have l2 := del_len alg zs
        rw [sig_rsig ha q0] at s1 ⊢
        rw [del_trim] at z2
        have i1 := RPIs_ok (nPoly_NP _) z1 (by omega) (by omega) b1 b1 (by omega)
        have i2 := RPIs_ok (nPoly_NP _) z2 (by omega) (by omega) b2 b2 (by omega)
        rw [decide_eq_true rfl] at i1 i2
        have i3 := RIs_ok (nInt_NI qq) (⟨tt, rfl⟩ : IsR (.agg [.bool (decide (qq < 0)), .sl tt (i64s (digs B16 qq.natAbs))]) qq) hqq hqq (by omega)
        rw [decide_eq_true rfl] at i3
        obtain ⟨u1, v1, rfl, _⟩ := z1
        obtain ⟨u2, v2, rfl, _⟩ := z2
        exact ⟨⟨u1, v1, u2, v2, s1, s2, i1, s3, s4, i2⟩, Algebra_ok, RuleQ_ok hqq (by omega), i3⟩
      by_cases h3 : alg = 3
      · subst h3
        have z0 : z ≠ 0 := fun h => hB ⟨rfl, h⟩
        have zs0 : ¬ z.sign = 0 := by rw [Int.sign_eq_zero_iff_zero]; exact z0
        rw [if_neg (by omega), if_pos rfl, if_neg z0] at r4
        obtain ⟨⟨u1, v1, u2, v2, s1, s2, i1, s3, s4, i2⟩, s5, s6, i3⟩ := core z .full hz (fun _ => z0)
        obtain ⟨pp, rfl, _⟩ := hp
        subst ep
        obtain ⟨t0, q0, rfl, _⟩ := hy0
        unfold mkRule refR at *
        refine ret_eq (fn := i10) rfl rfl ?_
        simp -dsimp only [i10]
        have n1 := one_nPoly (sig 3 z zs)
        have n2 := one_nPoly (del 3 zs)
        have cr := cells_rInt z
        have r3' := r3
        have r5' := r5
        unfold rInt at r3' r5'
        simp -dsimp (disch := first | omega | assumption | apply agg_two | apply agg_nInt | apply agg_rInt | (simp only [J1,J2,J3,J4,J5,J6,J7,J8]; omega)) only [i10, ↓i10d0t, i10d0, ↓i10d1t, i10d1, ↓i10d2t, i10d2, go_sem,↓reduceIte,reduceCtorEq,Nat.reduceEqDiff,Nat.reduceAdd,Nat.reduceSub,Nat.reduceMul,Nat.reduceLT,Nat.reduceLeDiff,Nat.reduceBEq,Nat.reduceBNe,Int.reduceLT,Int.reduceLE,Int.reduceEq,Int.reduceNeg,Int.reduceAdd,Int.reduceSub,Int.reduceMul,Int.reduceToNat,Int.reducePow,Nat.reducePow, rb, r1, r2, r3, r4, r5, r6, r7, zs0, s1, s2, i1, s3, s4, i2, s5, s6, i3, cr, n1, n2, cutR3, r3', r5']
      · have hc12 : alg = 1 ∨ alg = 2 := by omega
        rw [if_pos hc12] at r4
        have d0 : i64s (digs B16 (0 : Int).natAbs) = [] := by simp [digs_zero]
        obtain ⟨⟨u1, v1, u2, v2, s1, s2, i1, s3, s4, i2⟩, s5, s6, i3⟩ := core 0 .nil (Bd.zero 32) (fun h => absurd h h3)
        obtain ⟨pp, rfl, _⟩ := hp
        subst ep
        obtain ⟨t0, q0, rfl, _⟩ := hy0
        have n1 := one_nPoly (sig alg 0 zs)
        have n2 := one_nPoly (del alg zs)
        have c4 : ¬ alg < 1 := by omega
        have c5 : ¬ alg > 3 := by omega
        have d1 : decide ((0 : Int) < 0) = false := by decide
        unfold refR at *
        rw [d0, d1] at s2 s4 i3
        unfold mkRule at *
        rw [d1] at s1 s3 s5 s6 r4
        refine ret_eq (fn := i10) rfl rfl ?_
        simp -dsimp only [i10]
        simp -dsimp (disch := first | omega | assumption | apply agg_two | apply agg_nInt | apply agg_rInt | (simp only [J1,J2,J3,J4,J5,J6,J7,J8]; omega)) only [i10, ↓i10d0t, i10d0, ↓i10d1t, i10d1, ↓i10d2t, i10d2, go_sem,↓reduceIte,reduceCtorEq,Nat.reduceEqDiff,Nat.reduceAdd,Nat.reduceSub,Nat.reduceMul,Nat.reduceLT,Nat.reduceLeDiff,Nat.reduceBEq,Nat.reduceBNe,Int.reduceLT,Int.reduceLE,Int.reduceEq,Int.reduceNeg,Int.reduceAdd,Int.reduceSub,Int.reduceMul,Int.reduceToNat,Int.reducePow,Nat.reducePow, rb, r1, r2, r3, r4, r5, r6, r7, h3, c4, c5, s1, s2, i1, s3, s4, i2, s5, s6, i3, n1, n2, cutR3]
end Go.Proofs.YtklelbidjcealaaGreat
/- Closed facts of the program for the open laws: its types, its order, what is readable. Looked up, no further condition. -/
namespace Go.Proofs.YtklelbidjcealaaGreat
open Go Go.ChangeShapes Go.WideShapes Go.ChangeAt Go.RowKit Go.Ab
theorem Tryz.own : ownKnob Tryz.prog.godebug = none := by kernel_rfl
theorem Tryz.mixed : Tryz.prog.follows .mixedOrders = true := by kernel_rfl
theorem Tryz.laidOut : laidOutB Tryz.prog = true := by kernel_rfl
theorem Tryz.ty_i64 : tyI64 Tryz.prog 3 = true := by kernel_rfl
theorem Tryz.ty_Int : tyInt Tryz.prog 24 = true := by kernel_rfl
theorem Tryz.ty_Poly : tyPoly Tryz.prog 54 = true := by kernel_rfl
theorem Tryz.ty_Op : tyOp Tryz.prog 26 = true := by kernel_rfl
theorem Tryz.rd : ∀ t ∈ [3, 24, 26, 54], Tryz.prog.readableRec t = true ∧ t < Tryz.prog.types.size := by
  have h : ([3, 24, 26, 54].all fun t => Tryz.prog.readableRec t && decide (t < Tryz.prog.types.size)) = true := by kernel_rfl
  intro t ht
  have := List.all_eq_true.1 h t ht
  simpa using this
end Go.Proofs.YtklelbidjcealaaGreat
