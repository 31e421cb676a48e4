/- A part of the proof: an evaluator of programs, its soundness, and what it says of the functions in hand. It holds without further conditions. -/
import Derived.Test.YtklelbidjcealaaGreatG1
set_option linter.unusedVariables false
set_option linter.unusedSimpArgs false
namespace Go.Ab
def seqD (call : Disp) : List IStep → St → Option St
  | [], st => some st
  | s :: r, st => if s.isS then (evA call s.op (opd st.env) st.B st.L).bind fun x => seqD call r ⟨putO st.env s.dst x.1, x.2.1, x.2.2⟩
    else match s.guard with
      | none => (evQ call s.op (opd st.env) st.B st.L).bind fun v => seqD call r ⟨putO st.env s.dst v, st.B, st.L⟩
      | some (t, want) => match st.env.get t with
        | .fv (.bool b) => if b = want then (evQ call s.op (opd st.env) st.B st.L).bind fun v => seqD call r ⟨putO st.env s.dst v, st.B, st.L⟩ else seqD call r ⟨putO st.env s.dst .unk, st.B, st.L⟩
        | _ => none
theorem hide_none {h : Id → Bool} (hh : ∀ i, h i = false) (B L : List Ent) : hideBy h B L = (B, L) := by
  simp only [hideBy, hh, Bool.false_eq_true, if_false]
  congr 1
  · exact List.mapIdx_eq_iff.2 fun i => by simp
  · exact List.mapIdx_eq_iff.2 fun i => by simp
theorem okIds_none (cl : List (List Nat)) (j : Nat) (v : SV) : okIds cl [] j v = true := by
  simp only [okIds, hidFor, List.any_nil, Bool.not_false]
  rw [List.all_eq_true]
  intro x _
  cases x <;> rfl
theorem mask_none (cl : List (List Nat)) (j : Nat) (L : List Ent) : maskL (hidFor cl [] j) L = L := by
  simp only [maskL, hidFor, List.any_nil, Bool.false_eq_true, if_false]
  exact List.mapIdx_eq_iff.2 fun i => by simp
theorem rest_none (cl : List (List Nat)) (j : Nat) (L L' : List Ent) : restL (hidFor cl [] j) L L' = L' := by
  simp only [restL, hidFor, List.any_nil, Bool.false_eq_true, if_false]
  exact List.mapIdx_eq_iff.2 fun i => by simp
theorem turn_none {cl : List (List Nat)} {all : List IStep} {e0 : Env} {i : Nat} {s : IStep} (h : okQ cl all i s = true) (id : Id) : mayTurn cl all e0 i id = false := by
  simp only [okQ, Bool.and_eq_true, List.all_eq_true] at h
  simp only [mayTurn]
  rw [List.any_eq_false]
  intro j hj
  have := h.2 j hj
  cases hs : all[j]? with
  | none => rw [hs] at this; cases this
  | some t =>
    rw [hs] at this
    simp only [Bool.or_eq_true, Bool.not_eq_true'] at this
    rcases this with (h1 | h1) | h1
    · simp [h1]
    · simp [h1]
    · simp [tgt, h1]
theorem allocs_none : ∀ (i n : Nat) (ss : List IStep), (∀ s ∈ ss, s.isA = false) → allocsAt i n ss = []
  | _, _, [], _ => rfl
  | i, n, s :: r, h => by
    simp only [allocsAt, h s (by simp), Bool.false_eq_true, if_false]
    exact allocs_none _ _ r fun t ht => h t (by simp [ht])
theorem ents_none : ∀ (ss : List IStep), (∀ s ∈ ss, s.isA = false) → drawEnts ss = []
  | [], _ => rfl
  | s :: r, h => by
    simp only [drawEnts, h s (by simp), Bool.false_eq_true, if_false]
    exact ents_none r fun t ht => h t (by simp [ht])
theorem drawA_none : ∀ (n : Nat) (ss : List IStep) (e : Env), (∀ s ∈ ss, s.isA = false) → drawA n ss e = e
  | _, [], _, _ => rfl
  | n, s :: r, e, h => by
    simp only [drawA, h s (by simp), Bool.false_eq_true, if_false]
    exact drawA_none _ r e fun t ht => h t (by simp [ht])
theorem okAllocs_none : ∀ (ss : List IStep), (∀ s ∈ ss, s.isA = false) → okAllocs ss = true
  | [], _ => rfl
  | s :: r, h => by
    simp only [okAllocs, h s (by simp), Bool.not_false, Bool.true_or, Bool.true_and]
    exact okAllocs_none r fun t ht => h t (by simp [ht])
theorem okQs_noA (cl : List (List Nat)) (all : List IStep) : ∀ (i : Nat) (ss : List IStep), okQs cl all i ss = true → ∀ s ∈ ss, s.isA = false
  | _, [], _, s, h => by cases h
  | i, t :: r, h, s, hs => by
    simp only [okQs] at h
    split at h
    · rw [List.all_eq_true] at h
      have := h s hs
      simp only [okS, Bool.and_eq_true, Bool.not_eq_true'] at this
      exact this.1.1.1
    · simp only [Bool.and_eq_true] at h
      rcases List.mem_cons.1 hs with rfl | hs
      · have := h.1
        simp only [okQ, Bool.and_eq_true, Bool.not_eq_true'] at this
        exact this.1.1
      · exact okQs_noA cl all (i + 1) r h.2 s hs
theorem drawS_only {call : Disp} {cl : List (List Nat)} {all : List IStep} {e0 : Env} : ∀ (j : Nat) (ss : List IStep) (st : St), (∀ s ∈ ss, okS all s = true) → drawS call cl [] all e0 j ss st = seqD call ss st
  | _, [], _, _ => rfl
  | j, s :: r, st, h => by
    have hs := h s (by simp)
    simp only [okS, Bool.and_eq_true, Bool.not_eq_true'] at hs
    obtain ⟨⟨⟨hA, hS⟩, hh⟩, ht⟩ := hs
    simp only [drawS, seqD, stepS, hS, if_true, mask_none]
    have hq : (turnsS all s || quietAt s.op (opd st.env)) = true := by
      rw [Bool.or_eq_true] at ht ⊢
      rcases ht with ht | ht
      · exact .inl ht
      · refine .inr ?_
        simp only [Bool.not_eq_true'] at ht
        cases hop : s.op <;> rw [hop] at ht <;> simp [quietAt, IOp.turns] at ht ⊢
    cases evA call s.op (opd st.env) st.B st.L with
    | none => rfl
    | some x =>
      obtain ⟨v, B, L⟩ := x
      simp only [Option.bind_some, okIds_none, hq, Bool.and_self, chk, if_true, Option.map_some, frzNew, hh, Bool.false_and, Bool.false_eq_true, if_false, rest_none]
      exact drawS_only (j + 1) r _ fun t ht => h t (by simp [ht])
theorem drawQ_S {call : Disp} {B L : List Ent} {cl : List (List Nat)} {all : List IStep} {e0 : Env} : ∀ (i : Nat) (ss : List IStep) (e : Env), (∀ s ∈ ss, okS all s = true) → drawQ call B L cl [] all e0 i ss e = some e
  | _, [], _, _ => rfl
  | i, s :: r, e, h => by
    have hs := h s (by simp)
    simp only [okS, Bool.and_eq_true, Bool.not_eq_true'] at hs
    simp only [drawQ, hs.1.1.2, Bool.or_true, Bool.true_or, if_true]
    exact drawQ_S (i + 1) r e fun t ht => h t (by simp [ht])
theorem late_none {cl : List (List Nat)} {all : List IStep} {i : Nat} (h : ∀ j s, j < i → all[j]? = some s → s.isS = false) : late cl all i = false := by
  simp only [late]
  rw [List.any_eq_false]
  intro j hj
  have hj' : j < i := by simpa using hj
  cases hs : all[j]? with
  | none => simp
  | some s => simp [h j s hj' hs]
theorem drawQs {call : Disp} {B L : List Ent} {all : List IStep} {e0 : Env} : ∀ (ss pre : List IStep) (e : Env), all = pre ++ ss → okQs (clos all) all pre.length ss = true → (∀ s ∈ pre, s.isS = false) →
    ((drawQ call B L (clos all) [] all e0 pre.length ss e).bind fun e' => drawS call (clos all) [] all e0 pre.length ss ⟨e', B, L⟩) = seqD call ss ⟨e, B, L⟩
  | [], pre, e, _, _, _ => rfl
  | s :: r, pre, e, he, h, hp => by
    simp only [okQs] at h
    by_cases hS : s.isS = true
    · simp only [hS, if_true, List.all_eq_true] at h
      rw [drawQ_S _ _ _ h, Option.bind_some]
      exact drawS_only _ _ _ h
    · have hS' : s.isS = false := by simpa using hS
      simp only [hS', Bool.false_eq_true, if_false, Bool.and_eq_true] at h
      have hA : s.isA = false := by
        have := h.1
        simp only [okQ, Bool.and_eq_true, Bool.not_eq_true'] at this
        exact this.1.1
      have hlate : late (clos all) all pre.length = false := late_none fun j t hj ht => by
        rw [he, List.getElem?_append_left hj] at ht
        exact hp t (List.mem_of_getElem? ht)
      have hp' : ∀ t ∈ pre ++ [s], t.isS = false := fun t ht => by
        rcases List.mem_append.1 ht with ht | ht
        · exact hp t ht
        · rw [List.mem_singleton.1 ht]; exact hS'
      have next : ∀ e', ((drawQ call B L (clos all) [] all e0 (pre.length + 1) r e').bind fun e' => drawS call (clos all) [] all e0 (pre.length + 1) r ⟨e', B, L⟩) = seqD call r ⟨e', B, L⟩ := fun e' => by
        have := drawQs (call := call) (B := B) (L := L) (all := all) (e0 := e0) r (pre ++ [s]) e' (by rw [he]; simp) (by rw [List.length_append]; exact h.2) hp'
        simpa using this
      have stay : ∀ st, stepS call (clos all) [] all e0 pre.length s st = some st := fun st => by
        simp only [stepS, hS', hA, hlate, Bool.false_eq_true, if_false, Bool.and_false]
      simp only [drawQ, drawS, seqD, hS', hA, hlate, Bool.or_self, Bool.false_eq_true, if_false, evQ2, hide_none (turn_none h.1), okIds_none, chk, if_true, Option.bind_some, stay]
      cases hg : s.guard with
      | none =>
        simp only
        cases evQ call s.op (opd e) B L with
        | none => rfl
        | some v => simp only [Option.bind_some]; exact next _
      | some p =>
        obtain ⟨t, want⟩ := p
        simp only
        cases e.get t with
        | fv x =>
          cases x with
          | bool b =>
            by_cases hb : b = want
            · simp only [hb, if_true]
              cases evQ call s.op (opd e) B L with
              | none => rfl
              | some v => simp only [Option.bind_some]; exact next _
            · simp only [hb, if_false]; exact next _
          | _ => rfl
        | _ => rfl
theorem evDraw_ok {call : Disp} {all : List IStep} {st : St} (h : tame all = true) :
    evDraw call all st = seqD call all ⟨st.env, (frzs (preIds st.env all) st.B st.L).1, (frzs (preIds st.env all) st.B st.L).2⟩ := by
  have hA := okQs_noA _ _ _ _ h
  simp only [evDraw, okAllocs_none all hA, if_true, allocs_none _ _ all hA, ents_none all hA, drawA_none _ all _ hA, List.append_nil]
  exact drawQs all [] st.env rfl h (by simp)
section
variable {fns : FuncId → Option IFn} {an : Ann} {self : FuncId} {g : Look} {e : Env} {st : St} {B L : List Ent} {k : St → Prop} {pk : Pin k} {r : List IStep} {Q : IExit → St → Prop} {pq : Pin Q}
def pD (k : St → Prop) (fns : FuncId → Option IFn) (an : Ann) (ss : List IStep) (st : St) (_ : Pin k) : Prop := ∃ st', seqD (lim fns an) ss st = some st' ∧ k st'
theorem pD_nil : pD k fns an [] st pk = k st := by simp [pD, seqD]
theorem pD_S {s : IStep} (h : s.isS = true) : pD k fns an (s :: r) ⟨e, B, L⟩ pk = bq3 (fun v B' L' => pD k fns an r ⟨putO e s.dst v, B', L'⟩ .mk) (evA (lim fns an) s.op (opd e) B L) .mk := by
  apply propext
  simp only [pD, seqD, h, if_true, bq3]
  cases evA (lim fns an) s.op (opd e) B L with
  | none => simp
  | some x => simp
theorem pD_Q {dst : Option Nat} {op : IOp} {after : List Nat} {asg : Bool} (h : IStep.isS ⟨dst, op, none, after, asg⟩ = false) :
    pD k fns an (⟨dst, op, none, after, asg⟩ :: r) ⟨e, B, L⟩ pk = bq (fun v => pD k fns an r ⟨putO e dst v, B, L⟩ .mk) (evQ (lim fns an) op (opd e) B L) .mk := by
  apply propext
  simp only [pD, seqD, h, Bool.false_eq_true, if_false, bq]
  cases evQ (lim fns an) op (opd e) B L with
  | none => simp
  | some x => simp
theorem pD_step {dst : Option Nat} {op : IOp} {after : List Nat} {asg : Bool} : pD k fns an (⟨dst, op, none, after, asg⟩ :: r) ⟨e, B, L⟩ pk =
    callQ (bq3 (fun v B' L' => pD k fns an r ⟨putO e dst v, B', L'⟩ .mk) (evA (lim fns an) op (opd e) B L) .mk) (bq (fun v => pD k fns an r ⟨putO e dst v, B, L⟩ .mk) (evQ (lim fns an) op (opd e) B L) .mk) (op.acts || asg) .mk .mk := by
  cases h : op.acts || asg with
  | true => rw [callQ_t]; exact pD_S (by simp [IStep.isS, h])
  | false => rw [callQ_f]; exact pD_Q (by simp [IStep.isS, h])
theorem pD_q {d : Nat} {op : IOp} : pD k fns an (sq d op :: r) ⟨e, B, L⟩ pk =
    callQ (bq3 (fun v B' L' => pD k fns an r ⟨putO e (some d) v, B', L'⟩ .mk) (evA (lim fns an) op (opd e) B L) .mk) (bq (fun v => pD k fns an r ⟨putO e (some d) v, B, L⟩ .mk) (evQ (lim fns an) op (opd e) B L) .mk) (op.acts || false) .mk .mk := pD_step
theorem pD_a {d : Nat} {op : IOp} : pD k fns an (sa d op :: r) ⟨e, B, L⟩ pk =
    callQ (bq3 (fun v B' L' => pD k fns an r ⟨putO e (some d) v, B', L'⟩ .mk) (evA (lim fns an) op (opd e) B L) .mk) (bq (fun v => pD k fns an r ⟨putO e (some d) v, B, L⟩ .mk) (evQ (lim fns an) op (opd e) B L) .mk) (op.acts || true) .mk .mk := pD_step
theorem pD_e {op : IOp} : pD k fns an (se op :: r) ⟨e, B, L⟩ pk =
    callQ (bq3 (fun v B' L' => pD k fns an r ⟨putO e none v, B', L'⟩ .mk) (evA (lim fns an) op (opd e) B L) .mk) (bq (fun v => pD k fns an r ⟨putO e none v, B, L⟩ .mk) (evQ (lim fns an) op (opd e) B L) .mk) (op.acts || false) .mk .mk := pD_step
theorem pD_g {dst : Option Nat} {op : IOp} {t : Nat} {want : Bool} {after : List Nat} {asg : Bool} : pD k fns an (⟨dst, op, some (t, want), after, asg⟩ :: r) ⟨e, B, L⟩ pk =
    pG (bq (fun v => pD k fns an r ⟨putO e dst v, B, L⟩ .mk) (evQ (lim fns an) op (opd e) B L) .mk) (pD k fns an r ⟨putO e dst .unk, B, L⟩ .mk) (e.get t) want .mk .mk := by
  have hS : IStep.isS ⟨dst, op, some (t, want), after, asg⟩ = false := by simp [IStep.isS]
  apply propext
  simp only [pD, seqD, hS, Bool.false_eq_true, if_false, pG, guardQ]
  cases e.get t with
  | fv x =>
    cases x with
    | bool b =>
      by_cases hb : b = want
      · simp only [hb, if_true, bq]
        cases evQ (lim fns an) op (opd e) B L <;> simp
      · simp only [hb, if_false]
    | _ => simp
  | _ => simp
theorem evQ_callV {f : Opd} {xs : List Opd} : evQ (lim fns an) (.call f xs) g B L = (callV fns an (g f) (toFVs B L (xs.map g))).map .fv := by
  simp only [evQ]
  generalize g f = s
  cases s with
  | fv x =>
    cases x with
    | fn fn first caps =>
      cases fn with
      | func n =>
        simp only [callV]
        cases toFVs B L (xs.map g) with
        | none => rfl
        | some zs =>
          simp only [Option.bind_some, ret]
          cases lim fns an n ((first ++ zs ++ caps).map .fv) [] with
          | none => rfl
          | some p => rfl
      | _ => rfl
    | _ => rfl
  | _ => rfl
theorem evQ_mvV {x : Opd} {c : Disp} : evQ c (.mv x) g B L = mvV (g x) := mvV_eq B L c rfl
theorem evQ_pickV {x a b : Opd} {c : Disp} : evQ c (.pick x a b) g B L = pickV (g x) (g a) (g b) := by
  simp only [evQ]
  generalize g x = c; generalize g a = u; generalize g b = v
  cases c with
  | fv y =>
    cases y with
    | bool t => cases t <;> simp only [pickV, mvV, if_true, Bool.false_eq_true, if_false] <;> first | (cases u <;> rfl) | (cases v <;> rfl)
    | _ => rfl
  | _ => rfl
theorem evQ_idxV {sz : Nat} {x i : Opd} {c : Disp} : evQ c (.idxA sz x i) g B L = idxV sz (g x) (g i) := by
  simp only [evQ]
  generalize g x = a
  generalize g i = c
  cases a
  case fv x =>
    cases c
    case fv y =>
      cases x
      case sl t xs =>
        cases y
        case int k n =>
          simp only [idxV]
          split
          · cases xs[n.toNat]? <;> rfl
          · rfl
        all_goals rfl
      all_goals (cases y <;> rfl)
    all_goals (cases x <;> rfl)
  case ref id sz' off len ap =>
    cases c
    case fv y => cases y <;> rfl
    all_goals rfl
  all_goals rfl
theorem pW_draw {keep : List Nat} {ss : List IStep} : pW Q fns an self (.draw keep ss) ⟨e, B, L⟩ pq =
    callQ (fzQ (fun B L => pD (Q .normal) fns an ss ⟨e.keep keep, B, L⟩ .mk) (frzs (preIds (e.keep keep) ss) B L) .mk) (pW Q fns an self (.draw keep ss) ⟨e, B, L⟩ .mk) (tame ss) .mk .mk := by
  cases h : tame ss with
  | false => rw [callQ_f]
  | true =>
    rw [callQ_t]
    apply propext
    simp only [pW, Wp, evW, evDraw_ok h, fzQ, pD]
    cases seqD (lim fns an) ss ⟨e.keep keep, (frzs (preIds (e.keep keep) ss) B L).1, (frzs (preIds (e.keep keep) ss) B L).2⟩ with
    | none => simp
    | some st' => exact ⟨fun ⟨x, st2, h1, h2⟩ => by injection h1 with h1; injection h1 with h3 h4; subst h3; subst h4; exact ⟨_, rfl, h2⟩, fun ⟨st2, h1, h2⟩ => by injection h1 with h1; subst h1; exact ⟨_, _, rfl, h2⟩⟩
def mvOp (e : Env) (t d : Nat) : IOp → List Id
  | .mv (.s u) => if d = t then (e.get u).ids else []
  | _ => []
def mvOf (e : Env) (t : Nat) (s : IStep) : List Id :=
  match s.dst with
  | some d => mvOp e t d s.op
  | none => []
theorem mvOf_q {e : Env} {t d : Nat} {op : IOp} : mvOf e t (sq d op) = mvOp e t d op := rfl
theorem mvOf_a {e : Env} {t d : Nat} {op : IOp} : mvOf e t (sa d op) = mvOp e t d op := rfl
theorem mvOf_e {e : Env} {t : Nat} {op : IOp} : mvOf e t (se op) = [] := rfl
theorem mvOf_mk {e : Env} {t d : Nat} {op : IOp} {g : Option (Nat × Bool)} {af : List Nat} {as : Bool} : mvOf e t ⟨some d, op, g, af, as⟩ = mvOp e t d op := rfl
theorem mvOf_mk' {e : Env} {t : Nat} {op : IOp} {g : Option (Nat × Bool)} {af : List Nat} {as : Bool} : mvOf e t ⟨none, op, g, af, as⟩ = [] := rfl
def movedTo (e : Env) (t : Nat) : List IStep → List Id
  | [] => []
  | s :: r => mvOf e t s ++ movedTo e t r
def preOpd (e : Env) (all : List IStep) : Opd → List Id
  | .s t => (e.get t).ids ++ movedTo e t all
  | .c _ => []
def preOpds (e : Env) (all : List IStep) : List Opd → List Id
  | [] => []
  | x :: r => preOpd e all x ++ preOpds e all r
def preParts2 (e : Env) (all : List IStep) : List (Nat × Nat × Opd) → List Id
  | [] => []
  | p :: r => preOpd e all p.2.2 ++ preParts2 e all r
def preParts1 (e : Env) (all : List IStep) : List (Nat × Opd) → List Id
  | [] => []
  | p :: r => preOpd e all p.2 ++ preParts1 e all r
def preOp (e : Env) (all : List IStep) : IOp → List Id
  | .call _ xs => preOpds e all xs
  | .build _ ps => preParts2 e all ps
  | .bsl _ _ _ ps => preParts1 e all ps
  | .store _ _ x => preOpd e all x
  | _ => []
def preStep (e : Env) (all : List IStep) (s : IStep) : List Id := preOp e all s.op
theorem preStep_q {e : Env} {all : List IStep} {d : Nat} {op : IOp} : preStep e all (sq d op) = preOp e all op := rfl
theorem preStep_a {e : Env} {all : List IStep} {d : Nat} {op : IOp} : preStep e all (sa d op) = preOp e all op := rfl
theorem preStep_e {e : Env} {all : List IStep} {op : IOp} : preStep e all (se op) = preOp e all op := rfl
theorem preStep_mk {e : Env} {all : List IStep} {dst : Option Nat} {op : IOp} {g : Option (Nat × Bool)} {af : List Nat} {as : Bool} : preStep e all ⟨dst, op, g, af, as⟩ = preOp e all op := rfl
def preSteps (e : Env) (all : List IStep) : List IStep → List Id
  | [] => []
  | s :: r => preStep e all s ++ preSteps e all r
theorem movedTo_eq (e : Env) (t : Nat) (all : List IStep) : (all.flatMap fun q => match q.dst, q.op with
        | some d, .mv (.s u) => if d = t then (e.get u).ids else []
        | _, _ => []) = movedTo e t all := by
  induction all with
  | nil => rfl
  | cons s r ih =>
    rw [List.flatMap_cons, ih]
    refine congrArg (fun l => l ++ movedTo e t r) ?_
    obtain ⟨dst, op, _, _, _⟩ := s
    cases dst with
    | none => rfl
    | some d =>
      cases op with
      | mv x => cases x <;> rfl
      | _ => rfl
theorem pre_of {e : Env} {all : List IStep} (x : Opd) : (match x with
    | .s t => (e.get t).ids ++ all.flatMap fun q => match q.dst, q.op with
        | some d, .mv (.s u) => if d = t then (e.get u).ids else []
        | _, _ => []
    | .c _ => []) = preOpd e all x := by
  cases x with
  | s t => simp only [preOpd]; rw [← movedTo_eq]
  | c x => rfl
theorem preIds_eq (e : Env) (all : List IStep) : preIds e all = preSteps e all all := by
  unfold preIds
  dsimp only
  generalize hb : (fun s : IStep => _) = f
  have hf : ∀ s, f s = preStep e all s := by
    intro s
    rw [← hb]
    obtain ⟨dst, op, _, _, _⟩ := s
    cases op with
    | call g xs =>
      simp only [preStep, preOp]
      induction xs with
      | nil => rfl
      | cons x r ih => rw [List.flatMap_cons, ih]; exact congrArg (fun l => l ++ _) (pre_of _)
    | build z ps =>
      simp only [preStep, preOp]
      induction ps with
      | nil => rfl
      | cons x r ih => rw [List.flatMap_cons, ih]; exact congrArg (fun l => l ++ _) (pre_of _)
    | bsl sz z n ps =>
      simp only [preStep, preOp]
      induction ps with
      | nil => rfl
      | cons x r ih => rw [List.flatMap_cons, ih]; exact congrArg (fun l => l ++ _) (pre_of _)
    | store n a x => exact pre_of x
    | _ => rfl
  clear hb
  have : ∀ l : List IStep, l.flatMap f = preSteps e all l := by
    intro l
    induction l with
    | nil => rfl
    | cons s r ih => rw [List.flatMap_cons, ih, hf]; rfl
  exact this all
theorem pW_draw' {keep : List Nat} {ss : List IStep} : pW Q fns an self (.draw keep ss) ⟨e, B, L⟩ pq =
    callQ (fzQ (fun B L => pD (Q .normal) fns an ss ⟨e.keep keep, B, L⟩ .mk) (frzs (preSteps (e.keep keep) ss ss) B L) .mk) (pW Q fns an self (.draw keep ss) ⟨e, B, L⟩ .mk) (tame ss) .mk .mk := by
  rw [← preIds_eq]; exact pW_draw
end
end Go.Ab
namespace Go.Ab
abbrev DD := Nat × List Nat × Option (List Nat) × Bool × Bool
def tgtT (steps : List IStep) (s : IStep) : Option (List Nat) :=
  if turnsS steps s then
    match s.op with
    | .store _ (.s t) _ => if unwritten steps t then some [t] else none
    | .app _ _ (.s t) _ => if unwritten steps t then some [t] else none
    | _ => none
  else some []
def mtJ (cl : List (List Nat)) (steps : List IStep) (i j : Nat) : Option (List Nat) := match steps[j]? with
  | some s => if s.isS && !waits cl j i && !waits cl i j then tgtT steps s else some []
  | none => none
def mtAll (cl : List (List Nat)) (steps : List IStep) (i : Nat) : List Nat → Option (List Nat)
  | [] => some []
  | j :: r => (mtJ cl steps i j).bind fun a => (mtAll cl steps i r).map fun b => a ++ b
def mtP (e0 : Env) (m : Option (List Nat)) (id : Id) : Bool := match m with
  | none => true
  | some ts => ts.any fun t => (e0.get t).ids.contains id
def hidO (cl : List (List Nat)) (al : List (Nat × Nat)) (j : Nat) : List Nat := (al.filter fun q => !waits cl j q.1).map (·.2)
def hidP (hid : List Nat) (n p : Nat) : Bool := hid.any fun k => p == n + k
def okP (hid : List Nat) (n : Nat) (v : SV) : Bool := v.ids.all fun id => match id with
  | .l p => !hidP hid n p
  | .b _ => true
def kindOf (cl : List (List Nat)) (all : List IStep) (i : Nat) (s : IStep) : Nat := if s.isS then 1 else if s.isA then 0 else if late cl all i then 3 else 2
def annF (all : List IStep) : Nat → List IStep → List DD
  | _, [] => []
  | i, s :: r => (kindOf (clos all) all i s, hidO (clos all) (allocsAt 0 0 all) i, mtAll (clos all) all i (List.range all.length), handed all s, turnsS all s) :: annF all (i + 1) r
def annU (all : List IStep) : Option (List DD) := if okAllocs all && all.all (fun s => !(s.isA && s.isS)) then some (annF all 0 all) else none
theorem tgt_T {steps : List IStep} {e0 : Env} {s : IStep} (id : Id) : (match tgt steps e0 s with | none => true | some ids => ids.contains id) = mtP e0 (tgtT steps s) id := by
  have key : tgt steps e0 s = (tgtT steps s).map fun ts => ts.flatMap fun t => (e0.get t).ids := by
    simp only [tgt, tgtT]
    by_cases hT : turnsS steps s = true
    · rw [if_pos hT, if_pos hT]
      cases s.op <;> try rfl
      case store sz a x =>
        cases a with
        | c _ => rfl
        | s t => simp only; by_cases h : unwritten steps t = true <;> simp [h]
      case app sz b x y =>
        cases x with
        | c _ => rfl
        | s t => simp only; by_cases h : unwritten steps t = true <;> simp [h]
    · rw [if_neg hT, if_neg hT]; rfl
  rw [key]
  cases tgtT steps s with
  | none => rfl
  | some ts =>
    simp only [Option.map_some, mtP]
    induction ts with
    | nil => rfl
    | cons t r ih => rw [List.flatMap_cons, List.any_cons, ← ih, List.contains_append]
theorem mayTurn_mt {cl : List (List Nat)} {steps : List IStep} {e0 : Env} {i : Nat} (id : Id) : mayTurn cl steps e0 i id = mtP e0 (mtAll cl steps i (List.range steps.length)) id := by
  simp only [mayTurn]
  generalize List.range steps.length = r
  induction r with
  | nil => rfl
  | cons j r ih =>
    simp only [List.any_cons, ih, mtAll, mtJ]
    cases steps[j]? with
    | none => rfl
    | some s =>
      simp only
      by_cases c : (s.isS && !waits cl j i && !waits cl i j) = true
      · have tt := tgt_T (steps := steps) (e0 := e0) (s := s) id
        simp only [c, Bool.true_and, if_true]
        refine Eq.trans (congrArg (fun b => b || mtP e0 (mtAll cl steps i r) id) tt) ?_
        cases tgtT steps s with
        | none => rfl
        | some a => cases mtAll cl steps i r with
          | none => simp [mtP]
          | some b => simp [mtP]
      · have c' : (s.isS && !waits cl j i && !waits cl i j) = false := by simpa using c
        simp only [c', Bool.false_and, Bool.false_or, Bool.false_eq_true, if_false, Option.bind_some]
        cases mtAll cl steps i r <;> rfl
theorem allocs_shift : ∀ (ss : List IStep) (i n m : Nat), allocsAt i (n + m) ss = (allocsAt i m ss).map fun q => (q.1, n + q.2)
  | [], _, _, _ => rfl
  | s :: r, i, n, m => by
    simp only [allocsAt]
    split
    · simp only [List.map_cons, Nat.add_assoc, allocs_shift r]
    · exact allocs_shift r _ _ _
theorem hid_P {cl : List (List Nat)} {all : List IStep} {n : Nat} (j : Nat) : hidFor cl (allocsAt 0 n all) j = hidP (hidO cl (allocsAt 0 0 all) j) n := by
  funext p
  rw [show n = n + 0 from rfl, allocs_shift]
  simp only [hidFor, hidP, hidO, List.any_map, List.any_filter, Nat.add_zero]
  congr 1
  funext q
  simp only [Function.comp]
  rw [Bool.and_comm]
theorem okIds_P {cl : List (List Nat)} {all : List IStep} {n j : Nat} (v : SV) : okIds cl (allocsAt 0 n all) j v = okP (hidO cl (allocsAt 0 0 all) j) n v := by
  simp only [okIds, okP, hid_P]
  congr 1
theorem hide_P {cl : List (List Nat)} {steps : List IStep} {e0 : Env} {i : Nat} (B L : List Ent) : hideBy (mayTurn cl steps e0 i) B L = hideBy (mtP e0 (mtAll cl steps i (List.range steps.length))) B L := by
  rw [show mayTurn cl steps e0 i = mtP e0 (mtAll cl steps i (List.range steps.length)) from funext fun id => mayTurn_mt id]
def runQ (call : Disp) (B L : List Ent) (n : Nat) (e0 : Env) : List IStep → List DD → Env → Option Env
  | s :: r, (k, hid, mt, _, _) :: ds, e =>
    if k = 2 then match s.guard with
      | none => ((evQ call s.op (opd e) (hideBy (mtP e0 mt) B L).1 (hideBy (mtP e0 mt) B L).2).bind fun v => chk (okP hid n v) v).bind fun v => runQ call B L n e0 r ds (putO e s.dst v)
      | some (t, want) => match e.get t with
        | .fv (.bool b) => if b = want then ((evQ call s.op (opd e) (hideBy (mtP e0 mt) B L).1 (hideBy (mtP e0 mt) B L).2).bind fun v => chk (okP hid n v) v).bind fun v => runQ call B L n e0 r ds (putO e s.dst v) else runQ call B L n e0 r ds (putO e s.dst .unk)
        | _ => none
    else runQ call B L n e0 r ds e
  | _, _, e => some e
def frzU (hand : Bool) (n : Nat) (v : SV) (B L : List Ent) : List Ent × List Ent :=
  if hand && v.ids.all (fun id => match id with
    | .l p => n ≤ p
    | .b _ => false) then frzs v.ids B L else (B, L)
def runS (call : Disp) (n : Nat) (e0 : Env) : List IStep → List DD → St → Option St
  | s :: r, (k, hid, mt, hand, tn) :: ds, st =>
    if k = 1 then ((evA call s.op (opd st.env) st.B (maskL (hidP hid n) st.L)).bind fun x => if (okP hid n x.1 && (tn || quietAt s.op (opd st.env))) = true then some x else none).bind fun x => runS call n e0 r ds ⟨putO st.env s.dst x.1, (frzU hand st.L.length x.1 x.2.1 x.2.2).1, restL (hidP hid n) st.L (frzU hand st.L.length x.1 x.2.1 x.2.2).2⟩
    else if k = 3 then match s.guard with
      | none => ((evQ call s.op (opd st.env) (hideBy (mtP e0 mt) st.B (maskL (hidP hid n) st.L)).1 (hideBy (mtP e0 mt) st.B (maskL (hidP hid n) st.L)).2).bind fun v => chk (okP hid n v) v).bind fun v => runS call n e0 r ds ⟨putO st.env s.dst v, st.B, st.L⟩
      | some (t, want) => match st.env.get t with
        | .fv (.bool b) => if b = want then ((evQ call s.op (opd st.env) (hideBy (mtP e0 mt) st.B (maskL (hidP hid n) st.L)).1 (hideBy (mtP e0 mt) st.B (maskL (hidP hid n) st.L)).2).bind fun v => chk (okP hid n v) v).bind fun v => runS call n e0 r ds ⟨putO st.env s.dst v, st.B, st.L⟩ else runS call n e0 r ds ⟨putO st.env s.dst .unk, st.B, st.L⟩
        | _ => none
    else runS call n e0 r ds st
  | _, _, st => some st
theorem drawQ_run {call : Disp} {B L : List Ent} {all : List IStep} {n : Nat} {e0 : Env} : ∀ (ss : List IStep) (i : Nat) (e : Env),
    drawQ call B L (clos all) (allocsAt 0 n all) all e0 i ss e = runQ call B L n e0 ss (annF all i ss) e
  | [], _, _ => rfl
  | s :: r, i, e => by
    simp only [drawQ, annF, runQ, kindOf, evQ2, hide_P, okIds_P, drawQ_run r]
    by_cases hS : s.isS = true
    · simp [hS]
    by_cases hA : s.isA = true
    · simp [hS, hA]
    by_cases hl : late (clos all) all i = true
    · simp [hS, hA, hl]
    simp only [hS, hA, hl, Bool.or_self, Bool.false_eq_true, if_false, if_true, Option.bind_assoc]
    cases s.guard with
    | none => rfl
    | some p =>
      obtain ⟨t, want⟩ := p
      simp only
      cases e.get t with
      | fv x => cases x <;> rfl
      | _ => rfl
theorem drawS_run {call : Disp} {all : List IStep} {n : Nat} {e0 : Env} : ∀ (ss : List IStep) (i : Nat) (st : St),
    drawS call (clos all) (allocsAt 0 n all) all e0 i ss st = runS call n e0 ss (annF all i ss) st
  | [], _, _ => rfl
  | s :: r, i, st => by
    simp only [drawS, stepS, annF, runS, kindOf, evQ2, hide_P, okIds_P, hid_P]
    have ih := fun st => drawS_run (call := call) (all := all) (n := n) (e0 := e0) r (i + 1) st
    by_cases hS : s.isS = true
    · simp only [hS, if_true, Option.bind_assoc]
      cases evA call s.op (opd st.env) st.B (maskL (hidP (hidO (clos all) (allocsAt 0 0 all) i) n) st.L) with
      | none => rfl
      | some x =>
        obtain ⟨v, B', L'⟩ := x
        simp only [Option.bind_some]
        by_cases hc : (okP (hidO (clos all) (allocsAt 0 0 all) i) n v && (turnsS all s || quietAt s.op (opd st.env))) = true
        · simp only [hc, chk, if_true, Option.map_some, Option.bind_some, ih]; rfl
        · simp only [hc, chk, if_false, Option.map_none, Option.bind_none]; rfl
    · have hS' : s.isS = false := by simpa using hS
      by_cases hA : s.isA = true
      · simp only [hS', hA, Bool.not_true, Bool.false_and, Bool.false_eq_true, if_false, if_true, Option.bind_some, ih]
        rfl
      · have hA' : s.isA = false := by simpa using hA
        by_cases hl : late (clos all) all i = true
        · simp only [hS', hA', hl, Bool.not_false, Bool.and_self, Bool.false_eq_true, if_false, if_true, Nat.reduceEqDiff]
          cases s.guard with
          | none =>
            simp only
            cases evQ call s.op (opd st.env) (hideBy (mtP e0 (mtAll (clos all) all i (List.range all.length))) st.B (maskL (hidP (hidO (clos all) (allocsAt 0 0 all) i) n) st.L)).1 (hideBy (mtP e0 (mtAll (clos all) all i (List.range all.length))) st.B (maskL (hidP (hidO (clos all) (allocsAt 0 0 all) i) n) st.L)).2 with
            | none => rfl
            | some v =>
              simp only [Option.bind_some]
              by_cases hc : okP (hidO (clos all) (allocsAt 0 0 all) i) n v = true
              · simp only [hc, chk, if_true, Option.map_some, Option.bind_some, ih]
              · simp only [hc, chk, if_false, Option.map_none, Option.bind_none]; rfl
          | some p =>
            obtain ⟨t, want⟩ := p
            simp only
            cases st.env.get t with
            | fv x =>
              cases x with
              | bool b =>
                by_cases hb : b = want
                · simp only [hb, if_true]
                  cases evQ call s.op (opd st.env) (hideBy (mtP e0 (mtAll (clos all) all i (List.range all.length))) st.B (maskL (hidP (hidO (clos all) (allocsAt 0 0 all) i) n) st.L)).1 (hideBy (mtP e0 (mtAll (clos all) all i (List.range all.length))) st.B (maskL (hidP (hidO (clos all) (allocsAt 0 0 all) i) n) st.L)).2 with
                  | none => rfl
                  | some v =>
                    simp only [Option.bind_some]
                    by_cases hc : okP (hidO (clos all) (allocsAt 0 0 all) i) n v = true
                    · simp only [hc, chk, if_true, Option.map_some, Option.bind_some, ih]
                    · simp only [hc, chk, if_false, Option.map_none, Option.bind_none]; rfl
                · simp only [hb, if_false, Option.bind_some, ih]
              | _ => rfl
            | _ => rfl
        · have hl' : late (clos all) all i = false := by simpa using hl
          simp only [hS', hA', hl', Bool.not_false, Bool.and_false, Bool.false_eq_true, if_false, Option.bind_some, Nat.reduceEqDiff, ih]
theorem evDraw_run {call : Disp} {all : List IStep} {ds : List DD} {st : St} (h : annU all = some ds) :
    evDraw call all st = (runQ call (frzs (preIds st.env all) st.B st.L).1 (frzs (preIds st.env all) st.B st.L).2 (frzs (preIds st.env all) st.B st.L).2.length st.env all ds (drawA (frzs (preIds st.env all) st.B st.L).2.length all st.env)).bind fun e =>
      runS call (frzs (preIds st.env all) st.B st.L).2.length st.env all ds ⟨e, (frzs (preIds st.env all) st.B st.L).1, (frzs (preIds st.env all) st.B st.L).2 ++ drawEnts all⟩ := by
  simp only [annU] at h
  split at h
  next hc =>
    injection h with h
    subst h
    simp only [Bool.and_eq_true] at hc
    simp only [evDraw, hc.1, if_true, drawQ_run, drawS_run]
  · cases h
section
variable {fns : FuncId → Option IFn} {an : Ann} {self : FuncId} {e e0 : Env} {B L : List Ent} {n : Nat} {k : Env → Prop} {pk : Pin k} {r : List IStep} {ks : St → Prop} {ps : Pin ks} {Q : IExit → St → Prop} {pq : Pin Q}
variable {hid : List Nat} {mt : Option (List Nat)} {hd tn : Bool} {ds : List DD}
def pRQ (k : Env → Prop) (fns : FuncId → Option IFn) (an : Ann) (B L : List Ent) (n : Nat) (e0 : Env) (ss : List IStep) (ds : List DD) (e : Env) (_ : Pin k) : Prop := ∃ e', runQ (lim fns an) B L n e0 ss ds e = some e' ∧ k e'
theorem pRQ_nil : pRQ k fns an B L n e0 [] ds e pk = k e := by simp [pRQ, runQ]
theorem pRQ_0 {s : IStep} : pRQ k fns an B L n e0 (s :: r) ((0, hid, mt, hd, tn) :: ds) e pk = pRQ k fns an B L n e0 r ds e .mk := by simp [pRQ, runQ]
theorem pRQ_1 {s : IStep} : pRQ k fns an B L n e0 (s :: r) ((1, hid, mt, hd, tn) :: ds) e pk = pRQ k fns an B L n e0 r ds e .mk := by simp [pRQ, runQ]
theorem pRQ_3 {s : IStep} : pRQ k fns an B L n e0 (s :: r) ((3, hid, mt, hd, tn) :: ds) e pk = pRQ k fns an B L n e0 r ds e .mk := by simp [pRQ, runQ]
theorem pRQ_q {dst : Option Nat} {op : IOp} {after : List Nat} {asg : Bool} : pRQ k fns an B L n e0 (⟨dst, op, none, after, asg⟩ :: r) ((2, hid, mt, hd, tn) :: ds) e pk =
    fzQ (fun B' L' => bq (fun v => okP hid n v = true ∧ pRQ k fns an B L n e0 r ds (putO e dst v) .mk) (evQ (lim fns an) op (opd e) B' L') .mk) (hideBy (mtP e0 mt) B L) .mk := by
  apply propext
  simp only [pRQ, runQ, if_true, fzQ, bq, chk]
  cases evQ (lim fns an) op (opd e) (hideBy (mtP e0 mt) B L).1 (hideBy (mtP e0 mt) B L).2 with
  | none => simp
  | some v => by_cases h : okP hid n v = true <;> simp [h]
theorem pRQ_g {dst : Option Nat} {op : IOp} {t : Nat} {want : Bool} {after : List Nat} {asg : Bool} : pRQ k fns an B L n e0 (⟨dst, op, some (t, want), after, asg⟩ :: r) ((2, hid, mt, hd, tn) :: ds) e pk =
    pG (fzQ (fun B' L' => bq (fun v => okP hid n v = true ∧ pRQ k fns an B L n e0 r ds (putO e dst v) .mk) (evQ (lim fns an) op (opd e) B' L') .mk) (hideBy (mtP e0 mt) B L) .mk) (pRQ k fns an B L n e0 r ds (putO e dst .unk) .mk) (e.get t) want .mk .mk := by
  apply propext
  simp only [pRQ, runQ, if_true, pG, guardQ]
  cases e.get t with
  | fv x =>
    cases x with
    | bool b =>
      by_cases hb : b = want
      · simp only [hb, if_true, fzQ, bq, chk]
        cases evQ (lim fns an) op (opd e) (hideBy (mtP e0 mt) B L).1 (hideBy (mtP e0 mt) B L).2 with
        | none => simp
        | some v => by_cases h : okP hid n v = true <;> simp [h]
      · simp only [hb, if_false]
    | _ => simp
  | _ => simp
def pRS (k : St → Prop) (fns : FuncId → Option IFn) (an : Ann) (n : Nat) (e0 : Env) (ss : List IStep) (ds : List DD) (st : St) (_ : Pin k) : Prop := ∃ st', runS (lim fns an) n e0 ss ds st = some st' ∧ k st'
theorem pRS_nil {st : St} : pRS ks fns an n e0 [] ds st ps = ks st := by simp [pRS, runS]
theorem pRS_0 {s : IStep} {st : St} : pRS ks fns an n e0 (s :: r) ((0, hid, mt, hd, tn) :: ds) st ps = pRS ks fns an n e0 r ds st .mk := by simp [pRS, runS]
theorem pRS_2 {s : IStep} {st : St} : pRS ks fns an n e0 (s :: r) ((2, hid, mt, hd, tn) :: ds) st ps = pRS ks fns an n e0 r ds st .mk := by simp [pRS, runS]
theorem pRS_1 {dst : Option Nat} {op : IOp} {gd : Option (Nat × Bool)} {after : List Nat} {asg : Bool} : pRS ks fns an n e0 (⟨dst, op, gd, after, asg⟩ :: r) ((1, hid, mt, hd, tn) :: ds) ⟨e, B, L⟩ ps =
    bq3 (fun v B' L' => (okP hid n v && (tn || quietAt op (opd e))) = true ∧ fzQ (fun B2 L2 => pRS ks fns an n e0 r ds ⟨putO e dst v, B2, restL (hidP hid n) L L2⟩ .mk) (frzU hd L.length v B' L') .mk) (evA (lim fns an) op (opd e) B (maskL (hidP hid n) L)) .mk := by
  apply propext
  simp only [pRS, runS, if_true, fzQ, bq3]
  cases evA (lim fns an) op (opd e) B (maskL (hidP hid n) L) with
  | none => simp
  | some x =>
    by_cases h : (okP hid n x.1 && (tn || quietAt op (opd e))) = true
    · simp only [Option.bind_some, h, ↓reduceIte, Option.some.injEq, exists_eq_left', true_and]
    · simp only [Option.bind_some, h, ↓reduceIte, Option.bind_none, reduceCtorEq, false_and, exists_false, Option.some.injEq, exists_eq_left', Bool.false_eq_true]
theorem pRS_q {dst : Option Nat} {op : IOp} {after : List Nat} {asg : Bool} : pRS ks fns an n e0 (⟨dst, op, none, after, asg⟩ :: r) ((3, hid, mt, hd, tn) :: ds) ⟨e, B, L⟩ ps =
    fzQ (fun B' L' => bq (fun v => okP hid n v = true ∧ pRS ks fns an n e0 r ds ⟨putO e dst v, B, L⟩ .mk) (evQ (lim fns an) op (opd e) B' L') .mk) (hideBy (mtP e0 mt) B (maskL (hidP hid n) L)) .mk := by
  apply propext
  simp only [pRS, runS, if_true, fzQ, bq, chk, Nat.reduceEqDiff, if_false]
  cases evQ (lim fns an) op (opd e) (hideBy (mtP e0 mt) B (maskL (hidP hid n) L)).1 (hideBy (mtP e0 mt) B (maskL (hidP hid n) L)).2 with
  | none => simp
  | some v => by_cases h : okP hid n v = true <;> simp [h]
theorem pRS_g {dst : Option Nat} {op : IOp} {t : Nat} {want : Bool} {after : List Nat} {asg : Bool} : pRS ks fns an n e0 (⟨dst, op, some (t, want), after, asg⟩ :: r) ((3, hid, mt, hd, tn) :: ds) ⟨e, B, L⟩ ps =
    pG (fzQ (fun B' L' => bq (fun v => okP hid n v = true ∧ pRS ks fns an n e0 r ds ⟨putO e dst v, B, L⟩ .mk) (evQ (lim fns an) op (opd e) B' L') .mk) (hideBy (mtP e0 mt) B (maskL (hidP hid n) L)) .mk) (pRS ks fns an n e0 r ds ⟨putO e dst .unk, B, L⟩ .mk) (e.get t) want .mk .mk := by
  apply propext
  simp only [pRS, runS, if_true, pG, guardQ, Nat.reduceEqDiff, if_false]
  cases e.get t with
  | fv x =>
    cases x with
    | bool b =>
      by_cases hb : b = want
      · simp only [hb, if_true, fzQ, bq, chk]
        cases evQ (lim fns an) op (opd e) (hideBy (mtP e0 mt) B (maskL (hidP hid n) L)).1 (hideBy (mtP e0 mt) B (maskL (hidP hid n) L)).2 with
        | none => simp
        | some v => by_cases h : okP hid n v = true <;> simp [h]
      · simp only [hb, if_false]
    | _ => simp
  | _ => simp
theorem pW_drawU {keep : List Nat} {ss : List IStep} (h : annU ss = some ds) : pW Q fns an self (.draw keep ss) ⟨e, B, L⟩ pq =
    fzQ (fun B L => pRQ (fun e' => pRS (Q .normal) fns an L.length (e.keep keep) ss ds ⟨e', B, L ++ drawEnts ss⟩ .mk) fns an B L L.length (e.keep keep) ss ds (drawA L.length ss (e.keep keep)) .mk) (frzs (preSteps (e.keep keep) ss ss) B L) .mk := by
  rw [← preIds_eq]
  apply propext
  simp only [pW, Wp, evW, evDraw_run h, fzQ, pRQ, pRS]
  cases runQ (lim fns an) (frzs (preIds (e.keep keep) ss) B L).1 (frzs (preIds (e.keep keep) ss) B L).2 (frzs (preIds (e.keep keep) ss) B L).2.length (e.keep keep) ss ds (drawA (frzs (preIds (e.keep keep) ss) B L).2.length ss (e.keep keep)) with
  | none => simp
  | some e' =>
    simp only [Option.bind_some, Option.some.injEq, exists_eq_left']
    cases runS (lim fns an) (frzs (preIds (e.keep keep) ss) B L).2.length (e.keep keep) ss ds ⟨e', (frzs (preIds (e.keep keep) ss) B L).1, (frzs (preIds (e.keep keep) ss) B L).2 ++ drawEnts ss⟩ with
    | none => simp
    | some st' => exact ⟨fun ⟨x, st2, h1, h2⟩ => by injection h1 with h1; injection h1 with h3 h4; subst h3; subst h4; exact ⟨_, rfl, h2⟩, fun ⟨st2, h1, h2⟩ => by injection h1 with h1; subst h1; exact ⟨_, _, rfl, h2⟩⟩
theorem drawA_nil : drawA n [] e = e := rfl
theorem drawA_y {d : Option Nat} {sz : Nat} {z : FV} {af : List Nat} {asg : Bool} : drawA n (⟨d, .alloc sz z, none, af, asg⟩ :: r) e = drawA (n + 1) r (putO e d (.ptr (.l n) sz 0 0)) := rfl
theorem drawA_n {s : IStep} (h : s.isA = false) : drawA n (s :: r) e = drawA n r e := by simp [drawA, h]
theorem drawEnts_nil : drawEnts [] = [] := rfl
theorem drawEnts_y {d : Option Nat} {sz : Nat} {z : FV} {af : List Nat} {asg : Bool} : drawEnts (⟨d, .alloc sz z, none, af, asg⟩ :: r) = .own sz [z] :: drawEnts r := rfl
theorem drawEnts_n {s : IStep} (h : s.isA = false) : drawEnts (s :: r) = drawEnts r := by simp [drawEnts, h]
def allocV (n : Nat) : IOp → SV
  | .alloc sz _ => .ptr (.l n) sz 0 0
  | _ => .unk
def allocE : IOp → Ent
  | .alloc sz z => .own sz [z]
  | _ => .dead
theorem drawA_c {d : Option Nat} {op : IOp} {g : Option (Nat × Bool)} {af : List Nat} {asg : Bool} : drawA n (⟨d, op, g, af, asg⟩ :: r) e = bif op.isAlloc && g.isNone then drawA (n + 1) r (putO e d (allocV n op)) else drawA n r e := by
  cases op <;> first | rfl | (cases g <;> rfl)
theorem drawEnts_c {d : Option Nat} {op : IOp} {g : Option (Nat × Bool)} {af : List Nat} {asg : Bool} : drawEnts (⟨d, op, g, af, asg⟩ :: r) = bif op.isAlloc && g.isNone then allocE op :: drawEnts r else drawEnts r := by
  cases op <;> first | rfl | (cases g <;> rfl)
theorem hide_no : hideBy (mtP e0 (some [])) B L = (B, L) := hide_none (fun _ => rfl) B L
theorem mask_no : maskL (hidP [] n) L = L := by
  simp only [maskL, hidP, List.any_nil, Bool.false_eq_true, if_false]
  exact List.mapIdx_eq_iff.2 fun i => by simp
theorem rest_no {L' : List Ent} : restL (hidP [] n) L L' = L' := by
  simp only [restL, hidP, List.any_nil, Bool.false_eq_true, if_false]
  exact List.mapIdx_eq_iff.2 fun i => by simp
theorem frzU_no {v : SV} : frzU false n v B L = (B, L) := rfl
theorem okP_fv {x : FV} : okP hid n (.fv x) = true := rfl
theorem okP_nil {v : SV} : okP [] n v = true := by
  simp only [okP, hidP, List.any_nil, Bool.not_false, List.all_eq_true]
  intro x _
  cases x <;> rfl
end
end Go.Ab
