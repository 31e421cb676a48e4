/- A part of the proof: an evaluator of programs, its soundness, and what it says of the functions in hand. It holds without further conditions. -/
import Derived.Test.YtpfbgpclhkjgaaaGreatAb23
set_option linter.unusedVariables false
set_option linter.unusedSimpArgs false
namespace Go.Ab

/-! ### More calls answer, more fuel: the answers stay -/
def CLe (c c' : Disp) : Prop := ∀ f args B r, c f args B = some r → c' f args B = some r

section
variable {c c' : Disp}

theorem evQ_cle (h : CLe c c') {o : IOp} {g : Look} {B L : List Ent} {s : SV} (hs : evQ c o g B L = some s) : evQ c' o g B L = some s := by
  cases o <;> simp only [evQ] at hs ⊢ <;> try exact hs
  case call f as =>
    split at hs
    · obtain ⟨xs, h1, h2⟩ := Option.bind_eq_some_iff.1 hs
      split at h2
      · rename_i r B' L' hc
        simp only [h1, Option.bind_some, h _ _ _ _ hc]; exact h2
      · cases h2
    · cases hs

theorem evA_cle (h : CLe c c') {o : IOp} {g : Look} {B L : List Ent} {s : SV × List Ent × List Ent} (hs : evA c o g B L = some s) : evA c' o g B L = some s := by
  have q : ((evQ c o g B L).map fun s => (s, B, L)) = some s → ((evQ c' o g B L).map fun s => (s, B, L)) = some s := by
    intro h'
    obtain ⟨x, h1, h2⟩ := Option.map_eq_some_iff.1 h'
    rw [evQ_cle h h1]; exact congrArg some h2
  cases o <;> simp only [evA] at hs ⊢ <;> first | exact hs | exact q hs

theorem evI_cle (h : CLe c c') {raw : Bool} {g : Look} {f : Opd} {args : List Opd} {B L : List Ent} {s : SV × List Ent × List Ent} (hs : evI c raw g f args B L = some s) : evI c' raw g f args B L = some s := by
  unfold evI at hs ⊢
  obtain ⟨⟨n, as⟩, h1, h2⟩ := Option.bind_eq_some_iff.1 hs
  simp only [h1, Option.bind_some] at h2 ⊢
  split at h2
  · cases h2
  · rename_i hc
    rw [if_neg hc]
    obtain ⟨⟨r, B', L'⟩, h3, h4⟩ := Option.bind_eq_some_iff.1 h2
    rw [h _ _ _ _ h3]; exact h4

theorem evOp_cle (h : CLe c c') {an : Ann} {self : FuncId} {o : IOp} {g : Look} {B L : List Ent} {s : SV × List Ent × List Ent} (hs : evOp c an self o g B L = some s) : evOp c' an self o g B L = some s := by
  cases o <;> simp only [evOp] at hs ⊢ <;> try exact evA_cle h hs
  case call f as =>
    split at hs
    · rename_i hc; rw [if_pos hc]; exact evI_cle h hs
    · rename_i hc; rw [if_neg hc]
      obtain ⟨x, h1, h2⟩ := Option.map_eq_some_iff.1 hs
      rw [evQ_cle h h1]; exact congrArg some h2

theorem evStep_cle (h : CLe c c') {an : Ann} {self : FuncId} {s : IStep} {st st' : St} (hs : evStep c an self s st = some st') : evStep c' an self s st = some st' := by
  have run : ∀ st : St, ((evOp c an self s.op (opd st.env) st.B st.L).map fun (p : SV × List Ent × List Ent) => (⟨putO st.env s.dst p.1, p.2.1, p.2.2⟩ : St)) = some st' →
      ((evOp c' an self s.op (opd st.env) st.B st.L).map fun (p : SV × List Ent × List Ent) => (⟨putO st.env s.dst p.1, p.2.1, p.2.2⟩ : St)) = some st' := by
    intro st h'
    obtain ⟨x, h1, h2⟩ := Option.map_eq_some_iff.1 h'
    rw [evOp_cle h h1]; exact congrArg some h2
  unfold evStep at hs ⊢
  split at hs
  · exact run _ hs
  · rename_i t want hg
    split at hs
    · rename_i b hb
      split at hs
      · rename_i hbw; simp only [hbw, if_true]; exact run _ hs
      · rename_i hbw; simp only [hbw, if_false]; exact hs
    · cases hs

theorem evSteps_cle (h : CLe c c') {an : Ann} {self : FuncId} : ∀ {ss : List IStep} {st st' : St}, evSteps c an self ss st = some st' → evSteps c' an self ss st = some st'
  | [], st, st', hs => hs
  | s :: ss, st, st', hs => by
    simp only [evSteps] at hs ⊢
    obtain ⟨x, h1, h2⟩ := Option.bind_eq_some_iff.1 hs
    rw [evStep_cle h h1]; exact evSteps_cle h h2

theorem evQ2_cle (h : CLe c c') {b : Id → Bool} {o : IOp} {g : Look} {B L : List Ent} {s : SV} (hs : evQ2 c b o g B L = some s) : evQ2 c' b o g B L = some s := evQ_cle h hs

theorem drawQ_cle (h : CLe c c') {B L : List Ent} {cl : List (List Nat)} {al : List (Nat × Nat)} {all : List IStep} {e0 : Env} : ∀ {l : List IStep} {i : Nat} {e e' : Env}, drawQ c B L cl al all e0 i l e = some e' → drawQ c' B L cl al all e0 i l e = some e'
  | [], i, e, e', hs => hs
  | s :: l, i, e, e', hs => by
    simp only [drawQ] at hs ⊢
    have one : ((evQ2 c (mayTurn cl all e0 i) s.op (opd e) B L).bind fun v => (chk (okIds cl al i v) v).bind fun v => drawQ c B L cl al all e0 (i + 1) l (putO e s.dst v)) = some e' →
        ((evQ2 c' (mayTurn cl all e0 i) s.op (opd e) B L).bind fun v => (chk (okIds cl al i v) v).bind fun v => drawQ c' B L cl al all e0 (i + 1) l (putO e s.dst v)) = some e' := by
      intro h'
      obtain ⟨v, h1, h2⟩ := Option.bind_eq_some_iff.1 h'
      obtain ⟨u, h3, h4⟩ := Option.bind_eq_some_iff.1 h2
      simp only [evQ2_cle h h1, Option.bind_some, h3]
      exact drawQ_cle h h4
    split at hs
    · rename_i hc; rw [if_pos hc]; exact drawQ_cle h hs
    · rename_i hc
      rw [if_neg hc]
      split at hs
      · exact one hs
      · rename_i t want hg
        split at hs
        · rename_i b hb
          split at hs
          · rename_i hbw; simp only [hbw, if_true]; exact one hs
          · rename_i hbw; simp only [hbw, if_false]; exact drawQ_cle h hs
        · cases hs

theorem stepS_cle (h : CLe c c') {cl : List (List Nat)} {al : List (Nat × Nat)} {all : List IStep} {e0 : Env} {j : Nat} {s : IStep} {st st' : St} (hs : stepS c cl al all e0 j s st = some st') : stepS c' cl al all e0 j s st = some st' := by
  have one : ((evQ2 c (mayTurn cl all e0 j) s.op (opd st.env) st.B (maskL (hidFor cl al j) st.L)).bind fun v => (chk (okIds cl al j v) v).map fun v => (⟨putO st.env s.dst v, st.B, st.L⟩ : St)) = some st' →
      ((evQ2 c' (mayTurn cl all e0 j) s.op (opd st.env) st.B (maskL (hidFor cl al j) st.L)).bind fun v => (chk (okIds cl al j v) v).map fun v => (⟨putO st.env s.dst v, st.B, st.L⟩ : St)) = some st' := by
    intro h'
    obtain ⟨v, h1, h2⟩ := Option.bind_eq_some_iff.1 h'
    rw [evQ2_cle h h1]; exact h2
  unfold stepS at hs ⊢
  split at hs
  · rename_i hc
    rw [if_pos hc]
    obtain ⟨v, h1, h2⟩ := Option.bind_eq_some_iff.1 hs
    rw [evA_cle h h1]; exact h2
  · rename_i hc
    rw [if_neg hc]
    split at hs
    · rename_i hl
      rw [if_pos hl]
      split at hs
      · exact one hs
      · rename_i t want hg
        split at hs
        · rename_i b hb
          split at hs
          · rename_i hbw; simp only [hbw, if_true]; exact one hs
          · rename_i hbw; simp only [hbw, if_false]; exact hs
        · cases hs
    · rename_i hl; rw [if_neg hl]; exact hs

theorem drawS_cle (h : CLe c c') {cl : List (List Nat)} {al : List (Nat × Nat)} {all : List IStep} {e0 : Env} : ∀ {l : List IStep} {j : Nat} {st st' : St}, drawS c cl al all e0 j l st = some st' → drawS c' cl al all e0 j l st = some st'
  | [], j, st, st', hs => hs
  | s :: l, j, st, st', hs => by
    simp only [drawS] at hs ⊢
    obtain ⟨x, h1, h2⟩ := Option.bind_eq_some_iff.1 hs
    rw [stepS_cle h h1]; exact drawS_cle h h2

theorem evDraw_cle (h : CLe c c') {ss : List IStep} {st st' : St} (hs : evDraw c ss st = some st') : evDraw c' ss st = some st' := by
  unfold evDraw at hs ⊢
  simp only at hs ⊢
  split at hs
  · rename_i hc
    rw [if_pos hc]
    obtain ⟨e, h1, h2⟩ := Option.bind_eq_some_iff.1 hs
    rw [drawQ_cle h h1]; exact drawS_cle h h2
  · cases hs

theorem iter_le {f f' : St → Option (IExit × St)} (h : ∀ st r, f st = some r → f' st = some r) : ∀ {n m : Nat} {st : St} {r : IExit × St}, n ≤ m → iter f n st = some r → iter f' m st = some r
  | 0, m, st, r, _, hs => by cases hs
  | n + 1, 0, st, r, hn, hs => by omega
  | n + 1, m + 1, st, r, hn, hs => by
    simp only [iter] at hs ⊢
    cases hf : f st with
    | none => rw [hf] at hs; cases hs
    | some p =>
      rw [hf] at hs
      rw [h _ _ hf]
      obtain ⟨x, st'⟩ := p
      cases x with
      | normal => exact iter_le h (by omega) hs
      | exit i => exact hs
      | ret => exact hs

theorem evC_cle (h : CLe c c') {an : Ann} {self : FuncId} {k k' : Nat} (hk : k ≤ k') : ∀ {x : ICode} {st : St} {r : IExit × St}, evC c an self k x st = some r → evC c' an self k' x st = some r := by
  intro x
  induction x with
  | skip => intro st r hs; exact hs
  | reg keep ss =>
    intro st r hs
    simp only [evC] at hs ⊢
    obtain ⟨y, h1, h2⟩ := Option.map_eq_some_iff.1 hs
    rw [evSteps_cle h h1]; exact congrArg some h2
  | draw keep ss =>
    intro st r hs
    simp only [evC] at hs ⊢
    obtain ⟨y, h1, h2⟩ := Option.map_eq_some_iff.1 hs
    rw [evDraw_cle h h1]; exact congrArg some h2
  | seq a b iha ihb =>
    intro st r hs
    simp only [evC] at hs ⊢
    cases ha : evC c an self k a st with
    | none => rw [ha] at hs; cases hs
    | some p =>
      rw [ha] at hs
      rw [iha ha]
      obtain ⟨x, st'⟩ := p
      cases x with
      | normal => exact ihb hs
      | exit i => exact hs
      | ret => exact hs
  | cond z a b iha ihb =>
    intro st r hs
    simp only [evC] at hs ⊢
    split at hs
    · split at hs
      · rename_i hb; simp only [hb, if_true]; exact iha hs
      · rename_i hb; simp only [hb, if_false]; exact ihb hs
    · cases hs
  | block id b ih =>
    intro st r hs
    simp only [evC] at hs ⊢
    cases hb : evC c an self k b st with
    | none => rw [hb] at hs; cases hs
    | some p => rw [hb] at hs; rw [ih hb]; exact hs
  | loop keep b ih =>
    intro st r hs
    simp only [evC] at hs ⊢
    exact iter_le (fun st r h' => ih h') hk hs
  | exit id => intro st r hs; exact hs
  | ret => intro st r hs; exact hs

end

/-- A function's body, the calls given. -/
def evB (fns : FuncId → Option IFn) (an : Ann) (call : Disp) (k : Nat) : Disp := fun f args B =>
  (fns f).bind fun fn =>
    if args.length ≠ fn.nparams then none else
    match evC call an f k fn.body ⟨argEnv 0 args, B, []⟩ with
    | some (.normal, st) | some (.ret, st) => (evRess st.env st.B st.L fn.results).bind fun rs => finish rs st.B st.L
    | _ => none

theorem evF_succ (fns : FuncId → Option IFn) (an : Ann) (k : Nat) : evF fns an (k + 1) = evB fns an (evF fns an k) k := rfl

theorem evB_cle {fns : FuncId → Option IFn} {an : Ann} {c c' : Disp} (h : CLe c c') {k k' : Nat} (hk : k ≤ k') : CLe (evB fns an c k) (evB fns an c' k') := by
  intro f args B r hs
  unfold evB at hs ⊢
  obtain ⟨fn, h1, h2⟩ := Option.bind_eq_some_iff.1 hs
  rw [h1, Option.bind_some]
  split at h2
  · cases h2
  · rename_i hc
    rw [if_neg hc]
    split at h2
    · rename_i st he; rw [evC_cle h hk he]; exact h2
    · rename_i st he; rw [evC_cle h hk he]; exact h2
    · cases h2

theorem evF_le (fns : FuncId → Option IFn) (an : Ann) : ∀ {k k' : Nat}, k ≤ k' → CLe (evF fns an k) (evF fns an k')
  | 0, _, _ => fun f args B r hs => by cases hs
  | k + 1, 0, h => by omega
  | k + 1, k' + 1, h => by
    rw [evF_succ, evF_succ]
    exact evB_cle (evF_le fns an (by omega)) (by omega)

/-! ### Calls that are known -/
structure Kn where
  f : FuncId
  args : List SV
  B : List Ent
  r : SV × List Ent × List Ent

/-- It answers so, with fuel enough. -/
def Has (fns : FuncId → Option IFn) (an : Ann) (e : Kn) : Prop := ∃ n, evF fns an n e.f e.args e.B = some e.r

mutual
def FV.eqb : FV → FV → Bool
  | .int k n, .int k' n' => decide (k = k') && decide (n = n')
  | .bool b, .bool b' => b == b'
  | .str s, .str s' => s.data.toList == s'.data.toList
  | .agg xs, .agg ys => eqbs xs ys
  | .sl t xs, .sl t' ys => decide (t = t') && eqbs xs ys
  | .fn f a b, .fn f' a' b' => decide (f = f') && (eqbs a a' && eqbs b b')
  | .nilFn, .nilFn => true
  | .ptr x, .ptr y => FV.eqb x y
  | .nilPtr, .nilPtr => true
  | .tup xs, .tup ys => eqbs xs ys
  | .iface t x, .iface t' y => decide (t = t') && FV.eqb x y
  | .nilIface, .nilIface => true
  | _, _ => false
def eqbs : List FV → List FV → Bool
  | [], [] => true
  | x :: xs, y :: ys => FV.eqb x y && eqbs xs ys
  | _, _ => false
end

def Cap.eqb : Cap → Cap → Bool
  | .fz x, .fz y => x.eqb y
  | .own i s, .own i' s' => decide (i = i') && decide (s = s')
  | _, _ => false

def all2 {α : Type} (f : α → α → Bool) : List α → List α → Bool
  | [], [] => true
  | x :: xs, y :: ys => f x y && all2 f xs ys
  | _, _ => false

def SV.eqb : SV → SV → Bool
  | .fv x, .fv y => x.eqb y
  | .ref i a b c d, .ref i' a' b' c' d' => decide (i = i') && (decide (a = a') && (decide (b = b') && (decide (c = c') && d == d')))
  | .ptr i a b c, .ptr i' a' b' c' => decide (i = i') && (decide (a = a') && (decide (b = b') && decide (c = c')))
  | .clo f n cs, .clo f' n' cs' => decide (f = f') && (decide (n = n') && all2 Cap.eqb cs cs')
  | _, _ => false

def Ent.eqb : Ent → Ent → Bool
  | .dead, .dead => true
  | .own s xs, .own s' xs' => decide (s = s') && eqbs xs xs'
  | .frz s xs, .frz s' xs' => decide (s = s') && eqbs xs xs'
  | _, _ => false

theorem bytes_eq {a b : ByteArray} (h : a.data.toList = b.data.toList) : a = b := by
  cases a; cases b
  simp only [ByteArray.mk.injEq]
  exact Array.toList_inj.1 h

mutual
theorem FV.eqb_eq : ∀ (x y : FV), x.eqb y = true → x = y
  | .int k n, y, h => by cases y <;> simp [FV.eqb] at h; rw [h.1, h.2]
  | .bool b, y, h => by cases y <;> simp [FV.eqb] at h; rw [h]
  | .str s, y, h => by
    cases y <;> simp only [FV.eqb, beq_iff_eq, Bool.false_eq_true] at h
    rw [bytes_eq h]
  | .agg xs, y, h => by cases y <;> simp [FV.eqb] at h; rw [eqbs_eq _ _ h]
  | .sl t xs, y, h => by cases y <;> simp [FV.eqb] at h; rw [h.1, eqbs_eq _ _ h.2]
  | .fn f a b, y, h => by cases y <;> simp [FV.eqb] at h; rw [h.1, eqbs_eq _ _ h.2.1, eqbs_eq _ _ h.2.2]
  | .nilFn, y, h => by cases y <;> simp [FV.eqb] at h; rfl
  | .ptr x, y, h => by cases y <;> simp [FV.eqb] at h; rw [FV.eqb_eq _ _ h]
  | .nilPtr, y, h => by cases y <;> simp [FV.eqb] at h; rfl
  | .tup xs, y, h => by cases y <;> simp [FV.eqb] at h; rw [eqbs_eq _ _ h]
  | .iface t x, y, h => by cases y <;> simp [FV.eqb] at h; rw [h.1, FV.eqb_eq _ _ h.2]
  | .nilIface, y, h => by cases y <;> simp [FV.eqb] at h; rfl
theorem eqbs_eq : ∀ (xs ys : List FV), eqbs xs ys = true → xs = ys
  | [], ys, h => by cases ys <;> simp [eqbs] at h; rfl
  | x :: xs, ys, h => by
    cases ys with
    | nil => simp [eqbs] at h
    | cons y ys => simp [eqbs] at h; rw [FV.eqb_eq _ _ h.1, eqbs_eq _ _ h.2]
end

theorem all2_eq {α : Type} {f : α → α → Bool} (hf : ∀ x y, f x y = true → x = y) : ∀ (xs ys : List α), all2 f xs ys = true → xs = ys
  | [], ys, h => by cases ys <;> simp [all2] at h; rfl
  | x :: xs, ys, h => by
    cases ys with
    | nil => simp [all2] at h
    | cons y ys => simp [all2] at h; rw [hf _ _ h.1, all2_eq hf _ _ h.2]

theorem Cap.eqb_eq (x y : Cap) (h : x.eqb y = true) : x = y := by
  cases x <;> cases y <;> simp [Cap.eqb] at h
  · rw [FV.eqb_eq _ _ h]
  · rw [h.1, h.2]

theorem SV.eqb_eq (x y : SV) (h : x.eqb y = true) : x = y := by
  cases x <;> cases y <;> simp [SV.eqb] at h
  · rw [FV.eqb_eq _ _ h]
  · simp [h]
  · simp [h]
  · rw [h.1, h.2.1, all2_eq Cap.eqb_eq _ _ h.2.2]

theorem Ent.eqb_eq (x y : Ent) (h : x.eqb y = true) : x = y := by
  cases x <;> cases y <;> simp [Ent.eqb] at h
  · rfl
  · rw [h.1, eqbs_eq _ _ h.2]
  · rw [h.1, eqbs_eq _ _ h.2]

def look : List Kn → Disp
  | [], _, _, _ => none
  | e :: T, f, args, B => if decide (e.f = f) && (all2 SV.eqb e.args args && all2 Ent.eqb e.B B) then some e.r else look T f args B

def HasAll (fns : FuncId → Option IFn) (an : Ann) : List Kn → Prop
  | [] => True
  | e :: T => Has fns an e ∧ HasAll fns an T

theorem look_has {fns : FuncId → Option IFn} {an : Ann} : ∀ {T : List Kn}, HasAll fns an T → ∃ n, CLe (look T) (evF fns an n)
  | [], _ => ⟨0, fun f args B r h => by cases h⟩
  | e :: T, h => by
    obtain ⟨⟨n, hn⟩, h2⟩ := h
    obtain ⟨m, hm⟩ := look_has h2
    refine ⟨max n m, fun f args B r h => ?_⟩
    simp only [look] at h
    split at h
    · rename_i hc
      simp only [Bool.and_eq_true, decide_eq_true_eq] at hc
      obtain ⟨rfl, h1, h2⟩ := hc
      rw [← all2_eq SV.eqb_eq _ _ h1, ← all2_eq Ent.eqb_eq _ _ h2]
      injection h with h; subst h
      exact evF_le fns an (Nat.le_max_left _ _) _ _ _ _ hn
    · exact evF_le fns an (Nat.le_max_right _ _) _ _ _ _ (hm _ _ _ _ h)

/-- Known calls make a new one known. -/
theorem Has.of {fns : FuncId → Option IFn} {an : Ann} {e : Kn} (T : List Kn) (hT : HasAll fns an T) (k : Nat) (h : evB fns an (look T) k e.f e.args e.B = some e.r) : Has fns an e := by
  obtain ⟨n, hn⟩ := look_has hT
  refine ⟨max n k + 1, ?_⟩
  rw [evF_succ]
  refine evB_cle (fun f args B r h => evF_le fns an (Nat.le_max_left n k) f args B r (hn f args B r h)) (Nat.le_max_right _ _) _ _ _ _ h
end Go.Ab
