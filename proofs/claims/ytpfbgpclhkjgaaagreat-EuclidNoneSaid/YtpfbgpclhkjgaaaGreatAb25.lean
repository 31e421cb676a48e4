/- A part of the proof: an evaluator of programs, its soundness, and what it says of the functions in hand. It holds without further conditions. -/
import Derived.Test.YtpfbgpclhkjgaaaGreatAb24
import Derived.ProofKit
set_option linter.unusedVariables false
set_option linter.unusedSimpArgs false
namespace Go.Ab
open Go.ChangeShapes

theorem heap_start (w : World) (ρ : Rho) : Heap w (fun _ => False) ρ [] [] := by
  have hd : ∀ i, ent ([] : List Ent) [] i = .dead := fun i => by cases i <;> simp [ent]
  refine ⟨fun i j hi => ?_, fun i hi => ?_, fun b h => h.elim, fun i sz xs h => ?_, fun i sz xs h => ?_⟩
  · rw [hd] at hi; simp [Ent.isOwn] at hi
  · rw [hd] at hi; simp [Ent.isOwn] at hi
  · rw [hd] at h; cases h
  · rw [hd] at h; cases h

/-- A known call, made. -/
theorem known_calls {P : Program} {fns : FuncId → Option IFn} {an : Ann} (ht : TabOK P fns) (hm : P.follows .mixedOrders = true) {f : FuncId} {xs : List FV} {b : Bool} {B' L' : List Ent}
    (h : Has fns an ⟨f, xs.map .fv, [], (.fv (.bool b), B', L')⟩) {W : World} {vs : Array Value} (hl : vs.size = xs.length) (hr : ∀ j v x, At vs j = some v → xs[j]? = some x → Rd W (fun _ => False) v x) :
    Calls P f vs W fun e W' => e = .returned (.bool b) ∧ Chg (fun _ => False) W W' := by
  obtain ⟨n, hn⟩ := h
  refine ((good_evF ht hm n).run _ _ _ _ _ _ hn W (fun _ => False) (fun _ => (0, 0)) vs (heap_start W _) (by simp [hl]) fun j v s hv hs => ?_).mono ?_
  · simp only [List.getElem?_map, Option.map_eq_some_iff] at hs
    obtain ⟨x, hx, rfl⟩ := hs
    exact Rd.congrA (fun b h => (Av_none _ _ b).1 h) (hr j v x hv hx)
  · rintro e W' ⟨v, ρ', rfl, hx, hs⟩
    refine ⟨?_, hx.chg.mono fun k _ ⟨i, hi, _⟩ => ?_⟩
    · rw [Rd.inv_bool hs]
    · have hd : ent ([] : List Ent) [] i = .dead := by cases i <;> simp [ent]
      rw [hd] at hi; simp [Ent.isOwn] at hi

theorem chg_kept {W W' : World} (h : Chg (fun _ => False) W W') (may : MemPlace → Prop) : W.keptBut W' may := by
  refine ⟨h.os, h.output, fun i hi => ?_⟩
  rw [h.block i hi (fun h => h)]
  cases he : W.heap[i]? with
  | none => rfl
  | some o => cases o <;> simp

theorem trodAll_bool {H : Type} {enc : TypeId × Value → H} {P : Program} {W : World} {b : Nat} {sp : Nat → Bool} {hd : Bool} {t : TypeId} (ht : P.underlying t = some .bool) (x : Bool) :
    DataW.TrodAll enc P W b sp hd [t] [.bool x] [.lit (.bool x)] [] :=
  ⟨[], [], ⟨1, by
    have hc : (Value.bool x).cells.toList = [.bool x] := rfl
    rw [hc]; simp [DataW.trod, ht]⟩, rfl, rfl⟩

/-- What a law leaves: it says true, and whatever it read reads as before. -/
theorem post_of_chg {H : Type} {enc : TypeId × Value → H} {P : Program} {f : Func} {s : ChangeSpec} {apart fresh handsOn again : Bool} {W W' : World} {args : Array Value} {ds gs : List (DataW H)} {before : List MemPlace} {t : TypeId}
    (hW : DataW.Whole enc P f.params.toList s.vars apart W args.toList ds gs before) (hc : Chg (fun _ => False) W W')
    (hrt : f.resultTypes = #[t]) (ht : P.underlying t = some .bool) (hres : (s.fn H (ds ++ gs)).results = [.lit (.bool true)]) (hv : s.vars = [])
    (hvs : (s.fn H (ds ++ gs)).vars = [])
    (hargs : ∀ sp : Nat → Bool, (∀ p ∈ before, sp p.block = true) → DataW.TrodAll enc P W' 0 sp true f.params.toList args.toList (s.fn H (ds ++ gs)).args before) :
    s.post enc P f apart fresh handsOn again W args (.bool true) W' := by
  have hold : ∀ p ∈ before, (fun b => decide (b < W.heap.size)) p.block = true := fun p hp => by simpa using hW.lt p hp
  have hlt := hW.lt
  have res : ∀ (b : Nat) (sp : Nat → Bool) (hd : Bool), DataW.TrodAll enc P W' b sp hd f.resultTypes.toList ((Value.bool true).resultList f.resultTypes.size) (s.fn H (ds ++ gs)).results [] := by
    intro b sp hd
    rw [hrt, hres]
    exact trodAll_bool ht true
  have vars : ∀ sp : Nat → Bool, DataW.TrodVars enc P W' sp s.vars (s.fn H (ds ++ gs)).vars [] := by
    intro sp
    rw [hv, hvs]; rfl
  refine ⟨ds, gs, before, [], before, [], hW, res _ _ _, hargs _ hold, vars _, World.keptBut_mono (fun p hp => ⟨hp, .inr (.inl hp)⟩) (chg_kept hc _), fun _ => ?_⟩
  obtain ⟨p, q, _, _, hp, hz, hn⟩ := hW
  refine ⟨fun j t' r h1 h2 => ?_, _, _, ([] ++ before) ++ [], ⟨[] ++ before, [], trodAll_append (hargs _ (fun _ _ => rfl)) (res _ _ _), vars _, rfl, ?_, ?_⟩, ?_⟩
  · rw [hrt] at h1 h2
    have hj : j = 0 := by
      cases j with
      | zero => rfl
      | succ j => simp at h1
    subst hj
    simp at h1
    subst h1
    have : (Value.bool true).resultList 1 = [.bool true] := rfl
    have h2' : ((Value.bool true).resultList 1)[0]? = some r := h2
    rw [this] at h2'
    simp at h2'
    subst h2'
    simp [Value.okWide, ht, Cell.okWide, Cell.ok]
  · intro b off hp'
    have hp2 : MemPlace.cell b off ∈ before := by simpa using hp'
    have hb : b < W.heap.size := hlt _ hp2
    have := hz b off hp2
    simp only [World.frozen?] at this ⊢
    rw [hc.block b hb (fun h => h)]; exact this
  · intro ha
    simpa using hn ha
  · intro p hp _
    simpa using hp
end Go.Ab
