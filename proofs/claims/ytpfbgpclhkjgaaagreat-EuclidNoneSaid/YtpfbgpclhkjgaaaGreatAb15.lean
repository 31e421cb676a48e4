/- A part of the proof: an evaluator of programs, its soundness, and what it says of the functions in hand. It holds without further conditions. -/
import Derived.Test.YtpfbgpclhkjgaaaGreatAb14
set_option linter.unusedVariables false
set_option linter.unusedSimpArgs false
namespace Go.Ab

section
variable {P : Program} {w w' : World} {O : Nat → Prop} {ρ : Rho} {B L : List Ent}

theorem sv_ids_valid {v : Value} {s : SV} (hr : SvRel w (Av O ρ B L) ρ B L v s) : ∀ i ∈ s.ids, i.valid B L := by
  intro i hi
  cases s with
  | unk => simp [SV.ids] at hi
  | fv x => simp [SV.ids] at hi
  | ref id sz off len ap => simp [SV.ids] at hi; subst hi; exact hr.1
  | ptr id sz k c => simp [SV.ids] at hi; subst hi; exact hr.1
  | clo f nf caps =>
    obtain ⟨fs, cs, e, h1, h2, h4⟩ := hr
    simp only [SV.ids, List.mem_flatMap] at hi
    obtain ⟨c, hc, hi⟩ := hi
    obtain ⟨j, hj⟩ := List.mem_iff_getElem?.1 hc
    have hjl : j < (fs ++ cs).size := by rw [h2]; exact (List.getElem?_eq_some_iff.1 hj).1
    have := h4 j _ c (by unfold At; exact Array.getElem?_eq_getElem hjl) hj
    cases c with
    | fz y => simp [Cap.ids] at hi
    | own id sz => simp [Cap.ids] at hi; subst hi; exact this.1

theorem sv_up {sel : List Id} {ρ' : Rho} {B' L' B1 L1 : List Ent} {A A' : Nat → Prop} (hA : ∀ b, A' b → A b) (hl : L1.length = L.length) (hv : ∀ i ∈ sel, i.valid B1 L1) (hBl : B'.length = sel.length)
    (hrho : ∀ (j : Nat) (k : Id), sel[j]? = some k → ρ' (.b j) = ρ k) (hold : ∀ i, i.valid B1 L1 → upR ρ ρ' L.length i = ρ i) {v : Value} {s : SV} (hr : SvRel w A ρ' B' L' v s) :
    SvRel w A' (upR ρ ρ' L.length) B1 (L1 ++ L') v (s.ren (upFrom sel L.length)) := by
  have hid : ∀ i, i.valid B' L' → upR ρ ρ' L.length (upFrom sel L.length i) = ρ' i ∧ (upFrom sel L.length i).valid B1 (L1 ++ L') := by
    intro i hi
    cases i with
    | b j =>
      simp only [Id.valid] at hi
      have hj : sel[j]? = some (sel[j]'(by omega)) := List.getElem?_eq_getElem _
      have hm := hv _ (List.mem_of_getElem? hj)
      simp only [upFrom, List.getD_eq_getElem?_getD, hj, Option.getD_some]
      refine ⟨by rw [hold _ hm, hrho j _ hj], ?_⟩
      cases hk : sel[j]'(by omega) with
      | b n => rw [hk] at hm; exact hm
      | l n => rw [hk] at hm; simp only [Id.valid] at hm ⊢; simp; omega
    | l k =>
      simp only [Id.valid] at hi
      refine ⟨?_, ?_⟩
      · simp only [upFrom, upR]; rw [if_neg (by omega), Nat.add_sub_cancel_left]
      · simp only [upFrom, Id.valid, List.length_append]; omega
  cases s with
  | unk => trivial
  | fv x => exact Rd.congrA hA hr
  | ref id sz off len ap =>
    obtain ⟨h1, h2⟩ := hid id hr.1
    refine ⟨h2, ?_⟩
    rw [h1]; exact hr.2
  | ptr id sz i c =>
    obtain ⟨h1, h2⟩ := hid id hr.1
    refine ⟨h2, ?_⟩
    rw [h1]; exact hr.2
  | clo f nf caps =>
    obtain ⟨fs, cs, e, h1, h2, h4⟩ := hr
    refine ⟨fs, cs, e, h1, by simpa using h2, fun j u x hu hx => ?_⟩
    simp only [List.getElem?_map, Option.map_eq_some_iff] at hx
    obtain ⟨c, hc, rfl⟩ := hx
    have := h4 j u c hu hc
    cases c with
    | fz y => exact Rd.congrA hA this
    | own id sz =>
      obtain ⟨k1, k2⟩ := hid id this.1
      exact ⟨k2, by rw [k1]; exact this.2⟩

theorem sv_append {a b : Array Value} {xs ys : List SV} {A : Nat → Prop} (hl : a.size = xs.length) (ha : ∀ j v x, At a j = some v → xs[j]? = some x → SvRel w A ρ B L v x) (hb : ∀ j v x, At b j = some v → ys[j]? = some x → SvRel w A ρ B L v x) :
    ∀ j v x, At (a ++ b) j = some v → (xs ++ ys)[j]? = some x → SvRel w A ρ B L v x := by
  intro j v x hv hx
  by_cases hj : j < a.size
  · simp only [At] at hv
    rw [Array.getElem?_append_left hj] at hv
    rw [List.getElem?_append_left (by omega)] at hx
    exact ha j v x hv hx
  · simp only [At] at hv
    rw [Array.getElem?_append_right (by omega)] at hv
    rw [List.getElem?_append_right (by omega)] at hx
    rw [hl] at hv
    exact hb _ v x hv hx

theorem callArgs_run {s : SV} {v : Value} {args : List SV} {vs : Array Value} {n : FuncId} {as : List SV} (h : callArgs s args = some (n, as)) (hr : SvRel w (Av O ρ B L) ρ B L v s) (hl : vs.size = args.length)
    (ha : ∀ j v x, At vs j = some v → args[j]? = some x → SvRel w (Av O ρ B L) ρ B L v x) :
    ∃ fs cs, v = .func (.func n) fs cs ∧ (fs ++ vs ++ cs).size = as.length ∧ (∀ j v x, At (fs ++ vs ++ cs) j = some v → as[j]? = some x → SvRel w (Av O ρ B L) ρ B L v x) ∧
      ∀ x ∈ as, ∀ i ∈ x.ids, i ∈ s.ids ++ args.flatMap SV.ids := by
  unfold callArgs at h
  split at h
  · rename_i n' first caps
    simp only [Option.some.injEq, Prod.mk.injEq] at h
    obtain ⟨rfl, rfl⟩ := h
    obtain ⟨fs, cs, e, k1, k2, k3, k4⟩ := Rd.inv_fn hr
    refine ⟨fs, cs, e, by simp [k1, k2, hl], sv_append (by simp [k1, hl]) (sv_append (by simpa using k1) ?_ ha) ?_, ?_⟩
    · intro j v x hv hx
      simp only [List.getElem?_map, Option.map_eq_some_iff] at hx
      obtain ⟨y, hy, rfl⟩ := hx
      exact k3 j v y hv hy
    · intro j v x hv hx
      simp only [List.getElem?_map, Option.map_eq_some_iff] at hx
      obtain ⟨y, hy, rfl⟩ := hx
      exact k4 j v y hv hy
    · intro x hx i hi
      simp only [List.mem_append, List.mem_map] at hx
      rcases hx with (⟨y, _, rfl⟩ | hx) | ⟨y, _, rfl⟩
      · simp [SV.ids] at hi
      · exact List.mem_append_right _ (List.mem_flatMap.2 ⟨x, hx, hi⟩)
      · simp [SV.ids] at hi
  · rename_i n' nf caps
    simp only [Option.some.injEq, Prod.mk.injEq] at h
    obtain ⟨rfl, rfl⟩ := h
    obtain ⟨fs, cs, e, k1, k2, k4⟩ := hr
    have k2' : fs.size + cs.size = caps.length := by rw [← Array.size_append]; exact k2
    have one : ∀ j v x, At (fs ++ cs) j = some v → (caps.map capArg)[j]? = some x → SvRel w (Av O ρ B L) ρ B L v x := by
      intro j v x hv hx
      simp only [List.getElem?_map, Option.map_eq_some_iff] at hx
      obtain ⟨y, hy, rfl⟩ := hx
      have := k4 j v y hv hy
      cases y with
      | fz z => exact this
      | own id sz => exact ⟨this.1, by simpa using this.2⟩
    refine ⟨fs, cs, e, by simp; omega, sv_append (by simp; omega) (sv_append (by simp; omega) (fun j v x hv hx => ?_) ha) (fun j v x hv hx => ?_), ?_⟩
    · have hj := At_lt hv
      rw [List.getElem?_take, if_pos (by omega)] at hx
      refine one j v x ?_ hx
      simp only [At] at hv ⊢
      rw [Array.getElem?_append_left hj]; exact hv
    · rw [List.getElem?_drop] at hx
      refine one (nf + j) v x ?_ hx
      simp only [At] at hv ⊢
      rw [Array.getElem?_append_right (by omega), show nf + j - fs.size = j by omega]; exact hv
    · intro x hx i hi
      have cap : x ∈ caps.map capArg → i ∈ (SV.clo (.func n') nf caps).ids := by
        intro hx
        simp only [List.mem_map] at hx
        obtain ⟨y, hy, rfl⟩ := hx
        simp only [SV.ids, List.mem_flatMap]
        refine ⟨y, hy, ?_⟩
        cases y with
        | fz z => simp [capArg, SV.ids] at hi
        | own id sz => simpa [capArg, SV.ids, Cap.ids] using hi
      simp only [List.mem_append] at hx
      rcases hx with (hx | hx) | hx
      · exact List.mem_append_left _ (cap (List.mem_of_mem_take hx))
      · exact List.mem_append_right _ (List.mem_flatMap.2 ⟨x, hx, hi⟩)
      · exact List.mem_append_left _ (cap (List.mem_of_mem_drop hx))
  · cases h

theorem evI_wp {nt : Nat} {a : Act} {g : Look} {call : Disp} {raw : Bool} (good : Good P call) {dst : Option Tmp} {f : Operand} {args : Array Operand} {ts : Array TypeId} {type : TypeId} {pos : String} {after : Array Edge} {guard : Option (Nat × Bool)}
    {f' : Opd} {as : List Opd} {s : SV} {B2 L2 : List Ent} (hh : Heap w O ρ B L) (hg : Ops P nt w O ρ B L a.eval g (.call ⟨.value f, args, ts⟩)) (h1 : trOpd nt f = some f') (h2 : trOpds nt args.toList = some as)
    (h : evI call raw g f' as B L = some (s, B2, L2)) {next : Act → World → Prop} {Q : Exit → Act → World → Prop}
    (hn : ∀ v w' ρ', Ext w O ρ B L w' ρ' B2 L2 → SvRel w' (Av O ρ' B2 L2) ρ' B2 L2 v s → next (a.put dst v) w') : Oper.wp P ⟨dst, .call ⟨.value f, args, ts⟩, type, pos, after, guard⟩ a w next Q := by
  unfold evI at h
  simp only [Option.bind_eq_some_iff] at h
  obtain ⟨⟨n, svs⟩, hca, h⟩ := h
  simp only at h
  split at h
  · cases h
  · simp only [Option.bind_eq_some_iff] at h
    obtain ⟨⟨r, B', L'⟩, hc, h⟩ := h
    simp only at h
    have hrf := hg f f' (by simp [Op.operands, Call.operands]) h1
    obtain ⟨a1, a2⟩ := opds_rel (w := w) (O := O) (ρ := ρ) (B := B) (L := L) (val := a.eval) (g := g) h2 (fun x y hx => hg x y (by simp [Op.operands, Call.operands]; exact .inr (by simpa using hx)))
    obtain ⟨fs, cs, hvf, hsz, hsv, hids⟩ := callArgs_run (vs := args.map a.eval) hca hrf (by rw [← a1]; simp) (fun j v x hv hx => a2 j v x (by simpa [At] using hv) hx)
    have hselm : ∀ i, i ∈ selOf g f' as ↔ i ∈ (g f').ids ++ (as.map g).flatMap SV.ids := by
      intro i
      rw [selOf, mem_dedup, List.flatMap_map]
    have hnd : (selOf g f' as).Nodup := nodup_dedup _
    have hval : ∀ i ∈ selOf g f' as, i.valid B L := by
      intro i hi
      rcases List.mem_append.1 ((hselm i).1 hi) with hi | hi
      · exact sv_ids_valid hrf i hi
      · obtain ⟨x, hx, hi⟩ := List.mem_flatMap.1 hi
        obtain ⟨j, hj⟩ := List.mem_iff_getElem?.1 hx
        have hjl : j < (args.toList.map a.eval).length := by rw [a1]; exact (List.getElem?_eq_some_iff.1 hj).1
        exact sv_ids_valid (a2 j _ x (List.getElem?_eq_getElem hjl) hj) i hi
    generalize hsel : selOf g f' as = sel at *
    have hcalls := good.run _ _ _ _ _ _ hc w (OutO O ρ B L sel) (subR ρ sel) (fs ++ args.map a.eval ++ cs) (heap_sub hh hnd) (by rw [hsz]; simp) (fun j v x hv hx => by
      simp only [List.getElem?_map, Option.map_eq_some_iff] at hx
      obtain ⟨y, hy, rfl⟩ := hx
      exact sv_down (hsv j v y hv hy) (fun i hi => (hselm i).2 (hids y (List.mem_of_getElem? hy) i hi)))
    unfold Oper.wp
    rw [call_op_run hvf (good.ent _ _ _ _ _ _ hc _ w), Oper.upon_enter]
    refine hcalls.mono ?_
    rintro e w' ⟨v, ρ', rfl, hext, hrel⟩
    obtain ⟨hback, hav⟩ := back_ext hh hnd hval hext
    have hBl : B'.length = sel.length := by simpa using hext.lenB
    obtain ⟨l1, l2, w1, w2⟩ := writeBack_ent sel B' B L hnd hBl hval
    have hval1 : ∀ i ∈ sel, i.valid (writeBack sel B' B L).1 (writeBack sel B' B L).2 := fun i hi => (hval i hi).ext l1 (by omega)
    have hrho : ∀ (j : Nat) (k : Id), sel[j]? = some k → ρ' (.b j) = ρ k := by
      intro j k hk
      have hj := (List.getElem?_eq_some_iff.1 hk).1
      rw [hext.rho (.b j) (by simpa [Id.valid] using hj)]
      simp [subR, List.getD_eq_getElem?_getD, hk]
    have hup := sv_up (L := L) (ρ := ρ) (A' := Av O (upR ρ ρ' L.length) (writeBack sel B' B L).1 ((writeBack sel B' B L).2 ++ L')) (fun b hb => (hav b).1 hb) l2 hval1 hBl hrho (fun i hi => upR_old (B := B) (by
      cases i <;> simp only [Id.valid] at hi ⊢ <;> omega)) hrel
    split at h
    · simp only [Option.some.injEq, Prod.mk.injEq] at h
      obtain ⟨rfl, rfl, rfl⟩ := h
      exact hn v w' _ hback hup
    · -- the callee's own rows are dropped
      have hwk : Weak (writeBack sel B' B L).1 ((writeBack sel B' B L).2 ++ L') (writeBack sel B' B L).1 (writeBack sel B' B L).2 := by
        intro i
        rw [ent_app]
        cases i with
        | b j => exact .inl rfl
        | l j =>
          simp only
          split
          · exact .inl rfl
          · rename_i hj
            exact .inr (.inr (by simp [ent, List.getD_eq_getElem?_getD, List.getElem?_eq_none (Nat.le_of_not_lt hj)]))
      have hext2 : Ext w O ρ B L w' (upR ρ ρ' L.length) (writeBack sel B' B L).1 (writeBack sel B' B L).2 :=
        ⟨hback.chg, hback.heap.weaken hwk, hback.rho, fun b hb h => hback.av b hb (hwk.av h), l1, by omega⟩
      split at h
      · rename_i j sz off len ap
        simp only [Option.some.injEq, Prod.mk.injEq] at h
        obtain ⟨rfl, rfl, rfl⟩ := h
        refine hn v w' _ hext2 ⟨?_, hup.2⟩
        have hj : j < sel.length := by have := hrel.1; simp only [Id.valid] at this; omega
        have hk : sel[j]? = some sel[j] := List.getElem?_eq_getElem hj
        simp only [List.getD_eq_getElem?_getD, hk, Option.getD_some]
        exact hval1 _ (List.getElem_mem hj)
      · obtain ⟨x, hx, he⟩ := Option.map_eq_some_iff.1 h
        simp only [Prod.mk.injEq] at he
        obtain ⟨rfl, rfl, rfl⟩ := he
        refine hn v w' _ hext2 ?_
        have hwf : Weak B' L' B' (L'.map Ent.fz) := by
          intro i
          cases i with
          | b j => exact .inl rfl
          | l j => exact .inr (.inl (by simp only [ent, List.getD_eq_getElem?_getD, List.getElem?_map]; cases L'[j]? <;> rfl))
        have hh' := hext.heap.weaken hwf
        have hrel' := SvRel.weak hwf rfl (by simp) hrel
        have hx' := toFV_mono (B2 := B') (L2 := L'.map Ent.fz) (fun id hd => by
          cases id with
          | b j => simp [ent] at hd
          | l j => rfl) hx
        have hrd := toFV_rd hh' hx' hrel'
        refine Rd.congrA (fun b hb => ?_) hrd
        -- what is shunned in the end is shunned by the callee's frozen arena
        rcases hb with hb | ⟨i, hi, e⟩
        · exact .inl (.inl hb)
        · by_cases hs : i ∈ sel
          · obtain ⟨j, hj⟩ := List.mem_iff_getElem?.1 hs
            rw [w1 j i hj] at hi
            refine .inr ⟨.b j, hi, ?_⟩
            rw [hrho j i hj]
            rw [upR_old (B := B) (hval i hs)] at e
            exact e
          · rw [w2 i hs] at hi
            refine .inl (.inr ⟨i, hi, hs, ?_⟩)
            rw [upR_old (B := B) (own_valid hi)] at e
            exact e
end
end Go.Ab
