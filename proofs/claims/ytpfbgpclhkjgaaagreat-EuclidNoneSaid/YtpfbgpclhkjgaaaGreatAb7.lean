/- A part of the proof: an evaluator of programs, its soundness, and what it says of the functions in hand. It holds without further conditions. -/
import Derived.Test.YtpfbgpclhkjgaaaGreatAb6
set_option linter.unusedVariables false
set_option linter.unusedSimpArgs false
namespace Go.Ab

section
variable {P : Program} {w : World} {O : Nat → Prop} {ρ : Rho} {B L : List Ent}

theorem fvOf_okPart {v : Value} {x : FV} (h : fvOf v = some x) : okPart x = true := by
  rcases (fvOf_rd h default (fun _ => False)).2 with h | ⟨cs, rfl⟩
  · cases x <;> first | rfl | (simp [FV.one] at h)
  · rfl

theorem zeroOf_run {t : TypeId} {z : FV} (h : zeroOf P t = some z) : ∃ v, (∀ w, (zeroValue t).run P w = .ok v w) ∧ (∀ w A, Rd w A v z) ∧ okPart z = true ∧ ∀ (w : World) A, CellsRel w A v.cells z.cells := by
  unfold zeroOf at h
  simp only [Option.bind_eq_some_iff] at h
  obtain ⟨i, hi, v, hv, hz⟩ := h
  refine ⟨v, fun w => by simp [zeroValue, typeInfo, hi, hv], fun w A => (fvOf_rd hz w A).1, fvOf_okPart hz, fun w A => Rd.cellsRel (fvOf_rd hz w A).1 (fvOf_okPart hz)⟩

theorem flat_replicate {z : FV} {n j : Nat} (hz : 0 < z.cells.length) (hj : j < n * z.cells.length) : (flat (List.replicate n z))[j]? = z.cells[j % z.cells.length]? := by
  have hi : j / z.cells.length < n := Nat.div_lt_of_lt_mul (by rw [Nat.mul_comm]; exact hj)
  have e : j = j / z.cells.length * z.cells.length + j % z.cells.length := by rw [Nat.mul_comm]; exact (Nat.div_add_mod j _).symm
  conv => lhs; rw [e]
  rw [getElem?_flat (sz := z.cells.length) _ _ z (fun x hx => by rw [List.eq_of_mem_replicate hx]) (by rw [List.getElem?_replicate, if_pos hi]) _ (Nat.mod_lt _ hz)]

theorem zeros_rel {A : Nat → Prop} {zv : Value} {z : FV} {n sz : Nat} (hr : CellsRel w A zv.cells z.cells) (hs : z.cells.length = sz) (hz : 0 < sz) :
    CellsRel w A ((Array.range (n * sz)).map fun i => zv.cells[i % zv.cells.size]!) (flat (List.replicate n z)) := by
  subst hs
  have hl : (flat (List.replicate n z)).length = n * z.cells.length := by
    rw [flat_length (sz := z.cells.length) _ (fun x hx => by rw [List.eq_of_mem_replicate hx])]; simp
  have hsz : zv.cells.size = z.cells.length := hr.1
  refine ⟨by rw [hl]; simp, fun x hx => ?_, fun j v x hv hx => ?_⟩
  · obtain ⟨y, hy, hx⟩ := List.mem_flatMap.1 hx
    rw [List.eq_of_mem_replicate hy] at hx
    exact hr.2.1 x hx
  · have hj : j < n * z.cells.length := by have := (List.getElem?_eq_some_iff.1 hx).1; omega
    rw [flat_replicate hz hj] at hx
    have hm : j % z.cells.length < zv.cells.size := by rw [hsz]; exact Nat.mod_lt _ hz
    simp only [At, Array.getElem?_map, Array.getElem?_range, hj, if_true, Option.map_some, Option.some.injEq] at hv
    subst hv
    refine hr.2.2 (j % z.cells.length) _ x ?_ hx
    rw [At, hsz]
    rw [← hsz] at hm ⊢
    simp [hm]

theorem run_places {fs : List Field} (h : fs.all (fun f => (szOf P f.type).isSome) = true) (w : World) :
    (List.mapM (fun f : Field => (do pure (f.offset, ← sizeOf f.type) : Sem (Nat × Nat))) fs).run P w = .ok (fs.map fun f => (f.offset, (szOf P f.type).getD 0)) w := by
  induction fs with
  | nil => simp
  | cons f fs ih =>
    simp only [List.all_cons, Bool.and_eq_true] at h
    obtain ⟨n, hn⟩ := Option.isSome_iff_exists.1 h.1
    simp only [List.mapM_cons, Sem.run_bind, run_sizeOf hn, Sem.run_pure, Result.andThen_ok, ih h.2, List.map_cons, hn, Option.getD_some]

theorem build_run (hh : Heap w O ρ B L) {nt : Nat} {val : Operand → Value} {g : Look} {t : TypeId} {fs : List Field} {z : FV} {ps : Array (Nat × Operand)} {qs : List (Nat × Nat × Opd)} {rs : List (Nat × Nat × FV)} {cs : List FV}
    (h1 : structOf P t = some fs) (h2 : zeroOf P t = some z) (h3 : fs.all (fun f => (szOf P f.type).isSome) = true) (h4 : trParts2 P nt fs ps.toList = some qs)
    (hg : ∀ x y, x ∈ ps.toList.map (·.2) → trOpd nt x = some y → SvRel w (Av O ρ B L) ρ B L (val x) (g y)) (h5 : parts2 B L g qs = some rs) (h6 : fillF z.cells rs = some cs) :
    ∃ v, (Instr.build t (ps.map fun (i, x) => (i, val x))).run P w = .ok v w ∧ Rd w (Av O ρ B L) v (.agg cs) := by
  obtain ⟨zv, hz1, hz2, hz3, hz4⟩ := zeroOf_run h2
  unfold structOf at h1
  split at h1
  · rename_i fa hu
    injection h1 with h1; subst h1
    obtain ⟨k1, k2⟩ := parts2_rel hh _ _ _ hg h4 h5
    have hok := fillF_okPart _ _ _ h6
    have hpl := run_places (P := P) h3 w
    obtain ⟨out, ho1, ho2⟩ := fill_run (w := w) (A := Av O ρ B L) (place := fun i => (fa.toList.map fun f => (f.offset, (szOf P f.type).getD 0))[i]?) (ps.toList.map fun p => (p.1, val p.2)) rs zv.cells z.cells cs (hz4 w _) (by simpa using k1)
      (fun j p r hp hr => by
        simp only [List.getElem?_map, Option.map_eq_some_iff] at hp
        obtain ⟨p0, hp0, rfl⟩ := hp
        obtain ⟨⟨f, hf, e1, e2⟩, e3⟩ := k2 j p0 r hp0 hr
        refine ⟨by simp [hf, e1, e2], Rd.cellsRel e3 (hok r (List.mem_of_getElem? hr))⟩) h6
    refine ⟨.agg out, ?_, .agg _ _ ho2.1 ho2.2.1 ho2.2.2⟩
    unfold Instr.build
    simp only [Sem.run_bind, hz1, Result.andThen_ok, run_underlying hu, Array.mapM_eq_mapM_toList, Sem.run_map, hpl]
    have e : (fun x : Nat => ((fa.toList.map fun f => (f.offset, (szOf P f.type).getD 0)).toArray[x]? : Option (Nat × Nat))) = fun i : Nat => ((fa.toList.map fun f => (f.offset, (szOf P f.type).getD 0))[i]? : Option (Nat × Nat)) := by
      funext i; rw [List.getElem?_toArray]
    have e2 : (ps.map fun (p : Nat × Operand) => (p.1, val p.2)).toList = ps.toList.map fun p => (p.1, val p.2) := by simp
    rw [e, e2, ho1]
    rfl
  · cases h1

theorem Heap.alloc_ext (hh : Heap w O ρ B L) (o : Obj) : Chg (fun _ => False) w (w.alloc o) := Chg.alloc _ _ _

theorem slice_of_cells {A : Nat → Prop} {cells : Array Value} {xs : List FV} {sz : Nat} {t : TypeId} {tg : Tag} (hc : CellsRel w A cells (flat xs)) (hz : 0 < sz) (hw : ∀ x ∈ xs, x.cells.length = sz) (hA : ∀ b, A b → b < w.heap.size)
    (ht : tg = .full ∨ tg = .any) :
    Rd (w.alloc (.cells cells t)) A (.slice (some ⟨w.heap.size, 0, none⟩) xs.length xs.length) (.sl tg xs) := by
  have hrd : ∀ {v x}, Rd w A v x → Rd (w.alloc (.cells cells t)) A v x := fun h => Rd.chg h (Chg.alloc _ _ _)
  have ht' : ∀ a, TagOK tg a xs.length xs.length := fun a => by rcases ht with rfl | rfl <;> simp [TagOK]
  by_cases hx : xs = []
  · subst hx; exact .slE _ _ _ (ht' _)
  · refine Rd.sl tg xs sz w.heap.size 0 xs.length (fun j => cells[j]?.getD undef) hz hx (Nat.le_refl _) (fun x hx => ⟨hw x hx, fun y hy => hc.2.1 y (List.mem_flatMap.2 ⟨x, hx, hy⟩)⟩)
      (fun h => absurd (hA _ h) (Nat.lt_irrefl _)) (fun j hj => ?_) (fun j x hx => ?_) (ht' _)
    · have hj' : j < cells.size := by rw [hc.1]; exact hj
      rw [Nat.zero_add, World.cell?_alloc_new]
      simp [hj']
    · have hj' : j < cells.size := by rw [hc.1]; exact (List.getElem?_eq_some_iff.1 hx).1
      refine hrd (hc.2.2 j _ x ?_ hx)
      simp [At, hj']

theorem Heap.avLt (hh : Heap w O ρ B L) (b : Nat) (h : Av O ρ B L b) : b < w.heap.size := by
  rcases h with h | ⟨i, hi, rfl⟩
  · exact hh.oLt b h
  · cases he : ent B L i with
    | own sz xs =>
      obtain ⟨_, _, _, _, cur, t, h5, _⟩ := hh.own i sz xs he
      exact (Array.getElem?_eq_some_iff.1 h5).1
    | dead => rw [he] at hi; simp [Ent.isOwn] at hi
    | frz sz xs => rw [he] at hi; simp [Ent.isOwn] at hi

theorem bsl_run (hh : Heap w O ρ B L) {nt : Nat} {val : Operand → Value} {g : Look} {t e : TypeId} {z : FV} {sz n : Nat} {ps : Array (Nat × Operand)} {qs : List (Nat × Opd)} {rs : List (Nat × FV)} {xs : List FV}
    (h1 : P.underlying t = some (.slice e)) (h0 : szOf P e = some sz) (h2 : zeroOf P e = some z) (h4 : trParts1 nt ps.toList = some qs)
    (hg : ∀ x y, x ∈ ps.toList.map (·.2) → trOpd nt x = some y → SvRel w (Av O ρ B L) ρ B L (val x) (g y)) (h5 : parts1 B L g qs = some rs) (hz : 0 < sz) (hzl : z.cells.length = sz) (hn : n * sz ≤ 16777216)
    (h6 : fillS sz (List.replicate n z) rs = some xs) :
    Gives P w O ρ B L ((Instr.buildSlice t n (ps.map fun (i, x) => (i, val x))).run P w) (.fv (.sl .full xs)) := by
  obtain ⟨zv, hz1, hz2, hz3, hz4⟩ := zeroOf_run h2
  obtain ⟨k1, k2⟩ := parts1_rel hh _ _ _ hg h4 h5
  obtain ⟨f1, f2, f3⟩ := fillS_F _ _ _ (fun x hx => by rw [List.eq_of_mem_replicate hx]; exact hzl) h6
  have hok := fillF_okPart _ _ _ f1
  have hzr : CellsRel w (Av O ρ B L) ((Array.range (n * sz)).map fun i => (if n * sz = 0 then #[] else zv.cells)[i % (if n * sz = 0 then #[] else zv.cells).size]!) (flat (List.replicate n z)) := by
    by_cases h0 : n * sz = 0
    · have hn0 : n = 0 := by rcases Nat.mul_eq_zero.1 h0 with h | h <;> omega
      subst hn0
      simp [CellsRel, flat]
    · simp only [h0, if_false]
      exact zeros_rel (hz4 w _) hzl hz
  obtain ⟨out, ho1, ho2⟩ := fill_run (w := w) (A := Av O ρ B L) (place := fun i => some (i * sz, sz)) (ps.toList.map fun p => (p.1, val p.2)) _ _ _ (flat xs) hzr (by simpa using k1)
    (fun j p r hp hr => by
      simp only [List.getElem?_map, Option.map_eq_some_iff] at hp hr
      obtain ⟨p0, hp0, rfl⟩ := hp
      obtain ⟨r0, hr0, rfl⟩ := hr
      obtain ⟨e1, e3⟩ := k2 j p0 r0 hp0 hr0
      refine ⟨by simp [e1], Rd.cellsRel e3 (hok (r0.1 * sz, sz, r0.2) (List.mem_map.2 ⟨r0, List.mem_of_getElem? hr0, rfl⟩))⟩) f1
  have hlen : xs.length = n := by rw [f3]; simp
  refine ⟨.slice (some ⟨w.heap.size, 0, none⟩) n n, w.alloc (.cells out e), ?_, Chg.alloc _ _ _, ?_⟩
  · unfold Instr.buildSlice
    simp only [Sem.run_bind, run_underlying h1, Result.andThen_ok, run_sizeOf h0]
    rw [if_neg (by omega)]
    by_cases h0 : n * sz = 0
    · simp only [h0, if_true, Sem.run_bind, Sem.run_pure, Result.andThen_ok] at ho1 ⊢
      have e2 : (ps.map fun (p : Nat × Operand) => (p.1, val p.2)).toList = ps.toList.map fun p => (p.1, val p.2) := by simp
      rw [e2, ho1]
      simp [newRow]
    · simp only [h0, if_false, Sem.run_bind, Sem.run_pure, hz1, Result.andThen_ok] at ho1 ⊢
      have e2 : (ps.map fun (p : Nat × Operand) => (p.1, val p.2)).toList = ps.toList.map fun p => (p.1, val p.2) := by simp
      rw [e2, ho1]
      simp [newRow]
  · have := slice_of_cells (t := e) (tg := .full) ho2 hz f2 hh.avLt (.inl rfl)
    rw [hlen] at this
    exact this
end
end Go.Ab
