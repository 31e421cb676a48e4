/- A part of the proof: an evaluator of programs, its soundness, and what it says of the functions in hand. It holds without further conditions. -/
import Derived.Test.YtpfbgpclhkjgaaaGreatAb11
set_option linter.unusedVariables false
set_option linter.unusedSimpArgs false
namespace Go.Ab

section
variable {P : Program} {w w' : World} {O : Nat → Prop} {ρ : Rho} {B L : List Ent}

/-- What is looked for of an operation that may turn the arena. -/
def Acts (P : Program) (w : World) (O : Nat → Prop) (ρ : Rho) (B L : List Ent) (r : Result Next) (s : SV) (B' L' : List Ent) : Prop :=
  ∃ v w' ρ', (r = .ok (.value v) w' ∨ (r = .ok .skip w' ∧ v = undef)) ∧ Ext w O ρ B L w' ρ' B' L' ∧ SvRel w' (Av O ρ' B' L') ρ' B' L' v s

theorem valid_push (B L : List Ent) (e : Ent) : (Id.l L.length).valid B (L ++ [e]) := by simp [Id.valid]

theorem setE_dead_weak {id : Id} (B L : List Ent) (h : (ent B L id).isOwn = true) : Weak B L (setE id .dead B L).1 (setE id .dead B L).2 := by
  intro i
  rw [ent_setE id .dead B L (own_valid h)]
  split
  · exact .inr (.inr rfl)
  · exact .inl rfl

theorem new_one {sz : Nat} {z : FV} {zv : Value} (hh : Heap w O ρ B L) (t : TypeId) (hz : 0 < sz) (hzl : z.cells.length = sz) (hr : CellsRel w (Av O ρ B L) zv.cells z.cells) :
    Ext w O ρ B L (w.alloc (.cells zv.cells t)) (upd ρ (.l L.length) (w.heap.size, 1)) B (L ++ [.own sz [z]]) :=
  Ext.insert hh (Weak.refl _ _) rfl rfl (.inl (Nat.le_refl _)) (Chg.alloc _ _ _) hz (fun x hx => by rw [List.mem_singleton.1 hx]; exact ⟨hzl, hr.2.1⟩) (by simp) (by simp [maxLen])
    (heap_alloc_new w _) (by rw [hr.1, hzl]; simp) (fun j x hx => by
      have hx' : z.cells[j]? = some x := by simpa [flat] using hx
      have hj : j < zv.cells.size := by rw [hr.1]; exact (List.getElem?_eq_some_iff.1 hx').1
      exact ⟨zv.cells[j], by simp [At, hj], hr.2.2 j _ x (by simp [At, hj]) hx'⟩)

theorem ptr_new (A : Nat → Prop) (W : World) (e : Ent) (sz n : Nat) : SvRel W A (upd ρ (.l L.length) (n, 1)) B (L ++ [e]) (.pointer (some ⟨n, 0, none⟩)) (.ptr (.l L.length) sz 0 0) :=
  ⟨valid_push _ _ _, by simp [upd]⟩

theorem mksl_run {t e : TypeId} {sz by' : Nat} {z : FV} {k : IntKind} {n : Int} (hh : Heap w O ρ B L) (h1 : P.underlying t = some (.slice e)) (h2 : szOf P e = some sz) (h3 : byOf P e = some by') (h4 : zeroOf P e = some z)
    (h0 : 0 ≤ n) (hb : n * by' ≤ 140737488355328) (hb0 : 0 < by') (hz : 0 < sz) (hzl : z.cells.length = sz) :
    ∃ w' ρ', (Instr.makeSlice t (.int k n) (.int k n)).run P w = .ok (.slice (some ⟨w.heap.size, 0, none⟩) n.toNat n.toNat) w' ∧ Ext w O ρ B L w' ρ' B (L ++ [.own sz (List.replicate n.toNat z)]) ∧ ρ' (.l L.length) = (w.heap.size, n.toNat) := by
  obtain ⟨zv, hz1, hz2, hz3, hz4⟩ := zeroOf_run h4
  obtain ⟨m, rfl⟩ := Int.eq_ofNat_of_zero_le h0
  have hbn : m * by' ≤ 140737488355328 := by
    have h' : ((m * by' : Nat) : Int) ≤ ((140737488355328 : Nat) : Int) := by rw [Int.natCast_mul]; exact hb
    exact Int.ofNat_le.1 h'
  have hm : m ≤ 140737488355328 := Nat.le_trans (Nat.le_mul_of_pos_right _ hb0) hbn
  have hwr : IntKind.i64.wrap (m : Int) = m := IntWalk.i64_in _ ⟨by omega, by omega⟩
  obtain ⟨i, hi, hby⟩ := Option.map_eq_some_iff.1 h3
  have hzr := zeros_rel (n := m) (hz4 w (Av O ρ B L)) hzl hz
  refine ⟨w.alloc (.cells ((Array.range (m * sz)).map fun i => (if m * sz = 0 then #[] else zv.cells)[i % (if m * sz = 0 then #[] else zv.cells).size]!) e), upd ρ (.l L.length) (w.heap.size, m), ?_, ?_, by simp [upd]⟩
  · unfold Instr.makeSlice
    simp only [Sem.run_bind, run_underlying h1, Result.andThen_ok, asInt, asIntOf, Sem.run_pure, typeInfo, run_program, hi, hwr]
    have e1 : (decide ((m : Int) < 0) || decide ((i.bytes : Int) * (m : Int) > 2 ^ 48)) = false := by
      have : ¬ ((i.bytes : Int) * (m : Int) > 2 ^ 48) := by
        rw [hby, Int.mul_comm]
        have h' : ((m * by' : Nat) : Int) ≤ ((140737488355328 : Nat) : Int) := Int.ofNat_le.2 hbn
        rw [Int.natCast_mul] at h'
        omega
      rw [decide_eq_false (by omega), decide_eq_false this]
      rfl
    simp only [e1, Bool.false_or]
    have e2 : (decide ((m : Int) < 0) || decide ((m : Int) > (m : Int))) = false := by simp
    rw [if_neg (by simp)]
    simp only [Sem.run_bind, run_askRoom, Result.andThen_ok, run_sizeOf h2, Int.toNat_natCast]
    by_cases hms : m * sz = 0
    · simp [hms, newRow]
    · simp [hms, hz1, newRow]
  · have hcells : CellsRel w (Av O ρ B L) ((Array.range (m * sz)).map fun i => (if m * sz = 0 then #[] else zv.cells)[i % (if m * sz = 0 then #[] else zv.cells).size]!) (flat (List.replicate m z)) := by
      by_cases hms : m * sz = 0
      · have hm0 : m = 0 := by rcases Nat.mul_eq_zero.1 hms with h | h <;> omega
        subst hm0
        simp [CellsRel, flat]
      · simp only [hms, if_false]; exact hzr
    have hfl : (flat (List.replicate m z)).length = m * sz := by
      rw [flat_length (sz := sz) _ (fun x hx => by rw [List.eq_of_mem_replicate hx]; exact hzl)]; simp
    refine Ext.insert hh (Weak.refl _ _) rfl rfl (.inl (Nat.le_refl _)) (Chg.alloc _ _ _) hz (fun x hx => ?_) (by simp) (by simp only [maxLen]; omega) (heap_alloc_new w _) (by rw [hcells.1, hfl]) (fun j x hx => ?_)
    · rw [List.eq_of_mem_replicate hx]
      exact ⟨hzl, (hz4 w (Av O ρ B L)).2.1⟩
    · have hj := (List.getElem?_eq_some_iff.1 hx).1
      have hj' : j < ((Array.range (m * sz)).map fun i => (if m * sz = 0 then #[] else zv.cells)[i % (if m * sz = 0 then #[] else zv.cells).size]!).size := by rw [hcells.1]; exact hj
      exact ⟨_, Array.getElem?_eq_getElem hj', hcells.2.2 j _ x (Array.getElem?_eq_getElem hj') hx⟩

theorem flat_app (xs ys : List FV) : flat (xs ++ ys) = flat xs ++ flat ys := by simp [flat]

/-- The new row of an append that grows. -/
theorem grown_ext {e : TypeId} {sz need old : Nat} {zs : List FV} {vals : List Value} {zc : Array Value} {B1 L1 : List Ent} (hh : Heap w O ρ B L) (hwk : Weak B L B1 L1) (hB : B1.length = B.length) (hL : L1.length = L.length)
    (hz : 0 < sz) (hw : ∀ x ∈ zs, x.cells.length = sz ∧ ∀ y ∈ x.cells, y.one = true) (hlen : zs.length = need) (hzc : zc.size = sz) (hv : vals.length = need * sz)
    (hr : ∀ (j : Nat) (x : FV), (flat zs)[j]? = some x → ∃ u : Value, vals[j]? = some u ∧ Rd w (Av O ρ B L) u x) (h63 : need ≤ maxLen) :
    Ext w O ρ B L (w.drew.alloc (.cells (vals.toArray ++ Builtin.zeroCells zc (grownCap w need old e - need)) e)) (upd ρ (.l L.length) (w.heap.size, grownCap w need old e)) B1 (L1 ++ [.own sz zs]) := by
  have hge := grownCap_ge w need old e
  have hle := grownCap_le_maxLen w need old e h63
  refine Ext.insert hh hwk hB hL (.inl (Nat.le_refl _)) ((Chg.drew _ _).trans (Chg.alloc _ _ _)) hz hw (by omega) hle (heap_alloc_new w.drew _) ?_ (fun j x hx => ?_)
  · simp only [Array.size_append, List.size_toArray, hv, size_zeroCells, hzc, ← Nat.add_mul]
    congr 1
    omega
  · obtain ⟨u, hu, hrd⟩ := hr j x hx
    refine ⟨u, ?_, hrd⟩
    have hj := (List.getElem?_eq_some_iff.1 hu).1
    simp only [At]
    rw [Array.getElem?_append_left (by simpa using hj)]
    simpa using hu

theorem app_nil_run {t t' ty e e' : TypeId} {sz by' : Nat} {z : FV} {vx vy : Value} {ys : List FV} (hh : Heap w O ρ B L) (h1 : P.underlying t = some (.slice e)) (h1' : P.underlying t' = some (.slice e')) (h2 : szOf P e = some sz) (h3 : byOf P e = some by') (h4 : zeroOf P e = some z) (hzl : z.cells.length = sz)
    (hx : vx = .slice none 0 0) (hs : Src P w (Av O ρ B L) sz vy ys) (hy : ys ≠ []) (hb : ys.length * by' ≤ 140737488355328) (hb0 : 0 < by') (hz : 0 < sz) :
    ∃ v w' ρ', (Builtin.append_ #[t, t'] ty #[vx, vy]).run P w = .ok v w' ∧ Ext w O ρ B L w' ρ' B (L ++ [.own sz ys]) ∧ SvRel w' (Av O ρ' B (L ++ [.own sz ys])) ρ' B (L ++ [.own sz ys]) v (.ref (.l L.length) sz 0 ys.length true) := by
  subst hx
  obtain ⟨zv, hz1, hz2, hz3, hz4⟩ := zeroOf_run h4
  obtain ⟨i, hi, hby⟩ := Option.map_eq_some_iff.1 h3
  have hsz : i.size = sz := by simpa [szOf, hi] using h2
  have hzi : i.zero = some zv := by
    have := hz1 w
    simp only [zeroValue, typeInfo, Sem.run_bind, run_program, Result.andThen_ok, hi, Sem.run_pure] at this
    cases hq : i.zero with
    | none => rw [hq] at this; simp at this
    | some q => rw [hq] at this; simp at this; rw [this]
  obtain ⟨news, n1, n2, n3, n4, n5⟩ := hs.ex
  have hpos : 0 < ys.length := List.length_pos_iff.2 hy
  have hle : ys.length ≤ 140737488355328 := Nat.le_trans (Nat.le_mul_of_pos_right _ hb0) hb
  have hrun := append_nil (P := P) (w := w) (ty := ty) h1 h1' hi hzi hs.len (by rw [hsz]; exact n3) hpos (by omega) (by rw [hby]; omega)
  have hext := grown_ext (e := e) (old := 0) (B1 := B) (L1 := L) (need := ys.length) (zc := zv.cells) hh (Weak.refl _ _) rfl rfl hz (fun x hx => ⟨hs.wid x hx, hs.one x hx⟩) rfl (by rw [(hz4 w (fun _ => False)).1, hzl]) n1 n4 (by simp only [maxLen]; omega)
  refine ⟨_, _, _, hrun, hext, valid_push _ _ _, grownCap w ys.length 0 e, by simp [upd], grownCap_ge _ _ _ _, fun _ => ⟨rfl, by simp [upd]⟩⟩

theorem app_full_run {t t' ty e e' : TypeId} {sz by' : Nat} {z : FV} {vx vy : Value} {xs ys : List FV} (hh : Heap w O ρ B L) (h1 : P.underlying t = some (.slice e)) (h1' : P.underlying t' = some (.slice e')) (h2 : szOf P e = some sz) (h3 : byOf P e = some by') (h4 : zeroOf P e = some z) (hzl : z.cells.length = sz)
    (hx : Rd w (Av O ρ B L) vx (.sl .full xs)) (hxs : xs ≠ []) (hw0 : ∀ x ∈ xs, x.cells.length = sz) (hs : Src P w (Av O ρ B L) sz vy ys) (hy : ys ≠ []) (hb : (xs.length + ys.length) * by' ≤ 140737488355328) (hb0 : 0 < by') (hz : 0 < sz) :
    ∃ v w' ρ', (Builtin.append_ #[t, t'] ty #[vx, vy]).run P w = .ok v w' ∧ Ext w O ρ B L w' ρ' B (L ++ [.own sz (xs ++ ys)]) ∧ SvRel w' (Av O ρ' B (L ++ [.own sz (xs ++ ys)])) ρ' B (L ++ [.own sz (xs ++ ys)]) v (.ref (.l L.length) sz 0 (xs.length + ys.length) true) := by
  obtain ⟨zv, hz1, hz2, hz3, hz4⟩ := zeroOf_run h4
  obtain ⟨i, hi, hby⟩ := Option.map_eq_some_iff.1 h3
  have hsz : i.size = sz := by simpa [szOf, hi] using h2
  have hzi : i.zero = some zv := by
    have := hz1 w
    simp only [zeroValue, typeInfo, Sem.run_bind, run_program, Result.andThen_ok, hi, Sem.run_pure] at this
    cases hq : i.zero with
    | none => rw [hq] at this; simp at this
    | some q => rw [hq] at this; simp at this; rw [this]
  obtain ⟨news, n1, n2, n3, n4, n5⟩ := hs.ex
  have hpos : 0 < ys.length := List.length_pos_iff.2 hy
  have hle : xs.length + ys.length ≤ 140737488355328 := Nat.le_trans (Nat.le_mul_of_pos_right _ hb0) hb
  cases hx with
  | slE t a c ht => exact absurd rfl hxs
  | sl tg xs sz' b o c f hz' hx hk hw ho hf hr ht =>
    have hc : c = xs.length := ht
    subst hc
    have hfl : (flat xs).length = xs.length * sz := flat_length _ hw0
    have hrun := append_grow (P := P) (w := w) (A := Av O ρ B L) (ty := ty) (b := ⟨b, o, none⟩) (sLen := xs.length) (sCap := xs.length) (olds := (List.range (xs.length * sz)).map f) h1 h1' hi hzi (by simp [hsz]) (fun j v hv => by
      have hj : j < xs.length * sz := by have := (List.getElem?_eq_some_iff.1 hv).1; simpa using this
      simp [hj] at hv
      rw [add_plain, ← hv]
      exact hf j (by omega)) hs.len (by rw [hsz]; exact n3) (by omega) (by omega) (growslice_fits (by omega) (by rw [hby]; exact hb))
    have hext := grown_ext (e := e) (old := xs.length) (B1 := B) (L1 := L) (need := xs.length + ys.length) (zs := xs ++ ys) (vals := (List.range (xs.length * sz)).map f ++ news) (zc := zv.cells) hh (Weak.refl _ _) rfl rfl hz
      (fun x hx => by
        rcases List.mem_append.1 hx with hx | hx
        · exact ⟨hw0 x hx, (hw x hx).2⟩
        · exact ⟨hs.wid x hx, hs.one x hx⟩) (by simp) (by rw [(hz4 w (fun _ => False)).1, hzl]) (by simp [n1, Nat.add_mul]) (fun j x hx => by
        rw [flat_app] at hx
        by_cases hj : j < (flat xs).length
        · rw [List.getElem?_append_left hj] at hx
          rw [List.getElem?_append_left (by simp; omega)]
          have hj' : j < xs.length * sz := by omega
          exact ⟨f j, by simp [hj'], hr j x hx⟩
        · rw [List.getElem?_append_right (by omega)] at hx
          rw [List.getElem?_append_right (by simp; omega)]
          simp only [List.length_map, List.length_range]
          rw [hfl] at hx
          exact n4 _ x hx) (by simp only [maxLen]; omega)
    refine ⟨_, _, _, hrun, by simpa using hext, valid_push _ _ _, grownCap w (xs.length + ys.length) xs.length e, by simp [upd], grownCap_ge _ _ _ _, fun _ => ⟨rfl, by simp [upd]⟩⟩

theorem app_own_run {t t' ty e e' : TypeId} {sz by' : Nat} {z : FV} {vx vy : Value} {id : Id} {xs ys : List FV} (hh : Heap w O ρ B L) (h1 : P.underlying t = some (.slice e)) (h1' : P.underlying t' = some (.slice e')) (h2 : szOf P e = some sz) (h3 : byOf P e = some by') (h4 : zeroOf P e = some z) (hzl : z.cells.length = sz)
    (he : ent B L id = .own sz xs) (hx : SvRel w (Av O ρ B L) ρ B L vx (.ref id sz 0 xs.length true)) (hs : Src P w (Av O ρ B L) sz vy ys) (hb : (xs.length + ys.length) * by' ≤ 140737488355328) (hb0 : 0 < by') :
    ∃ v w' ρ', (Builtin.append_ #[t, t'] ty #[vx, vy]).run P w = .ok v w' ∧ Ext w O ρ B L w' ρ' (setE id .dead B L).1 ((setE id .dead B L).2 ++ [.own sz (xs ++ ys)]) ∧
      SvRel w' (Av O ρ' (setE id .dead B L).1 ((setE id .dead B L).2 ++ [.own sz (xs ++ ys)])) ρ' (setE id .dead B L).1 ((setE id .dead B L).2 ++ [.own sz (xs ++ ys)]) v (.ref (.l L.length) sz 0 (xs.length + ys.length) true) := by
  obtain ⟨zv, hz1, hz2, hz3, hz4⟩ := zeroOf_run h4
  obtain ⟨i, hi, hby⟩ := Option.map_eq_some_iff.1 h3
  have hsz : i.size = sz := by simpa [szOf, hi] using h2
  have hzi : i.zero = some zv := by
    have := hz1 w
    simp only [zeroValue, typeInfo, Sem.run_bind, run_program, Result.andThen_ok, hi, Sem.run_pure] at this
    cases hq : i.zero with
    | none => rw [hq] at this; simp at this
    | some q => rw [hq] at this; simp at this; rw [this]
  obtain ⟨news, n1, n2, n3, n4, n5⟩ := hs.ex
  have hle : xs.length + ys.length ≤ 140737488355328 := Nat.le_trans (Nat.le_mul_of_pos_right _ hb0) hb
  obtain ⟨o1, o2, o3, o4, cur, te, o5, o6, o7⟩ := hh.own _ _ _ he
  have hiOwn : (ent B L id).isOwn = true := by rw [he]; rfl
  obtain ⟨hv, cap, rfl, hcap, hap⟩ := hx
  obtain ⟨_, rfl⟩ := hap rfl
  have hw1 : ∀ x ∈ xs, x.cells.length = sz := fun x hx => (o2 x hx).1
  have hfl : (flat xs).length = xs.length * sz := flat_length _ hw1
  have hwk := setE_dead_weak B L hiOwn
  obtain ⟨hl1, hl2⟩ := setE_length id .dead B L
  have hlv : (Id.l L.length).valid (setE id .dead B L).1 ((setE id .dead B L).2 ++ [.own sz (xs ++ ys)]) := by simp [Id.valid, hl2]
  have hw : ∀ x ∈ xs ++ ys, x.cells.length = sz ∧ ∀ y ∈ x.cells, y.one = true := fun x hx => by
    rcases List.mem_append.1 hx with hx | hx
    · exact o2 x hx
    · exact ⟨hs.wid x hx, hs.one x hx⟩
  have hcur : xs.length * sz ≤ cur.size := by rw [o6]; exact Nat.mul_le_mul_right _ o3
  simp only [Nat.zero_mul]
  by_cases hroom : xs.length + ys.length ≤ (ρ id).2
  · have hfit : xs.length * sz + news.length ≤ cur.size := by rw [n1, o6, ← Nat.add_mul]; exact Nat.mul_le_mul_right _ hroom
    have hrun := append_room (P := P) (w := w) (A := Av O ρ B L) (ty := ty) (sLen := xs.length) (sCap := (ρ id).2) h1 h1' h2 o5 hs.len n2 n5 hroom hfit
    have hext : Ext w O ρ B L (w.setRow (ρ id).1 (cur.toList.take (xs.length * sz) ++ news ++ cur.toList.drop (xs.length * sz + news.length)).toArray) (upd ρ (.l L.length) ((ρ id).1, (ρ id).2)) (setE id .dead B L).1 ((setE id .dead B L).2 ++ [.own sz (xs ++ ys)]) := by
      refine Ext.insert hh hwk hl1 hl2 (.inr ⟨id, hiOwn, rfl, by rw [ent_setE _ _ _ _ hv]; simp⟩) (Chg.setRow _ _ _) o1 hw (by simpa using hroom) o4 (setRow_heap w _ cur _ te _ o5) ?_ (fun j x hx => ?_)
      · have : cur.toList.length = cur.size := Array.length_toList
        simp only [List.size_toArray, List.length_append, List.length_take, List.length_drop, this]
        omega
      · rw [flat_app] at hx
        have hcl : (cur.toList.take (xs.length * sz)).length = xs.length * sz := by simp; omega
        simp only [At, List.getElem?_toArray]
        by_cases hj : j < (flat xs).length
        · rw [List.getElem?_append_left hj] at hx
          obtain ⟨u, hu, hr⟩ := o7 j x hx
          refine ⟨u, ?_, hr⟩
          rw [List.append_assoc, List.getElem?_append_left (by omega), List.getElem?_take_of_lt (by omega)]
          simpa [At] using hu
        · rw [List.getElem?_append_right (by omega), hfl] at hx
          obtain ⟨u, hu, hr⟩ := n4 _ x hx
          refine ⟨u, ?_, hr⟩
          rw [List.append_assoc, List.getElem?_append_right (by omega), hcl, List.getElem?_append_left (List.getElem?_eq_some_iff.1 hu).1]
          exact hu
    refine ⟨_, _, _, hrun, hext, hlv, (ρ id).2, by simp [upd], hroom, fun _ => ⟨rfl, by simp [upd]⟩⟩
  · have hrun := append_grow (P := P) (w := w) (A := Av O ρ B L) (ty := ty) (b := ⟨(ρ id).1, 0, none⟩) (sLen := xs.length) (sCap := (ρ id).2) (olds := cur.toList.take (xs.length * sz)) h1 h1' hi hzi (by simp [hsz]; omega) (fun j v hv => by
      have hj : j < xs.length * sz := by have := (List.getElem?_eq_some_iff.1 hv).1; simp at this; omega
      rw [List.getElem?_take_of_lt hj] at hv
      rw [add_plain]
      simp only [World.cell?, o5, Nat.zero_add]
      simpa using hv) hs.len (by rw [hsz]; exact n3) (by omega) (by omega) (growslice_fits (by omega) (by rw [hby]; exact hb))
    have hext := grown_ext (e := e) (old := (ρ id).2) (need := xs.length + ys.length) (zs := xs ++ ys) (vals := cur.toList.take (xs.length * sz) ++ news) (zc := zv.cells) hh hwk hl1 hl2 o1 hw (by simp) (by rw [(hz4 w (fun _ => False)).1, hzl]) (by
        have : (cur.toList.take (xs.length * sz)).length = xs.length * sz := by simp; omega
        rw [List.length_append, this, n1, Nat.add_mul]) (fun j x hx => by
        rw [flat_app] at hx
        have hcl : (cur.toList.take (xs.length * sz)).length = xs.length * sz := by simp; omega
        by_cases hj : j < (flat xs).length
        · rw [List.getElem?_append_left hj] at hx
          obtain ⟨u, hu, hr⟩ := o7 j x hx
          rw [List.getElem?_append_left (by omega), List.getElem?_take_of_lt (by omega)]
          exact ⟨u, by simpa [At] using hu, hr⟩
        · rw [List.getElem?_append_right (by omega)] at hx
          rw [List.getElem?_append_right (by omega), hcl]
          rw [hfl] at hx
          exact n4 _ x hx) (by simp only [maxLen]; omega)
    refine ⟨_, _, _, hrun, by simpa using hext, hlv, grownCap w (xs.length + ys.length) (ρ id).2 e, by simp [upd], grownCap_ge _ _ _ _, fun _ => ⟨rfl, by simp [upd]⟩⟩
end
end Go.Ab
