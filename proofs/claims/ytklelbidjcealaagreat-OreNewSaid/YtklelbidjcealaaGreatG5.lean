/- A part of the proof: an evaluator of programs, its soundness, and what it says of the functions in hand. It holds without further conditions. -/
import Derived.Test.YtklelbidjcealaaGreatG4
import Derived.KernelRfl
import Derived.ProofKit
import Derived.Carry
set_option linter.unusedVariables false
set_option linter.unusedSimpArgs false
namespace Go.Proofs.YtklelbidjcealaaGreat
open Go Go.Ab
theorem rcmp_ok (t t' : Tag) {m n : Nat} (hm : Small (digs B16 m).length) (hn : Small (digs B16 n).length) : ret tab.get an 149 [.sl t (i64s (digs B16 m)), .sl t' (i64s (digs B16 n))] = some (.int .i64 (c3 m n)) := by
  refine ret_eq (fn := i149) rfl rfl ?_
  simp -dsimp only [i149]
  generalize hxs : digs B16 m = xs
  generalize hys : digs B16 n = ys
  rw [hxs] at hm
  rw [hys] at hn
  have hx : Dg B16 xs := by rw [← hxs]; exact digs_Dg (by decide) _
  have hy : Dg B16 ys := by rw [← hys]; exact digs_Dg (by decide) _
  have vx : val B16 xs = m := by rw [← hxs, val_digs (by decide)]
  have vy : val B16 ys = n := by rw [← hys, val_digs (by decide)]
  have less : m < n → c3 m n = -1 := fun h => by simp [c3]; omega
  have more : n < m → c3 m n = 1 := fun h => by simp [c3]; omega
  rcases Nat.lt_trichotomy xs.length ys.length with h | h | h
  · have : c3 m n = -1 := less (digs_lt_len (b := B16) (by decide) (by rw [hxs, hys]; exact h))
    simp -dsimp (disch := first | omega | assumption | apply agg_two | apply agg_nInt | apply agg_rInt | (simp only [J1,J2,J3,J4,J5,J6,J7,J8]; omega)) only [i149, ↓i149d0t, i149d0, ↓i149d1t, i149d1, go_sem,↓reduceIte,reduceCtorEq,Nat.reduceEqDiff,Nat.reduceAdd,Nat.reduceSub,Nat.reduceMul,Nat.reduceLT,Nat.reduceLeDiff,Nat.reduceBEq,Nat.reduceBNe,Int.reduceLT,Int.reduceLE,Int.reduceEq,Int.reduceNeg,Int.reduceAdd,Int.reduceSub,Int.reduceMul,Int.reduceToNat,Int.reducePow,Nat.reducePow, this]
  · simp -dsimp (disch := first | omega | assumption | apply agg_two | apply agg_nInt | apply agg_rInt | (simp only [J1,J2,J3,J4,J5,J6,J7,J8]; omega)) only [i149, ↓i149d0t, i149d0, ↓i149d1t, i149d1, go_sem,↓reduceIte,reduceCtorEq,Nat.reduceEqDiff,Nat.reduceAdd,Nat.reduceSub,Nat.reduceMul,Nat.reduceLT,Nat.reduceLeDiff,Nat.reduceBEq,Nat.reduceBNe,Int.reduceLT,Int.reduceLE,Int.reduceEq,Int.reduceNeg,Int.reduceAdd,Int.reduceSub,Int.reduceMul,Int.reduceToNat,Int.reducePow,Nat.reducePow]
    refine pW_loop (fun k : Nat => ⟨[(0, .fv (.sl t (i64s xs))), (1, .fv (.sl t' (i64s ys))), (5, .fv (.int .i64 ((k : Int) - 1)))], [], []⟩) (fun k => k ≤ xs.length ∧ xs.drop k = ys.drop k) id xs.length (by simp -dsimp (disch := first | omega | assumption | apply agg_two | apply agg_nInt | apply agg_rInt | (simp only [J1,J2,J3,J4,J5,J6,J7,J8]; omega)) only [go_sem,↓reduceIte,reduceCtorEq,Nat.reduceEqDiff,Nat.reduceAdd,Nat.reduceSub,Nat.reduceMul,Nat.reduceLT,Nat.reduceLeDiff,Nat.reduceBEq,Nat.reduceBNe,Int.reduceLT,Int.reduceLE,Int.reduceEq,Int.reduceNeg,Int.reduceAdd,Int.reduceSub,Int.reduceMul,Int.reduceToNat,Int.reducePow,Nat.reducePow]) ⟨Nat.le_refl _, ?_⟩ ?_
    · rw [List.drop_length, h, List.drop_length]
    · intro k ⟨hk, hd⟩
      rcases Nat.eq_zero_or_pos k with rfl | hp
      · have : c3 m n = 0 := by
          have : xs = ys := by simpa using hd
          rw [← vx, ← vy, this]; simp [c3]
        simp -dsimp only [i149b0]
        simp -dsimp (disch := first | omega | assumption | apply agg_two | apply agg_nInt | apply agg_rInt | (simp only [J1,J2,J3,J4,J5,J6,J7,J8]; omega)) only [i149, ↓i149d0t, i149d0, ↓i149d1t, i149d1, go_sem,↓reduceIte,reduceCtorEq,Nat.reduceEqDiff,Nat.reduceAdd,Nat.reduceSub,Nat.reduceMul,Nat.reduceLT,Nat.reduceLeDiff,Nat.reduceBEq,Nat.reduceBNe,Int.reduceLT,Int.reduceLE,Int.reduceEq,Int.reduceNeg,Int.reduceAdd,Int.reduceSub,Int.reduceMul,Int.reduceToNat,Int.reducePow,Nat.reducePow, this]
      · obtain ⟨j, rfl⟩ : ∃ j, k = j + 1 := ⟨k - 1, by omega⟩
        rcases Nat.lt_trichotomy (at0 xs j) (at0 ys j) with h1 | h1 | h1
        · have : c3 m n = -1 := less (by rw [← vx, ← vy]; exact val_lt_at (by decide) hx (by omega) (by omega) hd h1)
          simp -dsimp only [i149b0]
          simp -dsimp (disch := first | omega | assumption | apply agg_two | apply agg_nInt | apply agg_rInt | (simp only [J1,J2,J3,J4,J5,J6,J7,J8]; omega)) only [i149, ↓i149d0t, i149d0, ↓i149d1t, i149d1, go_sem,↓reduceIte,reduceCtorEq,Nat.reduceEqDiff,Nat.reduceAdd,Nat.reduceSub,Nat.reduceMul,Nat.reduceLT,Nat.reduceLeDiff,Nat.reduceBEq,Nat.reduceBNe,Int.reduceLT,Int.reduceLE,Int.reduceEq,Int.reduceNeg,Int.reduceAdd,Int.reduceSub,Int.reduceMul,Int.reduceToNat,Int.reducePow,Nat.reducePow, this]
        · simp -dsimp only [i149b0]
          simp -dsimp (disch := first | omega | assumption | apply agg_two | apply agg_nInt | apply agg_rInt | (simp only [J1,J2,J3,J4,J5,J6,J7,J8]; omega)) only [i149, ↓i149d0t, i149d0, ↓i149d1t, i149d1, go_sem,↓reduceIte,reduceCtorEq,Nat.reduceEqDiff,Nat.reduceAdd,Nat.reduceSub,Nat.reduceMul,Nat.reduceLT,Nat.reduceLeDiff,Nat.reduceBEq,Nat.reduceBNe,Int.reduceLT,Int.reduceLE,Int.reduceEq,Int.reduceNeg,Int.reduceAdd,Int.reduceSub,Int.reduceMul,Int.reduceToNat,Int.reducePow,Nat.reducePow]
          refine next ⟨j, rfl, ⟨by omega, ?_⟩, by simp⟩
          rw [List.drop_eq_getElem_cons (by omega), List.drop_eq_getElem_cons (by omega : j < ys.length), hd]
          have e1 : xs[j] = at0 xs j := by simp [at0, show j < xs.length by omega]
          have e2 : ys[j] = at0 ys j := by simp [at0, show j < ys.length by omega]
          rw [e1, e2, h1]
        · have : c3 m n = 1 := more (by rw [← vx, ← vy]; exact val_lt_at (by decide) hy (by omega) (by omega) hd.symm h1)
          simp -dsimp only [i149b0]
          simp -dsimp (disch := first | omega | assumption | apply agg_two | apply agg_nInt | apply agg_rInt | (simp only [J1,J2,J3,J4,J5,J6,J7,J8]; omega)) only [i149, ↓i149d0t, i149d0, ↓i149d1t, i149d1, go_sem,↓reduceIte,reduceCtorEq,Nat.reduceEqDiff,Nat.reduceAdd,Nat.reduceSub,Nat.reduceMul,Nat.reduceLT,Nat.reduceLeDiff,Nat.reduceBEq,Nat.reduceBNe,Int.reduceLT,Int.reduceLE,Int.reduceEq,Int.reduceNeg,Int.reduceAdd,Int.reduceSub,Int.reduceMul,Int.reduceToNat,Int.reducePow,Nat.reducePow, this]
  · have : c3 m n = 1 := more (digs_lt_len (b := B16) (by decide) (by rw [hxs, hys]; exact h))
    simp -dsimp (disch := first | omega | assumption | apply agg_two | apply agg_nInt | apply agg_rInt | (simp only [J1,J2,J3,J4,J5,J6,J7,J8]; omega)) only [i149, ↓i149d0t, i149d0, ↓i149d1t, i149d1, go_sem,↓reduceIte,reduceCtorEq,Nat.reduceEqDiff,Nat.reduceAdd,Nat.reduceSub,Nat.reduceMul,Nat.reduceLT,Nat.reduceLeDiff,Nat.reduceBEq,Nat.reduceBNe,Int.reduceLT,Int.reduceLE,Int.reduceEq,Int.reduceNeg,Int.reduceAdd,Int.reduceSub,Int.reduceMul,Int.reduceToNat,Int.reducePow,Nat.reducePow, this]
theorem radd_ok (t t' : Tag) {xs ys : List Nat} (hx : Dg B16 xs) (hy : Dg B16 ys) (hs : xs.length ≤ 200000000000) (hs' : ys.length ≤ 200000000000) :
    ∃ y, ret tab.get an 148 [.sl t (i64s xs), .sl t' (i64s ys)] = some y ∧ ∃ t ds, y = .sl t (i64s ds) ∧ Dg B16 ds ∧ val B16 ds = val B16 xs + val B16 ys ∧ ds.length ≤ 300000000000 := by
  refine ret_of (fn := i148) rfl rfl ?_
  simp -dsimp only [i148]
  simp -dsimp (disch := first | omega | assumption | apply agg_two | apply agg_nInt | apply agg_rInt | (simp only [J1,J2,J3,J4,J5,J6,J7,J8]; omega)) only [i148, go_sem,↓reduceIte,reduceCtorEq,Nat.reduceEqDiff,Nat.reduceAdd,Nat.reduceSub,Nat.reduceMul,Nat.reduceLT,Nat.reduceLeDiff,Nat.reduceBEq,Nat.reduceBNe,Int.reduceLT,Int.reduceLE,Int.reduceEq,Int.reduceNeg,Int.reduceAdd,Int.reduceSub,Int.reduceMul,Int.reduceToNat,Int.reducePow,Nat.reducePow]
  obtain ⟨M, hM, hM1, hM2⟩ : ∃ M, M ≤ 200000000000 ∧ xs.length ≤ M ∧ ys.length ≤ M := ⟨max xs.length ys.length, by omega, by omega, by omega⟩
  refine pW_loop (fun a : List Nat × Nat => ⟨[(0, .fv (.sl t (i64s xs))), (1, .fv (.sl t' (i64s ys))), (5, accS 1 0 (i64s a.1)), (6, .fv (.int .i64 (a.2 : Int))), (7, .fv (.int .i64 (a.1.length : Int)))], [], accL 1 (i64s a.1)⟩)
    (fun a => Dg B16 a.1 ∧ a.2 ≤ 1 ∧ val B16 a.1 + B16 ^ a.1.length * a.2 = val B16 (xs.take a.1.length) + val B16 (ys.take a.1.length) ∧ a.1.length ≤ M + 1 ∧ (a.2 = 0 ∨ a.1.length ≤ M)) (fun a => M + 1 - a.1.length) ([], 0) (by simp -dsimp (disch := first | omega | assumption | apply agg_two | apply agg_nInt | apply agg_rInt | (simp only [J1,J2,J3,J4,J5,J6,J7,J8]; omega)) only [go_sem,↓reduceIte,reduceCtorEq,Nat.reduceEqDiff,Nat.reduceAdd,Nat.reduceSub,Nat.reduceMul,Nat.reduceLT,Nat.reduceLeDiff,Nat.reduceBEq,Nat.reduceBNe,Int.reduceLT,Int.reduceLE,Int.reduceEq,Int.reduceNeg,Int.reduceAdd,Int.reduceSub,Int.reduceMul,Int.reduceToNat,Int.reducePow,Nat.reducePow, List.map_nil]) (by simp [val, Dg.nil]) ?_
  rintro ⟨acc, c⟩ ⟨h1, h2, h3, h4, h5⟩
  simp only at h1 h2 h3 h4 h5
  have b1 : at0 xs acc.length < 65536 := at0_lt hx (by decide) _
  have b2 : at0 ys acc.length < 65536 := at0_lt hy (by decide) _
  have v1 := val_take_le (b := B16) acc.length xs
  have v2 := val_take_le (b := B16) acc.length ys
  have inv : ∀ s : Nat, s = c + at0 xs acc.length + at0 ys acc.length → acc.length ≤ M → (M ≤ acc.length → s < 65536) →
      Dg B16 (acc ++ [s % 65536]) ∧ s / 65536 ≤ 1 ∧ val B16 (acc ++ [s % 65536]) + B16 ^ (acc ++ [s % 65536]).length * (s / 65536) = val B16 (xs.take (acc ++ [s % 65536]).length) + val B16 (ys.take (acc ++ [s % 65536]).length) ∧ (acc ++ [s % 65536]).length ≤ M + 1 ∧ (s / 65536 = 0 ∨ (acc ++ [s % 65536]).length ≤ M) := by
    intro s hs hl hm
    refine ⟨h1.append (.cons (Nat.mod_lt _ (by decide)) .nil), by omega, ?_, by simp; omega, ?_⟩
    · simp only [List.length_append, List.length_cons, List.length_nil, Nat.zero_add, v1, v2, val_snoc]
      have e1 := Nat.mod_add_div s 65536
      rw [Nat.pow_succ]
      generalize B16 ^ acc.length = p at *
      have e2 : p * (s % 65536) + p * B16 * (s / 65536) = p * s := by rw [Nat.mul_assoc, ← Nat.mul_add, e1]
      have e3 : p * s = p * c + p * at0 xs acc.length + p * at0 ys acc.length := by rw [hs, Nat.mul_add, Nat.mul_add]
      omega
    · by_cases h : M ≤ acc.length
      · exact .inl (by have := hm h; omega)
      · exact .inr (by simp; omega)
  have f1 : ∀ (acc : List Nat) (v : Nat), accS 1 0 (i64s (acc ++ [v])) = .ref (.l 0) 1 0 (acc.length + 1) true := fun acc v => by rw [accS_ne (i64s_ne (by simp))]; simp
  have f2 : ∀ (acc : List Nat) (v : Nat), accL 1 (i64s (acc ++ [v])) = [.own 1 (i64s (acc ++ [v]))] := fun acc v => accL_ne (i64s_ne (by simp))
  have go : ∀ s : Nat, s = c + at0 xs acc.length + at0 ys acc.length → acc.length ≤ M → (M ≤ acc.length → s < 65536) → ∃ a : List Nat × Nat,
      (⟨[(0, .fv (.sl t (i64s xs))), (1, .fv (.sl t' (i64s ys))), (5, .ref (.l 0) 1 0 (acc.length + 1) true), (6, .fv (.int .i64 ((s / 65536 : Nat) : Int))), (7, .fv (.int .i64 ((acc.length + 1 : Nat) : Int)))], [], [.own 1 (i64s (acc ++ [s % 65536]))]⟩ : St) =
      ⟨[(0, .fv (.sl t (i64s xs))), (1, .fv (.sl t' (i64s ys))), (5, accS 1 0 (i64s a.1)), (6, .fv (.int .i64 (a.2 : Int))), (7, .fv (.int .i64 (a.1.length : Int)))], [], accL 1 (i64s a.1)⟩ ∧
      (Dg B16 a.1 ∧ a.2 ≤ 1 ∧ val B16 a.1 + B16 ^ a.1.length * a.2 = val B16 (xs.take a.1.length) + val B16 (ys.take a.1.length) ∧ a.1.length ≤ M + 1 ∧ (a.2 = 0 ∨ a.1.length ≤ M)) ∧ M + 1 - a.1.length < M + 1 - acc.length := by
    intro s hs hl hm
    exact ⟨(acc ++ [s % 65536], s / 65536), by simp only [f1, f2]; simp, inv s hs hl hm, by simp; omega⟩
  have go0 : acc = [] → ∀ s : Nat, s = c + at0 xs acc.length + at0 ys acc.length → acc.length ≤ M → (M ≤ acc.length → s < 65536) → ∃ a : List Nat × Nat,
      (⟨[(0, .fv (.sl t (i64s xs))), (1, .fv (.sl t' (i64s ys))), (5, .ref (.l 0) 1 0 1 true), (6, .fv (.int .i64 ((s / 65536 : Nat) : Int))), (7, .fv (.int .i64 ((acc.length + 1 : Nat) : Int)))], [], [.own 1 [.int .i64 ((s % 65536 : Nat) : Int)]]⟩ : St) =
      ⟨[(0, .fv (.sl t (i64s xs))), (1, .fv (.sl t' (i64s ys))), (5, accS 1 0 (i64s a.1)), (6, .fv (.int .i64 (a.2 : Int))), (7, .fv (.int .i64 (a.1.length : Int)))], [], accL 1 (i64s a.1)⟩ ∧
      (Dg B16 a.1 ∧ a.2 ≤ 1 ∧ val B16 a.1 + B16 ^ a.1.length * a.2 = val B16 (xs.take a.1.length) + val B16 (ys.take a.1.length) ∧ a.1.length ≤ M + 1 ∧ (a.2 = 0 ∨ a.1.length ≤ M)) ∧ M + 1 - a.1.length < M + 1 - acc.length := by
    intro ha s k1 k2 k3
    have := go s k1 k2 k3
    subst ha
    exact this
  by_cases hi : acc.length < xs.length
  · by_cases hj : acc.length < ys.length
    · by_cases ha : acc = []
      · have h6 := accS_e (k := 0) ha
        have h7 := accL_e ha
        simp -dsimp only [i148b0]
        simp -dsimp (disch := first | omega | assumption | apply agg_two | apply agg_nInt | apply agg_rInt | (simp only [J1,J2,J3,J4,J5,J6,J7,J8]; omega)) only [i148, go_sem,↓reduceIte,reduceCtorEq,Nat.reduceEqDiff,Nat.reduceAdd,Nat.reduceSub,Nat.reduceMul,Nat.reduceLT,Nat.reduceLeDiff,Nat.reduceBEq,Nat.reduceBNe,Int.reduceLT,Int.reduceLE,Int.reduceEq,Int.reduceNeg,Int.reduceAdd,Int.reduceSub,Int.reduceMul,Int.reduceToNat,Int.reducePow,Nat.reducePow, h6, h7]
        exact next (go0 ha _ rfl (by omega) (by omega))
      · have h6 := accS_ne (sz := 1) (k := 0) (i64s_ne ha)
        have h7 := accL_ne (sz := 1) (i64s_ne ha)
        simp -dsimp only [i148b0]
        simp -dsimp (disch := first | omega | assumption | apply agg_two | apply agg_nInt | apply agg_rInt | (simp only [J1,J2,J3,J4,J5,J6,J7,J8]; omega)) only [i148, go_sem,↓reduceIte,reduceCtorEq,Nat.reduceEqDiff,Nat.reduceAdd,Nat.reduceSub,Nat.reduceMul,Nat.reduceLT,Nat.reduceLeDiff,Nat.reduceBEq,Nat.reduceBNe,Int.reduceLT,Int.reduceLE,Int.reduceEq,Int.reduceNeg,Int.reduceAdd,Int.reduceSub,Int.reduceMul,Int.reduceToNat,Int.reducePow,Nat.reducePow, h6, h7]
        exact next (go _ rfl (by omega) (by omega))
    · have z2 : at0 ys acc.length = 0 := at0_out (by omega)
      by_cases ha : acc = []
      · have h6 := accS_e (k := 0) ha
        have h7 := accL_e ha
        simp -dsimp only [i148b0]
        simp -dsimp (disch := first | omega | assumption | apply agg_two | apply agg_nInt | apply agg_rInt | (simp only [J1,J2,J3,J4,J5,J6,J7,J8]; omega)) only [i148, go_sem,↓reduceIte,reduceCtorEq,Nat.reduceEqDiff,Nat.reduceAdd,Nat.reduceSub,Nat.reduceMul,Nat.reduceLT,Nat.reduceLeDiff,Nat.reduceBEq,Nat.reduceBNe,Int.reduceLT,Int.reduceLE,Int.reduceEq,Int.reduceNeg,Int.reduceAdd,Int.reduceSub,Int.reduceMul,Int.reduceToNat,Int.reducePow,Nat.reducePow, h6, h7]
        exact next (go0 ha _ (by omega) (by omega) (by omega))
      · have h6 := accS_ne (sz := 1) (k := 0) (i64s_ne ha)
        have h7 := accL_ne (sz := 1) (i64s_ne ha)
        simp -dsimp only [i148b0]
        simp -dsimp (disch := first | omega | assumption | apply agg_two | apply agg_nInt | apply agg_rInt | (simp only [J1,J2,J3,J4,J5,J6,J7,J8]; omega)) only [i148, go_sem,↓reduceIte,reduceCtorEq,Nat.reduceEqDiff,Nat.reduceAdd,Nat.reduceSub,Nat.reduceMul,Nat.reduceLT,Nat.reduceLeDiff,Nat.reduceBEq,Nat.reduceBNe,Int.reduceLT,Int.reduceLE,Int.reduceEq,Int.reduceNeg,Int.reduceAdd,Int.reduceSub,Int.reduceMul,Int.reduceToNat,Int.reducePow,Nat.reducePow, h6, h7]
        exact next (go _ (by omega) (by omega) (by omega))
  · have z1 : at0 xs acc.length = 0 := at0_out (by omega)
    by_cases hj : acc.length < ys.length
    · by_cases ha : acc = []
      · have h6 := accS_e (k := 0) ha
        have h7 := accL_e ha
        simp -dsimp only [i148b0]
        simp -dsimp (disch := first | omega | assumption | apply agg_two | apply agg_nInt | apply agg_rInt | (simp only [J1,J2,J3,J4,J5,J6,J7,J8]; omega)) only [i148, go_sem,↓reduceIte,reduceCtorEq,Nat.reduceEqDiff,Nat.reduceAdd,Nat.reduceSub,Nat.reduceMul,Nat.reduceLT,Nat.reduceLeDiff,Nat.reduceBEq,Nat.reduceBNe,Int.reduceLT,Int.reduceLE,Int.reduceEq,Int.reduceNeg,Int.reduceAdd,Int.reduceSub,Int.reduceMul,Int.reduceToNat,Int.reducePow,Nat.reducePow, h6, h7]
        exact next (go0 ha _ (by omega) (by omega) (by omega))
      · have h6 := accS_ne (sz := 1) (k := 0) (i64s_ne ha)
        have h7 := accL_ne (sz := 1) (i64s_ne ha)
        simp -dsimp only [i148b0]
        simp -dsimp (disch := first | omega | assumption | apply agg_two | apply agg_nInt | apply agg_rInt | (simp only [J1,J2,J3,J4,J5,J6,J7,J8]; omega)) only [i148, go_sem,↓reduceIte,reduceCtorEq,Nat.reduceEqDiff,Nat.reduceAdd,Nat.reduceSub,Nat.reduceMul,Nat.reduceLT,Nat.reduceLeDiff,Nat.reduceBEq,Nat.reduceBNe,Int.reduceLT,Int.reduceLE,Int.reduceEq,Int.reduceNeg,Int.reduceAdd,Int.reduceSub,Int.reduceMul,Int.reduceToNat,Int.reducePow,Nat.reducePow, h6, h7]
        exact next (go _ (by omega) (by omega) (by omega))
    · have z2 : at0 ys acc.length = 0 := at0_out (by omega)
      by_cases hc : c = 0
      · subst hc
        rw [val_take_all (by omega), val_take_all (by omega)] at h3
        by_cases ha : acc = []
        · have h6 := accS_e (k := 0) ha
          have h7 := accL_e ha
          simp -dsimp only [i148b0]
          simp -dsimp (disch := first | omega | assumption | apply agg_two | apply agg_nInt | apply agg_rInt | (simp only [J1,J2,J3,J4,J5,J6,J7,J8]; omega)) only [i148, go_sem,↓reduceIte,reduceCtorEq,Nat.reduceEqDiff,Nat.reduceAdd,Nat.reduceSub,Nat.reduceMul,Nat.reduceLT,Nat.reduceLeDiff,Nat.reduceBEq,Nat.reduceBNe,Int.reduceLT,Int.reduceLE,Int.reduceEq,Int.reduceNeg,Int.reduceAdd,Int.reduceSub,Int.reduceMul,Int.reduceToNat,Int.reducePow,Nat.reducePow, h6, h7]
          exact ⟨.nil, acc, by subst ha; rfl, h1, by simpa using h3, by omega⟩
        · have h6 := accS_ne (sz := 1) (k := 0) (i64s_ne ha)
          have h7 := accL_ne (sz := 1) (i64s_ne ha)
          simp -dsimp only [i148b0]
          simp -dsimp (disch := first | omega | assumption | apply agg_two | apply agg_nInt | apply agg_rInt | (simp only [J1,J2,J3,J4,J5,J6,J7,J8]; omega)) only [i148, go_sem,↓reduceIte,reduceCtorEq,Nat.reduceEqDiff,Nat.reduceAdd,Nat.reduceSub,Nat.reduceMul,Nat.reduceLT,Nat.reduceLeDiff,Nat.reduceBEq,Nat.reduceBNe,Int.reduceLT,Int.reduceLE,Int.reduceEq,Int.reduceNeg,Int.reduceAdd,Int.reduceSub,Int.reduceMul,Int.reduceToNat,Int.reducePow,Nat.reducePow, h6, h7]
          exact ⟨.any, acc, rfl, h1, by simpa using h3, by omega⟩
      · by_cases ha : acc = []
        · have h6 := accS_e (k := 0) ha
          have h7 := accL_e ha
          simp -dsimp only [i148b0]
          simp -dsimp (disch := first | omega | assumption | apply agg_two | apply agg_nInt | apply agg_rInt | (simp only [J1,J2,J3,J4,J5,J6,J7,J8]; omega)) only [i148, go_sem,↓reduceIte,reduceCtorEq,Nat.reduceEqDiff,Nat.reduceAdd,Nat.reduceSub,Nat.reduceMul,Nat.reduceLT,Nat.reduceLeDiff,Nat.reduceBEq,Nat.reduceBNe,Int.reduceLT,Int.reduceLE,Int.reduceEq,Int.reduceNeg,Int.reduceAdd,Int.reduceSub,Int.reduceMul,Int.reduceToNat,Int.reducePow,Nat.reducePow, h6, h7]
          have := go0 ha c (by omega) (by omega) (by omega)
          rw [Nat.mod_eq_of_lt (show c < 65536 by omega)] at this
          exact next this
        · have h6 := accS_ne (sz := 1) (k := 0) (i64s_ne ha)
          have h7 := accL_ne (sz := 1) (i64s_ne ha)
          simp -dsimp only [i148b0]
          simp -dsimp (disch := first | omega | assumption | apply agg_two | apply agg_nInt | apply agg_rInt | (simp only [J1,J2,J3,J4,J5,J6,J7,J8]; omega)) only [i148, go_sem,↓reduceIte,reduceCtorEq,Nat.reduceEqDiff,Nat.reduceAdd,Nat.reduceSub,Nat.reduceMul,Nat.reduceLT,Nat.reduceLeDiff,Nat.reduceBEq,Nat.reduceBNe,Int.reduceLT,Int.reduceLE,Int.reduceEq,Int.reduceNeg,Int.reduceAdd,Int.reduceSub,Int.reduceMul,Int.reduceToNat,Int.reducePow,Nat.reducePow, h6, h7]
          have := go c (by omega) (by omega) (by omega)
          rw [Nat.mod_eq_of_lt (show c < 65536 by omega)] at this
          exact next this
theorem rsub_ok (t t' : Tag) {xs ys : List Nat} (hx : Dg B16 xs) (hy : Dg B16 ys) (hs : xs.length ≤ 200000000000) (hl : ys.length ≤ xs.length) (hv : val B16 ys ≤ val B16 xs) :
    ∃ y, ret tab.get an 150 [.sl t (i64s xs), .sl t' (i64s ys)] = some y ∧ ∃ t ds, y = .sl t (i64s ds) ∧ Dg B16 ds ∧ val B16 ds = val B16 xs - val B16 ys ∧ ds.length ≤ 300000000000 := by
  refine ret_of (fn := i150) rfl rfl ?_
  simp -dsimp only [i150]
  simp -dsimp (disch := first | omega | assumption | apply agg_two | apply agg_nInt | apply agg_rInt | (simp only [J1,J2,J3,J4,J5,J6,J7,J8]; omega)) only [i150, go_sem,↓reduceIte,reduceCtorEq,Nat.reduceEqDiff,Nat.reduceAdd,Nat.reduceSub,Nat.reduceMul,Nat.reduceLT,Nat.reduceLeDiff,Nat.reduceBEq,Nat.reduceBNe,Int.reduceLT,Int.reduceLE,Int.reduceEq,Int.reduceNeg,Int.reduceAdd,Int.reduceSub,Int.reduceMul,Int.reduceToNat,Int.reducePow,Nat.reducePow]
  refine pW_loop (fun a : List Nat × Nat => ⟨[(0, .fv (.sl t (i64s xs))), (1, .fv (.sl t' (i64s ys))), (5, accS 1 0 (i64s a.1)), (6, .fv (.int .i64 (a.2 : Int))), (7, .fv (.int .i64 (a.1.length : Int)))], [], accL 1 (i64s a.1)⟩)
    (fun a => Dg B16 a.1 ∧ a.2 ≤ 1 ∧ val B16 a.1 + val B16 (ys.take a.1.length) = val B16 (xs.take a.1.length) + B16 ^ a.1.length * a.2 ∧ a.1.length ≤ xs.length) (fun a => xs.length - a.1.length) ([], 0) (by simp -dsimp (disch := first | omega | assumption | apply agg_two | apply agg_nInt | apply agg_rInt | (simp only [J1,J2,J3,J4,J5,J6,J7,J8]; omega)) only [go_sem,↓reduceIte,reduceCtorEq,Nat.reduceEqDiff,Nat.reduceAdd,Nat.reduceSub,Nat.reduceMul,Nat.reduceLT,Nat.reduceLeDiff,Nat.reduceBEq,Nat.reduceBNe,Int.reduceLT,Int.reduceLE,Int.reduceEq,Int.reduceNeg,Int.reduceAdd,Int.reduceSub,Int.reduceMul,Int.reduceToNat,Int.reducePow,Nat.reducePow, List.map_nil]) (by simp [val, Dg.nil]) ?_
  rintro ⟨acc, c⟩ ⟨h1, h2, h3, h4⟩
  simp only at h1 h2 h3 h4
  have b1 : at0 xs acc.length < 65536 := at0_lt hx (by decide) _
  have b2 : at0 ys acc.length < 65536 := at0_lt hy (by decide) _
  have v1 := val_take_le (b := B16) acc.length xs
  have v2 := val_take_le (b := B16) acc.length ys
  have f1 : ∀ (acc : List Nat) (v : Nat), accS 1 0 (i64s (acc ++ [v])) = .ref (.l 0) 1 0 (acc.length + 1) true := fun acc v => by rw [accS_ne (i64s_ne (by simp))]; simp
  have f2 : ∀ (acc : List Nat) (v : Nat), accL 1 (i64s (acc ++ [v])) = [.own 1 (i64s (acc ++ [v]))] := fun acc v => accL_ne (i64s_ne (by simp))
  by_cases hi : acc.length < xs.length
  · have go : ∀ (d c' : Nat) (zd zc : Int), zd = d → zc = c' → d + at0 ys acc.length + c = at0 xs acc.length + 65536 * c' → c' ≤ 1 → d < 65536 → ∃ a : List Nat × Nat,
        (⟨[(0, .fv (.sl t (i64s xs))), (1, .fv (.sl t' (i64s ys))), (5, .ref (.l 0) 1 0 (acc.length + 1) true), (6, .fv (.int .i64 zc)), (7, .fv (.int .i64 ((acc.length + 1 : Nat) : Int)))], [], [.own 1 (i64s acc ++ [.int .i64 zd])]⟩ : St) =
        ⟨[(0, .fv (.sl t (i64s xs))), (1, .fv (.sl t' (i64s ys))), (5, accS 1 0 (i64s a.1)), (6, .fv (.int .i64 (a.2 : Int))), (7, .fv (.int .i64 (a.1.length : Int)))], [], accL 1 (i64s a.1)⟩ ∧
        (Dg B16 a.1 ∧ a.2 ≤ 1 ∧ val B16 a.1 + val B16 (ys.take a.1.length) = val B16 (xs.take a.1.length) + B16 ^ a.1.length * a.2 ∧ a.1.length ≤ xs.length) ∧ xs.length - a.1.length < xs.length - acc.length := by
      intro d c' zd zc hzd hzc e1 e2 e3
      subst hzd; subst hzc
      refine ⟨(acc ++ [d], c'), by simp only [f1, f2]; simp, ⟨h1.append (.cons e3 .nil), e2, ?_, by simp; omega⟩, by simp; omega⟩
      simp only [List.length_append, List.length_cons, List.length_nil, Nat.zero_add, v1, v2, val_snoc]
      rw [Nat.pow_succ]
      generalize B16 ^ acc.length = p at *
      have e4 : p * (d + at0 ys acc.length + c) = p * d + p * at0 ys acc.length + p * c := by rw [Nat.mul_add, Nat.mul_add]
      have e5 : p * (at0 xs acc.length + 65536 * c') = p * at0 xs acc.length + p * B16 * c' := by rw [Nat.mul_add, Nat.mul_assoc]
      rw [e1, e5] at e4
      omega
    have go0 : acc = [] → ∀ (d c' : Nat) (zd zc : Int), zd = d → zc = c' → d + at0 ys acc.length + c = at0 xs acc.length + 65536 * c' → c' ≤ 1 → d < 65536 → ∃ a : List Nat × Nat,
        (⟨[(0, .fv (.sl t (i64s xs))), (1, .fv (.sl t' (i64s ys))), (5, .ref (.l 0) 1 0 1 true), (6, .fv (.int .i64 zc)), (7, .fv (.int .i64 ((acc.length + 1 : Nat) : Int)))], [], [.own 1 [.int .i64 zd]]⟩ : St) =
        ⟨[(0, .fv (.sl t (i64s xs))), (1, .fv (.sl t' (i64s ys))), (5, accS 1 0 (i64s a.1)), (6, .fv (.int .i64 (a.2 : Int))), (7, .fv (.int .i64 (a.1.length : Int)))], [], accL 1 (i64s a.1)⟩ ∧
        (Dg B16 a.1 ∧ a.2 ≤ 1 ∧ val B16 a.1 + val B16 (ys.take a.1.length) = val B16 (xs.take a.1.length) + B16 ^ a.1.length * a.2 ∧ a.1.length ≤ xs.length) ∧ xs.length - a.1.length < xs.length - acc.length := by
      intro ha d c' zd zc k1 k2 k3 k4 k5
      have := go d c' zd zc k1 k2 k3 k4 k5
      subst ha
      exact this
    have w1 : IntKind.i64.wrap (((at0 xs acc.length : Nat) : Int) - (c : Int)) = ((at0 xs acc.length : Nat) : Int) - (c : Int) := IntWalk.i64_in _ (by omega)
    have w2 : IntKind.i64.wrap (((at0 xs acc.length : Nat) : Int) - (c : Int) - ((at0 ys acc.length : Nat) : Int)) = ((at0 xs acc.length : Nat) : Int) - (c : Int) - ((at0 ys acc.length : Nat) : Int) := IntWalk.i64_in _ (by omega)
    by_cases hj : acc.length < ys.length
    · by_cases hneg : at0 xs acc.length < c + at0 ys acc.length
      · by_cases ha : acc = []
        · have h6 := accS_e (k := 0) ha
          have h7 := accL_e ha
          simp -dsimp only [i150b0]
          simp -dsimp (disch := first | omega | assumption | apply agg_two | apply agg_nInt | apply agg_rInt | (simp only [J1,J2,J3,J4,J5,J6,J7,J8]; omega)) only [i150, go_sem,↓reduceIte,reduceCtorEq,Nat.reduceEqDiff,Nat.reduceAdd,Nat.reduceSub,Nat.reduceMul,Nat.reduceLT,Nat.reduceLeDiff,Nat.reduceBEq,Nat.reduceBNe,Int.reduceLT,Int.reduceLE,Int.reduceEq,Int.reduceNeg,Int.reduceAdd,Int.reduceSub,Int.reduceMul,Int.reduceToNat,Int.reducePow,Nat.reducePow, h6, h7]
          exact next (go0 ha (at0 xs acc.length + 65536 - c - at0 ys acc.length) 1 _ _ (by omega) rfl (by omega) (by omega) (by omega))
        · have h6 := accS_ne (sz := 1) (k := 0) (i64s_ne ha)
          have h7 := accL_ne (sz := 1) (i64s_ne ha)
          simp -dsimp only [i150b0]
          simp -dsimp (disch := first | omega | assumption | apply agg_two | apply agg_nInt | apply agg_rInt | (simp only [J1,J2,J3,J4,J5,J6,J7,J8]; omega)) only [i150, go_sem,↓reduceIte,reduceCtorEq,Nat.reduceEqDiff,Nat.reduceAdd,Nat.reduceSub,Nat.reduceMul,Nat.reduceLT,Nat.reduceLeDiff,Nat.reduceBEq,Nat.reduceBNe,Int.reduceLT,Int.reduceLE,Int.reduceEq,Int.reduceNeg,Int.reduceAdd,Int.reduceSub,Int.reduceMul,Int.reduceToNat,Int.reducePow,Nat.reducePow, h6, h7]
          exact next (go (at0 xs acc.length + 65536 - c - at0 ys acc.length) 1 _ _ (by omega) rfl (by omega) (by omega) (by omega))
      · by_cases ha : acc = []
        · have h6 := accS_e (k := 0) ha
          have h7 := accL_e ha
          simp -dsimp only [i150b0]
          simp -dsimp (disch := first | omega | assumption | apply agg_two | apply agg_nInt | apply agg_rInt | (simp only [J1,J2,J3,J4,J5,J6,J7,J8]; omega)) only [i150, go_sem,↓reduceIte,reduceCtorEq,Nat.reduceEqDiff,Nat.reduceAdd,Nat.reduceSub,Nat.reduceMul,Nat.reduceLT,Nat.reduceLeDiff,Nat.reduceBEq,Nat.reduceBNe,Int.reduceLT,Int.reduceLE,Int.reduceEq,Int.reduceNeg,Int.reduceAdd,Int.reduceSub,Int.reduceMul,Int.reduceToNat,Int.reducePow,Nat.reducePow, h6, h7]
          exact next (go0 ha (at0 xs acc.length - c - at0 ys acc.length) 0 _ _ (by omega) rfl (by omega) (by omega) (by omega))
        · have h6 := accS_ne (sz := 1) (k := 0) (i64s_ne ha)
          have h7 := accL_ne (sz := 1) (i64s_ne ha)
          simp -dsimp only [i150b0]
          simp -dsimp (disch := first | omega | assumption | apply agg_two | apply agg_nInt | apply agg_rInt | (simp only [J1,J2,J3,J4,J5,J6,J7,J8]; omega)) only [i150, go_sem,↓reduceIte,reduceCtorEq,Nat.reduceEqDiff,Nat.reduceAdd,Nat.reduceSub,Nat.reduceMul,Nat.reduceLT,Nat.reduceLeDiff,Nat.reduceBEq,Nat.reduceBNe,Int.reduceLT,Int.reduceLE,Int.reduceEq,Int.reduceNeg,Int.reduceAdd,Int.reduceSub,Int.reduceMul,Int.reduceToNat,Int.reducePow,Nat.reducePow, h6, h7]
          rw [← i64s_snoc]
          exact next (go (at0 xs acc.length - c - at0 ys acc.length) 0 _ _ (by omega) rfl (by omega) (by omega) (by omega))
    · have z2 : at0 ys acc.length = 0 := at0_out (by omega)
      by_cases hneg : at0 xs acc.length < c
      · by_cases ha : acc = []
        · have h6 := accS_e (k := 0) ha
          have h7 := accL_e ha
          simp -dsimp only [i150b0]
          simp -dsimp (disch := first | omega | assumption | apply agg_two | apply agg_nInt | apply agg_rInt | (simp only [J1,J2,J3,J4,J5,J6,J7,J8]; omega)) only [i150, go_sem,↓reduceIte,reduceCtorEq,Nat.reduceEqDiff,Nat.reduceAdd,Nat.reduceSub,Nat.reduceMul,Nat.reduceLT,Nat.reduceLeDiff,Nat.reduceBEq,Nat.reduceBNe,Int.reduceLT,Int.reduceLE,Int.reduceEq,Int.reduceNeg,Int.reduceAdd,Int.reduceSub,Int.reduceMul,Int.reduceToNat,Int.reducePow,Nat.reducePow, h6, h7]
          exact next (go0 ha (at0 xs acc.length + 65536 - c) 1 _ _ (by omega) rfl (by omega) (by omega) (by omega))
        · have h6 := accS_ne (sz := 1) (k := 0) (i64s_ne ha)
          have h7 := accL_ne (sz := 1) (i64s_ne ha)
          simp -dsimp only [i150b0]
          simp -dsimp (disch := first | omega | assumption | apply agg_two | apply agg_nInt | apply agg_rInt | (simp only [J1,J2,J3,J4,J5,J6,J7,J8]; omega)) only [i150, go_sem,↓reduceIte,reduceCtorEq,Nat.reduceEqDiff,Nat.reduceAdd,Nat.reduceSub,Nat.reduceMul,Nat.reduceLT,Nat.reduceLeDiff,Nat.reduceBEq,Nat.reduceBNe,Int.reduceLT,Int.reduceLE,Int.reduceEq,Int.reduceNeg,Int.reduceAdd,Int.reduceSub,Int.reduceMul,Int.reduceToNat,Int.reducePow,Nat.reducePow, h6, h7]
          exact next (go (at0 xs acc.length + 65536 - c) 1 _ _ (by omega) rfl (by omega) (by omega) (by omega))
      · by_cases ha : acc = []
        · have h6 := accS_e (k := 0) ha
          have h7 := accL_e ha
          simp -dsimp only [i150b0]
          simp -dsimp (disch := first | omega | assumption | apply agg_two | apply agg_nInt | apply agg_rInt | (simp only [J1,J2,J3,J4,J5,J6,J7,J8]; omega)) only [i150, go_sem,↓reduceIte,reduceCtorEq,Nat.reduceEqDiff,Nat.reduceAdd,Nat.reduceSub,Nat.reduceMul,Nat.reduceLT,Nat.reduceLeDiff,Nat.reduceBEq,Nat.reduceBNe,Int.reduceLT,Int.reduceLE,Int.reduceEq,Int.reduceNeg,Int.reduceAdd,Int.reduceSub,Int.reduceMul,Int.reduceToNat,Int.reducePow,Nat.reducePow, h6, h7]
          exact next (go0 ha (at0 xs acc.length - c) 0 _ _ (by omega) rfl (by omega) (by omega) (by omega))
        · have h6 := accS_ne (sz := 1) (k := 0) (i64s_ne ha)
          have h7 := accL_ne (sz := 1) (i64s_ne ha)
          simp -dsimp only [i150b0]
          simp -dsimp (disch := first | omega | assumption | apply agg_two | apply agg_nInt | apply agg_rInt | (simp only [J1,J2,J3,J4,J5,J6,J7,J8]; omega)) only [i150, go_sem,↓reduceIte,reduceCtorEq,Nat.reduceEqDiff,Nat.reduceAdd,Nat.reduceSub,Nat.reduceMul,Nat.reduceLT,Nat.reduceLeDiff,Nat.reduceBEq,Nat.reduceBNe,Int.reduceLT,Int.reduceLE,Int.reduceEq,Int.reduceNeg,Int.reduceAdd,Int.reduceSub,Int.reduceMul,Int.reduceToNat,Int.reducePow,Nat.reducePow, h6, h7]
          rw [← i64s_snoc]
          exact next (go (at0 xs acc.length - c) 0 _ _ (by omega) rfl (by omega) (by omega) (by omega))
  · have he : acc.length = xs.length := by omega
    rw [he, val_take_all (Nat.le_refl _), val_take_all hl] at h3
    have v := val_lt h1
    rw [he] at v
    have hc : c = 0 := by
      rcases Nat.eq_zero_or_pos c with h | h
      · exact h
      · have : c = 1 := by omega
        subst this; omega
    subst hc
    by_cases ha : acc = []
    · have h6 := accS_e (k := 0) ha
      have h7 := accL_e ha
      simp -dsimp only [i150b0]
      simp -dsimp (disch := first | omega | assumption | apply agg_two | apply agg_nInt | apply agg_rInt | (simp only [J1,J2,J3,J4,J5,J6,J7,J8]; omega)) only [i150, go_sem,↓reduceIte,reduceCtorEq,Nat.reduceEqDiff,Nat.reduceAdd,Nat.reduceSub,Nat.reduceMul,Nat.reduceLT,Nat.reduceLeDiff,Nat.reduceBEq,Nat.reduceBNe,Int.reduceLT,Int.reduceLE,Int.reduceEq,Int.reduceNeg,Int.reduceAdd,Int.reduceSub,Int.reduceMul,Int.reduceToNat,Int.reducePow,Nat.reducePow, h6, h7]
      exact ⟨.nil, acc, by subst ha; rfl, h1, by omega, by omega⟩
    · have h6 := accS_ne (sz := 1) (k := 0) (i64s_ne ha)
      have h7 := accL_ne (sz := 1) (i64s_ne ha)
      simp -dsimp only [i150b0]
      simp -dsimp (disch := first | omega | assumption | apply agg_two | apply agg_nInt | apply agg_rInt | (simp only [J1,J2,J3,J4,J5,J6,J7,J8]; omega)) only [i150, go_sem,↓reduceIte,reduceCtorEq,Nat.reduceEqDiff,Nat.reduceAdd,Nat.reduceSub,Nat.reduceMul,Nat.reduceLT,Nat.reduceLeDiff,Nat.reduceBEq,Nat.reduceBNe,Int.reduceLT,Int.reduceLE,Int.reduceEq,Int.reduceNeg,Int.reduceAdd,Int.reduceSub,Int.reduceMul,Int.reduceToNat,Int.reducePow,Nat.reducePow, h6, h7]
      exact ⟨.any, acc, rfl, h1, by omega, by omega⟩
end Go.Proofs.YtklelbidjcealaaGreat
namespace Go.Proofs.YtklelbidjcealaaGreat
open Go Go.Ab
theorem Bd.len16 {k : Nat} {z : Int} (h : Bd k z) : (digs B16 z.natAbs).length ≤ k := digs_len_bits (w := 16) (by decide) h
theorem RAdd_ok {x y : FV} {a b : Int} {k : Nat} (hx : IsR x a) (hy : IsR y b) (ha : Bd k a) (hb : Bd k b) (hk : Fair k) : ret tab.get an 101 [x, y] = some (rInt (a + b)) := by
  have la := ha.len16
  have lb := hb.len16
  have da := digs_Dg (b := B16) (by decide) a.natAbs
  have db := digs_Dg (b := B16) (by decide) b.natAbs
  have va := val_digs (b := B16) (by decide) a.natAbs
  have vb := val_digs (b := B16) (by decide) b.natAbs
  obtain ⟨t, rfl⟩ := hx
  obtain ⟨t', rfl⟩ := hy
  have hc := rcmp_ok t t' (m := a.natAbs) (n := b.natAbs) (by omega) (by omega)
  have ag := agg_rInt (a + b)
  generalize hs : decide (a < 0) = s
  generalize hu : decide (b < 0) = u
  refine ret_eq (fn := i101) rfl rfl ?_
  simp -dsimp only [i101]
  by_cases h : s = u
  · subst h
    obtain ⟨y, hp, t2, ds, rfl, hd, hv, hl⟩ := radd_ok t t' da db (by omega) (by omega)
    have hm := rtrim_ok s t2 hd (by omega)
    rw [hv, va, vb, show sg s (a.natAbs + b.natAbs) = a + b by
      rw [← hu] at hs; rw [← hu]
      by_cases h1 : a < 0 <;> by_cases h2 : b < 0 <;> simp [h1, h2] at hs <;> simp [sg, h2] <;> omega] at hm
    simp -dsimp (disch := first | omega | assumption | apply agg_two | apply agg_nInt | apply agg_rInt | (simp only [J1,J2,J3,J4,J5,J6,J7,J8]; omega)) only [i101, ↓i101d0t, i101d0, ↓i101d1t, i101d1, ↓i101d2t, i101d2, go_sem,↓reduceIte,reduceCtorEq,Nat.reduceEqDiff,Nat.reduceAdd,Nat.reduceSub,Nat.reduceMul,Nat.reduceLT,Nat.reduceLeDiff,Nat.reduceBEq,Nat.reduceBNe,Int.reduceLT,Int.reduceLE,Int.reduceEq,Int.reduceNeg,Int.reduceAdd,Int.reduceSub,Int.reduceMul,Int.reduceToNat,Int.reducePow,Nat.reducePow, hp, hm]
  · have hb' : (s == u) = false := by simpa using h
    by_cases h2 : b.natAbs ≤ a.natAbs
    · have hc2 : c3 a.natAbs b.natAbs ≥ 0 := c3_ge (by omega)
      obtain ⟨y, hp, t2, ds, rfl, hd, hv, hl⟩ := rsub_ok t t' da db (by omega) (digs_len_mono (by decide) h2) (by rw [va, vb]; exact h2)
      have hm := rtrim_ok s t2 hd (by omega)
      rw [hv, va, vb, show sg s (a.natAbs - b.natAbs) = a + b by
        rw [← hs, ← hu] at h; rw [← hs]
        by_cases h1 : a < 0 <;> by_cases h2 : b < 0 <;> simp [h1, h2] at h <;> simp [sg, h1] <;> omega] at hm
      simp -dsimp (disch := first | omega | assumption | apply agg_two | apply agg_nInt | apply agg_rInt | (simp only [J1,J2,J3,J4,J5,J6,J7,J8]; omega)) only [i101, ↓i101d0t, i101d0, ↓i101d1t, i101d1, ↓i101d2t, i101d2, go_sem,↓reduceIte,reduceCtorEq,Nat.reduceEqDiff,Nat.reduceAdd,Nat.reduceSub,Nat.reduceMul,Nat.reduceLT,Nat.reduceLeDiff,Nat.reduceBEq,Nat.reduceBNe,Int.reduceLT,Int.reduceLE,Int.reduceEq,Int.reduceNeg,Int.reduceAdd,Int.reduceSub,Int.reduceMul,Int.reduceToNat,Int.reducePow,Nat.reducePow, hb', hc, hp, hm]
    · have hc2 : c3 a.natAbs b.natAbs < 0 := by unfold c3; rw [if_pos (by omega)]; omega
      obtain ⟨y, hp, t2, ds, rfl, hd, hv, hl⟩ := rsub_ok t' t db da (by omega) (digs_len_mono (by decide) (by omega)) (by rw [va, vb]; omega)
      have hm := rtrim_ok u t2 hd (by omega)
      rw [hv, va, vb, show sg u (b.natAbs - a.natAbs) = a + b by
        rw [← hs, ← hu] at h; rw [← hu]
        by_cases h1 : a < 0 <;> by_cases h2 : b < 0 <;> simp [h1, h2] at h <;> simp [sg, h2] <;> omega] at hm
      simp -dsimp (disch := first | omega | assumption | apply agg_two | apply agg_nInt | apply agg_rInt | (simp only [J1,J2,J3,J4,J5,J6,J7,J8]; omega)) only [i101, ↓i101d0t, i101d0, ↓i101d1t, i101d1, ↓i101d2t, i101d2, go_sem,↓reduceIte,reduceCtorEq,Nat.reduceEqDiff,Nat.reduceAdd,Nat.reduceSub,Nat.reduceMul,Nat.reduceLT,Nat.reduceLeDiff,Nat.reduceBEq,Nat.reduceBNe,Int.reduceLT,Int.reduceLE,Int.reduceEq,Int.reduceNeg,Int.reduceAdd,Int.reduceSub,Int.reduceMul,Int.reduceToNat,Int.reducePow,Nat.reducePow, hb', hc, hp, hm]
theorem RNeg_ok {x : FV} {a : Int} {k : Nat} (hx : IsR x a) (ha : Bd k a) (hk : Fair k) : ret tab.get an 169 [x] = some (rInt (-a)) := by
  have la := ha.len16
  have ag := agg_rInt (-a)
  obtain ⟨t, rfl⟩ := hx
  have hm := rtrim_ok (!decide (a < 0)) t (digs_Dg (b := B16) (by decide) a.natAbs) (by omega)
  rw [val_digs (by decide), sg_not] at hm
  refine ret_eq (fn := i169) rfl rfl ?_
  simp -dsimp only [i169]
  simp -dsimp (disch := first | omega | assumption | apply agg_two | apply agg_nInt | apply agg_rInt | (simp only [J1,J2,J3,J4,J5,J6,J7,J8]; omega)) only [i169, go_sem,↓reduceIte,reduceCtorEq,Nat.reduceEqDiff,Nat.reduceAdd,Nat.reduceSub,Nat.reduceMul,Nat.reduceLT,Nat.reduceLeDiff,Nat.reduceBEq,Nat.reduceBNe,Int.reduceLT,Int.reduceLE,Int.reduceEq,Int.reduceNeg,Int.reduceAdd,Int.reduceSub,Int.reduceMul,Int.reduceToNat,Int.reducePow,Nat.reducePow, hm]
theorem RSub_ok {x y : FV} {a b : Int} {k : Nat} (hx : IsR x a) (hy : IsR y b) (ha : Bd k a) (hb : Bd k b) (hk : Fair k) : ret tab.get an 172 [x, y] = some (rInt (a - b)) := by
  have h1 := RNeg_ok hy hb hk
  have h2 := RAdd_ok hx (rInt_R (-b)) ha hb.neg hk
  rw [← Int.sub_eq_add_neg] at h2
  have ax := hx.agg
  have ay := hy.agg
  have ag := agg_rInt (a - b)
  refine ret_eq (fn := i172) rfl rfl ?_
  simp -dsimp only [i172]
  simp -dsimp (disch := first | omega | assumption | apply agg_two | apply agg_nInt | apply agg_rInt | (simp only [J1,J2,J3,J4,J5,J6,J7,J8]; omega)) only [i172, ↓i172d0t, i172d0, go_sem,↓reduceIte,reduceCtorEq,Nat.reduceEqDiff,Nat.reduceAdd,Nat.reduceSub,Nat.reduceMul,Nat.reduceLT,Nat.reduceLeDiff,Nat.reduceBEq,Nat.reduceBNe,Int.reduceLT,Int.reduceLE,Int.reduceEq,Int.reduceNeg,Int.reduceAdd,Int.reduceSub,Int.reduceMul,Int.reduceToNat,Int.reducePow,Nat.reducePow, h1, h2]
theorem RSign_ok {x : FV} {a : Int} (hx : IsR x a) : ret tab.get an 46 [x] = some (.int .i64 a.sign) := by
  obtain ⟨t, rfl⟩ := hx
  refine ret_eq (fn := i46) rfl rfl ?_
  simp -dsimp only [i46]
  have hz := digs_len0 (b := B16) (n := a.natAbs) (by decide)
  rcases Int.lt_trichotomy a 0 with h | h | h
  · have h1 : ¬ (digs B16 a.natAbs).length = 0 := by rw [hz]; omega
    have h2 : a.sign = -1 := Int.sign_eq_neg_one_of_neg h
    simp -dsimp (disch := first | omega | assumption | apply agg_two | apply agg_nInt | apply agg_rInt | (simp only [J1,J2,J3,J4,J5,J6,J7,J8]; omega)) only [i46, go_sem,↓reduceIte,reduceCtorEq,Nat.reduceEqDiff,Nat.reduceAdd,Nat.reduceSub,Nat.reduceMul,Nat.reduceLT,Nat.reduceLeDiff,Nat.reduceBEq,Nat.reduceBNe,Int.reduceLT,Int.reduceLE,Int.reduceEq,Int.reduceNeg,Int.reduceAdd,Int.reduceSub,Int.reduceMul,Int.reduceToNat,Int.reducePow,Nat.reducePow, h2]
  · subst h
    have h1 : (digs B16 (0 : Int).natAbs).length = 0 := by rw [hz]; rfl
    simp -dsimp (disch := first | omega | assumption | apply agg_two | apply agg_nInt | apply agg_rInt | (simp only [J1,J2,J3,J4,J5,J6,J7,J8]; omega)) only [i46, go_sem,↓reduceIte,reduceCtorEq,Nat.reduceEqDiff,Nat.reduceAdd,Nat.reduceSub,Nat.reduceMul,Nat.reduceLT,Nat.reduceLeDiff,Nat.reduceBEq,Nat.reduceBNe,Int.reduceLT,Int.reduceLE,Int.reduceEq,Int.reduceNeg,Int.reduceAdd,Int.reduceSub,Int.reduceMul,Int.reduceToNat,Int.reducePow,Nat.reducePow]
    rfl
  · have h1 : ¬ (digs B16 a.natAbs).length = 0 := by rw [hz]; omega
    have h2 : a.sign = 1 := Int.sign_eq_one_of_pos h
    have h3 : decide (a < 0) = false := by simp; omega
    simp -dsimp (disch := first | omega | assumption | apply agg_two | apply agg_nInt | apply agg_rInt | (simp only [J1,J2,J3,J4,J5,J6,J7,J8]; omega)) only [i46, go_sem,↓reduceIte,reduceCtorEq,Nat.reduceEqDiff,Nat.reduceAdd,Nat.reduceSub,Nat.reduceMul,Nat.reduceLT,Nat.reduceLeDiff,Nat.reduceBEq,Nat.reduceBNe,Int.reduceLT,Int.reduceLE,Int.reduceEq,Int.reduceNeg,Int.reduceAdd,Int.reduceSub,Int.reduceMul,Int.reduceToNat,Int.reducePow,Nat.reducePow, h2, h3]
theorem sign_lt {a b : Int} (h : a.sign < b.sign) : a < b := by
  rcases Int.lt_trichotomy a 0 with ha | ha | ha <;> rcases Int.lt_trichotomy b 0 with hb | hb | hb <;> simp_all [Int.sign_eq_neg_one_of_neg, Int.sign_eq_one_of_pos] <;> omega
theorem RCmp_ok {x y : FV} {a b : Int} {k : Nat} (hx : IsR x a) (hy : IsR y b) (ha : Bd k a) (hb : Bd k b) (hk : Fair k) : ret tab.get an 154 [x, y] = some (.int .i64 (c3 a b)) := by
  have h1 := RSign_ok hx
  have h2 := RSign_ok hy
  have la := ha.len16
  have lb := hb.len16
  obtain ⟨t, rfl⟩ := hx
  obtain ⟨t', rfl⟩ := hy
  have h5 := rcmp_ok t t' (m := a.natAbs) (n := b.natAbs) (by omega) (by omega)
  refine ret_eq (fn := i154) rfl rfl ?_
  simp -dsimp only [i154]
  have cc : a.sign = b.sign → a.sign * c3 a.natAbs b.natAbs = c3 a b := by
    intro h
    unfold c3
    rcases Int.lt_trichotomy a 0 with ha | ha | ha
    · have hb : b < 0 := by
        rw [Int.sign_eq_neg_one_of_neg ha] at h
        rcases Int.lt_trichotomy b 0 with hb | hb | hb
        · exact hb
        · rw [hb] at h; simp at h
        · rw [Int.sign_eq_one_of_pos hb] at h; omega
      rw [Int.sign_eq_neg_one_of_neg ha]
      by_cases h6 : a < b
      · rw [if_pos h6, if_neg (by omega), if_pos (by omega)]; rfl
      · by_cases h7 : b < a
        · rw [if_neg h6, if_pos h7, if_pos (by omega)]; rfl
        · rw [if_neg h6, if_neg h7, if_neg (by omega), if_neg (by omega)]; rfl
    · have hb : b = 0 := by
        rw [ha] at h; simp at h; exact (Int.sign_eq_zero_iff_zero).1 h.symm
      subst ha; subst hb; simp
    · have hb : 0 < b := by
        rw [Int.sign_eq_one_of_pos ha] at h
        rcases Int.lt_trichotomy b 0 with hb | hb | hb
        · rw [Int.sign_eq_neg_one_of_neg hb] at h; omega
        · rw [hb] at h; simp at h
        · exact hb
      rw [Int.sign_eq_one_of_pos ha]
      by_cases h6 : a < b
      · rw [if_pos h6, if_pos (by omega)]; rfl
      · by_cases h7 : b < a
        · rw [if_neg h6, if_pos h7, if_neg (by omega), if_pos (by omega)]; rfl
        · rw [if_neg h6, if_neg h7, if_neg (by omega), if_neg (by omega)]; rfl
  rcases Int.lt_trichotomy a.sign b.sign with h | h | h
  · have : c3 a b = -1 := by
      have : a < b := sign_lt h
      simp [c3, this]
    simp -dsimp (disch := first | omega | assumption | apply agg_two | apply agg_nInt | apply agg_rInt | (simp only [J1,J2,J3,J4,J5,J6,J7,J8]; omega)) only [i154, go_sem,↓reduceIte,reduceCtorEq,Nat.reduceEqDiff,Nat.reduceAdd,Nat.reduceSub,Nat.reduceMul,Nat.reduceLT,Nat.reduceLeDiff,Nat.reduceBEq,Nat.reduceBNe,Int.reduceLT,Int.reduceLE,Int.reduceEq,Int.reduceNeg,Int.reduceAdd,Int.reduceSub,Int.reduceMul,Int.reduceToNat,Int.reducePow,Nat.reducePow, h1, h2, h5, this]
  · have hm := c3_range a b
    have e := cc h
    simp -dsimp (disch := first | omega | assumption | apply agg_two | apply agg_nInt | apply agg_rInt | (simp only [J1,J2,J3,J4,J5,J6,J7,J8]; omega)) only [i154, go_sem,↓reduceIte,reduceCtorEq,Nat.reduceEqDiff,Nat.reduceAdd,Nat.reduceSub,Nat.reduceMul,Nat.reduceLT,Nat.reduceLeDiff,Nat.reduceBEq,Nat.reduceBNe,Int.reduceLT,Int.reduceLE,Int.reduceEq,Int.reduceNeg,Int.reduceAdd,Int.reduceSub,Int.reduceMul,Int.reduceToNat,Int.reducePow,Nat.reducePow, h1, h2, h5, e]
  · have : c3 a b = 1 := by
      have : b < a := sign_lt h
      simp [c3, this]; omega
    simp -dsimp (disch := first | omega | assumption | apply agg_two | apply agg_nInt | apply agg_rInt | (simp only [J1,J2,J3,J4,J5,J6,J7,J8]; omega)) only [i154, go_sem,↓reduceIte,reduceCtorEq,Nat.reduceEqDiff,Nat.reduceAdd,Nat.reduceSub,Nat.reduceMul,Nat.reduceLT,Nat.reduceLeDiff,Nat.reduceBEq,Nat.reduceBNe,Int.reduceLT,Int.reduceLE,Int.reduceEq,Int.reduceNeg,Int.reduceAdd,Int.reduceSub,Int.reduceMul,Int.reduceToNat,Int.reducePow,Nat.reducePow, h1, h2, h5, this]
theorem RBits_ok {x : FV} {a : Int} {k : Nat} (hx : IsR x a) (ha : Bd k a) (hk : Fair k) : ret tab.get an 74 [x] = some (.int .i64 (blen a.natAbs : Nat)) := by
  have la := ha.len16
  obtain ⟨t, rfl⟩ := hx
  refine ret_eq (fn := i74) rfl rfl ?_
  simp -dsimp only [i74]
  by_cases h0 : a.natAbs = 0
  · have : (digs B16 a.natAbs).length = 0 := (digs_len0 (by decide)).2 h0
    simp -dsimp (disch := first | omega | assumption | apply agg_two | apply agg_nInt | apply agg_rInt | (simp only [J1,J2,J3,J4,J5,J6,J7,J8]; omega)) only [i74, go_sem,↓reduceIte,reduceCtorEq,Nat.reduceEqDiff,Nat.reduceAdd,Nat.reduceSub,Nat.reduceMul,Nat.reduceLT,Nat.reduceLeDiff,Nat.reduceBEq,Nat.reduceBNe,Int.reduceLT,Int.reduceLE,Int.reduceEq,Int.reduceNeg,Int.reduceAdd,Int.reduceSub,Int.reduceMul,Int.reduceToNat,Int.reducePow,Nat.reducePow]
    rw [h0]; rfl
  · have hp : 0 < (digs B16 a.natAbs).length := by
      rcases Nat.eq_zero_or_pos (digs B16 a.natAbs).length with h | h
      · rw [digs_len0 (by decide)] at h; omega
      · exact h
    obtain ⟨e1, e2⟩ := digs_top (b := B16) (by decide) h0
    have d := digs_Dg (b := B16) (by decide) a.natAbs
    have b1 : at0 (digs B16 a.natAbs) ((digs B16 a.natAbs).length - 1) < 65536 := at0_lt d (by decide) _
    have h1 := val_lt (d.take ((digs B16 a.natAbs).length - 1))
    rw [List.length_take, Nat.min_eq_left (by omega), show B16 = 2 ^ 16 from rfl, ← Nat.pow_mul] at h1
    have h2 := blen_high (m := 16 * ((digs B16 a.natAbs).length - 1)) e2 h1
    have h5 : blen (at0 (digs B16 a.natAbs) ((digs B16 a.natAbs).length - 1)) ≤ 16 := blen_le b1
    rw [show (2 : Nat) ^ (16 * ((digs B16 a.natAbs).length - 1)) = B16 ^ ((digs B16 a.natAbs).length - 1) by rw [Nat.pow_mul], show (2 : Nat) ^ 16 = B16 from rfl, ← e1] at h2
    generalize hT : at0 (digs B16 a.natAbs) ((digs B16 a.natAbs).length - 1) = T at *
    simp -dsimp (disch := first | omega | assumption | apply agg_two | apply agg_nInt | apply agg_rInt | (simp only [J1,J2,J3,J4,J5,J6,J7,J8]; omega)) only [i74, go_sem,↓reduceIte,reduceCtorEq,Nat.reduceEqDiff,Nat.reduceAdd,Nat.reduceSub,Nat.reduceMul,Nat.reduceLT,Nat.reduceLeDiff,Nat.reduceBEq,Nat.reduceBNe,Int.reduceLT,Int.reduceLE,Int.reduceEq,Int.reduceNeg,Int.reduceAdd,Int.reduceSub,Int.reduceMul,Int.reduceToNat,Int.reducePow,Nat.reducePow, hT]
    have half : ∀ m : Nat, m ≠ 0 → blen m = blen (m / 2) + 1 := by
      intro m hm
      by_cases h : m / 2 = 0
      · have : m = 1 := by omega
        subst this; rfl
      · have := blen_high (m := 1) (d := m / 2) (r := m % 2) h (by omega)
        rw [show m % 2 + 2 ^ 1 * (m / 2) = m by omega] at this
        omega
    refine pW_loop (fun c : Nat × Nat => ⟨[(3, .fv (.int .i64 ((digs B16 a.natAbs).length : Int))), (4, .fv (.int .i64 (c.1 : Int))), (5, .fv (.int .i64 (c.2 : Int)))], [], []⟩) (fun c => c.1 + blen c.2 = blen T ∧ c.2 ≤ T) (fun c => c.2) (0, T) (by simp -dsimp (disch := first | omega | assumption | apply agg_two | apply agg_nInt | apply agg_rInt | (simp only [J1,J2,J3,J4,J5,J6,J7,J8]; omega)) only [go_sem,↓reduceIte,reduceCtorEq,Nat.reduceEqDiff,Nat.reduceAdd,Nat.reduceSub,Nat.reduceMul,Nat.reduceLT,Nat.reduceLeDiff,Nat.reduceBEq,Nat.reduceBNe,Int.reduceLT,Int.reduceLE,Int.reduceEq,Int.reduceNeg,Int.reduceAdd,Int.reduceSub,Int.reduceMul,Int.reduceToNat,Int.reducePow,Nat.reducePow, hT]) (by simp) ?_
    rintro ⟨n, m⟩ ⟨k1, k2⟩
    simp only at k1 k2
    by_cases hm : m = 0
    · subst hm
      have k3 : n = blen T := by simpa [blen] using k1
      simp -dsimp only [i74b0]
      simp -dsimp (disch := first | omega | assumption | apply agg_two | apply agg_nInt | apply agg_rInt | (simp only [J1,J2,J3,J4,J5,J6,J7,J8]; omega)) only [i74, go_sem,↓reduceIte,reduceCtorEq,Nat.reduceEqDiff,Nat.reduceAdd,Nat.reduceSub,Nat.reduceMul,Nat.reduceLT,Nat.reduceLeDiff,Nat.reduceBEq,Nat.reduceBNe,Int.reduceLT,Int.reduceLE,Int.reduceEq,Int.reduceNeg,Int.reduceAdd,Int.reduceSub,Int.reduceMul,Int.reduceToNat,Int.reducePow,Nat.reducePow]
      exact congrArg (FV.int .i64) (by omega)
    · have k3 := half m hm
      simp -dsimp only [i74b0]
      simp -dsimp (disch := first | omega | assumption | apply agg_two | apply agg_nInt | apply agg_rInt | (simp only [J1,J2,J3,J4,J5,J6,J7,J8]; omega)) only [i74, go_sem,↓reduceIte,reduceCtorEq,Nat.reduceEqDiff,Nat.reduceAdd,Nat.reduceSub,Nat.reduceMul,Nat.reduceLT,Nat.reduceLeDiff,Nat.reduceBEq,Nat.reduceBNe,Int.reduceLT,Int.reduceLE,Int.reduceEq,Int.reduceNeg,Int.reduceAdd,Int.reduceSub,Int.reduceMul,Int.reduceToNat,Int.reducePow,Nat.reducePow]
      exact next ⟨(n + 1, m / 2), rfl, ⟨by simp only; omega, by simp only; omega⟩, by simp only; omega⟩
theorem rmul_in {Q : IExit → St → Prop} {t t' : Tag} {sx sy : Bool} {z : FV} {xs ys o0 : List Nat} {i n : Nat} (hx : Dg B16 xs) (hy : Dg B16 ys) (ho : Dg B16 o0) (hn : o0.length = n) (hi : i + ys.length < n) (hix : i < xs.length) (hs : n ≤ 1000000000000) {st : St}
    (h0 : gc [2, 3, 4, 5, 6, 7, 8] st = ⟨[(2, .ptr (.l 0) 2 0 0), (3, .ptr (.l 1) 2 0 0), (4, .ptr (.l 2) 2 0 0), (5, .ref (.l 3) 1 0 n true), (6, .fv (.int .i64 (i : Int))), (7, .fv (.int .i64 0)), (8, .fv (.int .i64 0))], [], [.own 2 [.agg [.bool sx, .sl t (i64s xs)]], .own 2 [.agg [.bool sy, .sl t' (i64s ys)]], .own 2 [z], .own 1 (i64s o0)]⟩)
    (hQ : ∀ e o c, e.get 2 = .ptr (.l 0) 2 0 0 → e.get 3 = .ptr (.l 1) 2 0 0 → e.get 4 = .ptr (.l 2) 2 0 0 → e.get 5 = .ref (.l 3) 1 0 n true → e.get 6 = .fv (.int .i64 (i : Int)) → e.get 7 = .fv (.int .i64 ((c : Nat) : Int)) →
      o.length = n → Dg B16 o → c < 65536 → val B16 o + B16 ^ (i + ys.length) * c = val B16 o0 + B16 ^ i * (at0 xs i * val B16 ys) → (∀ p, i + ys.length ≤ p → at0 o p = at0 o0 p) → Q (.exit 2) ⟨e, [], [.own 2 [.agg [.bool sx, .sl t (i64s xs)]], .own 2 [.agg [.bool sy, .sl t' (i64s ys)]], .own 2 [z], .own 1 (i64s o)]⟩) :
    pW Q tab.get an 102 (.loop [2, 3, 4, 5, 6, 7, 8] i102b0) st .mk := by
  refine pW_loop (fun a : Nat × List Nat × Nat => ⟨[(2, .ptr (.l 0) 2 0 0), (3, .ptr (.l 1) 2 0 0), (4, .ptr (.l 2) 2 0 0), (5, .ref (.l 3) 1 0 n true), (6, .fv (.int .i64 (i : Int))), (7, .fv (.int .i64 (a.2.2 : Int))), (8, .fv (.int .i64 (a.1 : Int)))], [], [.own 2 [.agg [.bool sx, .sl t (i64s xs)]], .own 2 [.agg [.bool sy, .sl t' (i64s ys)]], .own 2 [z], .own 1 (i64s a.2.1)]⟩)
    (fun a => a.1 ≤ ys.length ∧ a.2.1.length = n ∧ Dg B16 a.2.1 ∧ a.2.2 < 65536 ∧ val B16 a.2.1 + B16 ^ (i + a.1) * a.2.2 = val B16 o0 + B16 ^ i * (at0 xs i * val B16 (ys.take a.1)) ∧ ∀ p, i + a.1 ≤ p → at0 a.2.1 p = at0 o0 p) (fun a => ys.length - a.1) (0, o0, 0) (by rw [h0]; rfl) ⟨by omega, hn, ho, by show 0 < 65536; omega, by simp [val], fun _ _ => rfl⟩ ?_
  rintro ⟨j, o, c⟩ ⟨h1, h2, h3, h4, h5, h6⟩
  simp only at h1 h2 h3 h4 h5 h6
  by_cases hj : j < ys.length
  · have b0 : at0 xs i < 65536 := at0_lt hx (by decide) i
    have b1 : at0 ys j < 65536 := at0_lt hy (by decide) j
    have b2 : at0 o (i + j) < 65536 := at0_lt h3 (by decide) _
    have b3 : at0 xs i * at0 ys j ≤ 65535 * 65535 := Nat.mul_le_mul (by omega) (by omega)
    have v1 := val_take_le (b := B16) j ys
    simp -dsimp only [i102b0]
    simp -dsimp (disch := first | omega | assumption | apply agg_two | apply agg_nInt | apply agg_rInt | (simp only [J1,J2,J3,J4,J5,J6,J7,J8]; omega)) only [i102, ↓i102d0t, i102d0, go_sem,↓reduceIte,reduceCtorEq,Nat.reduceEqDiff,Nat.reduceAdd,Nat.reduceSub,Nat.reduceMul,Nat.reduceLT,Nat.reduceLeDiff,Nat.reduceBEq,Nat.reduceBNe,Int.reduceLT,Int.reduceLE,Int.reduceEq,Int.reduceNeg,Int.reduceAdd,Int.reduceSub,Int.reduceMul,Int.reduceToNat,Int.reducePow,Nat.reducePow]
    generalize hz : c + (at0 o (i + j) + at0 xs i * at0 ys j) = z
    refine next ⟨(j + 1, o.set (i + j) (z % 65536), z / 65536), rfl, ⟨by omega, by simp [h2], h3.set (Nat.mod_lt _ (by decide)), by simp only; omega, ?_, ?_⟩, by simp only; omega⟩
    · simp only
      have e1 := Nat.mod_add_div z 65536
      have e2 := val_set (b := B16) (i := i + j) (v := z % 65536) (xs := o) (by omega)
      rw [v1, show i + (j + 1) = (i + j) + 1 by omega, Nat.pow_succ, Nat.mul_add, Nat.mul_add]
      have e3 : B16 ^ (i + j) * (z % 65536) + B16 ^ (i + j) * B16 * (z / 65536) = B16 ^ (i + j) * z := by rw [Nat.mul_assoc, ← Nat.mul_add, e1]
      have e4 : B16 ^ i * (at0 xs i * (B16 ^ j * at0 ys j)) = B16 ^ (i + j) * (at0 xs i * at0 ys j) := by rw [Nat.pow_add]; grind
      have e5 : B16 ^ (i + j) * z = B16 ^ (i + j) * c + B16 ^ (i + j) * (at0 xs i * at0 ys j) + B16 ^ (i + j) * at0 o (i + j) := by rw [← hz]; simp only [Nat.mul_add]; omega
      omega
    · intro p hp
      simp only at hp ⊢
      rw [at0_set (by omega), if_neg (by omega)]
      exact h6 p (by omega)
  · have he : j = ys.length := by omega
    subst he
    rw [List.take_length] at h5
    simp -dsimp only [i102b0]
    simp -dsimp (disch := first | omega | assumption | apply agg_two | apply agg_nInt | apply agg_rInt | (simp only [J1,J2,J3,J4,J5,J6,J7,J8]; omega)) only [i102, ↓i102d0t, i102d0, go_sem,↓reduceIte,reduceCtorEq,Nat.reduceEqDiff,Nat.reduceAdd,Nat.reduceSub,Nat.reduceMul,Nat.reduceLT,Nat.reduceLeDiff,Nat.reduceBEq,Nat.reduceBNe,Int.reduceLT,Int.reduceLE,Int.reduceEq,Int.reduceNeg,Int.reduceAdd,Int.reduceSub,Int.reduceMul,Int.reduceToNat,Int.reducePow,Nat.reducePow]
    exact hQ _ o c rfl rfl rfl rfl rfl rfl h2 h3 h4 h5 h6
theorem rmul_carry {Q : IExit → St → Prop} {t t' : Tag} {sx sy : Bool} {z : FV} {xs ys o0 : List Nat} {i k n c0 : Nat} (ho : Dg B16 o0) (hn : o0.length = n) (hi : k < n) (hs : n ≤ 1000000000000) (hc : c0 < 65536) (hz : at0 o0 k = 0) {st : St}
    (h0 : gc [2, 3, 4, 5, 6, 7, 9] st = ⟨[(2, .ptr (.l 0) 2 0 0), (3, .ptr (.l 1) 2 0 0), (4, .ptr (.l 2) 2 0 0), (5, .ref (.l 3) 1 0 n true), (6, .fv (.int .i64 (i : Int))), (7, .fv (.int .i64 (c0 : Int))), (9, .fv (.int .i64 (k : Int)))], [], [.own 2 [.agg [.bool sx, .sl t (i64s xs)]], .own 2 [.agg [.bool sy, .sl t' (i64s ys)]], .own 2 [z], .own 1 (i64s o0)]⟩)
    (hQ : ∀ e o, e.get 2 = .ptr (.l 0) 2 0 0 → e.get 3 = .ptr (.l 1) 2 0 0 → e.get 4 = .ptr (.l 2) 2 0 0 → e.get 5 = .ref (.l 3) 1 0 n true → e.get 6 = .fv (.int .i64 (i : Int)) →
      o.length = n → Dg B16 o → val B16 o = val B16 o0 + B16 ^ k * c0 → (∀ p, k < p → at0 o p = at0 o0 p) → Q (.exit 4) ⟨e, [], [.own 2 [.agg [.bool sx, .sl t (i64s xs)]], .own 2 [.agg [.bool sy, .sl t' (i64s ys)]], .own 2 [z], .own 1 (i64s o)]⟩) :
    pW Q tab.get an 102 (.loop [2, 3, 4, 5, 6, 7, 9] i102b1) st .mk := by
  refine pW_loop (fun a : Nat × List Nat × Nat => ⟨[(2, .ptr (.l 0) 2 0 0), (3, .ptr (.l 1) 2 0 0), (4, .ptr (.l 2) 2 0 0), (5, .ref (.l 3) 1 0 n true), (6, .fv (.int .i64 (i : Int))), (7, .fv (.int .i64 (a.2.2 : Int))), (9, .fv (.int .i64 (a.1 : Int)))], [], [.own 2 [.agg [.bool sx, .sl t (i64s xs)]], .own 2 [.agg [.bool sy, .sl t' (i64s ys)]], .own 2 [z], .own 1 (i64s a.2.1)]⟩)
    (fun a => a.2.1.length = n ∧ Dg B16 a.2.1 ∧ a.2.2 < 65536 ∧ (a.2.2 = 0 ∨ (a.1 = k ∧ at0 a.2.1 k = 0)) ∧ val B16 a.2.1 + B16 ^ a.1 * a.2.2 = val B16 o0 + B16 ^ k * c0 ∧ ∀ p, k < p → at0 a.2.1 p = at0 o0 p) (fun a => a.2.2) (k, o0, c0) (by rw [h0]) ⟨hn, ho, hc, .inr ⟨rfl, hz⟩, rfl, fun _ _ => rfl⟩ ?_
  rintro ⟨j, o, c⟩ ⟨h2, h3, h4, h7, h5, h6⟩
  simp only at h2 h3 h4 h5 h6 h7
  by_cases hc0 : c = 0
  · subst hc0
    simp -dsimp only [i102b1]
    simp -dsimp (disch := first | omega | assumption | apply agg_two | apply agg_nInt | apply agg_rInt | (simp only [J1,J2,J3,J4,J5,J6,J7,J8]; omega)) only [i102, ↓i102d0t, i102d0, go_sem,↓reduceIte,reduceCtorEq,Nat.reduceEqDiff,Nat.reduceAdd,Nat.reduceSub,Nat.reduceMul,Nat.reduceLT,Nat.reduceLeDiff,Nat.reduceBEq,Nat.reduceBNe,Int.reduceLT,Int.reduceLE,Int.reduceEq,Int.reduceNeg,Int.reduceAdd,Int.reduceSub,Int.reduceMul,Int.reduceToNat,Int.reducePow,Nat.reducePow]
    exact hQ _ o rfl rfl rfl rfl rfl h2 h3 (by simpa using h5) h6
  · obtain ⟨rfl, hz⟩ : j = k ∧ at0 o k = 0 := by rcases h7 with h | h; exact absurd h hc0; exact h
    have e6 : (c + at0 o j) % 65536 = c := by rw [hz]; exact Nat.mod_eq_of_lt (by omega)
    have e7 : (c + at0 o j) / 65536 = 0 := by rw [hz]; omega
    simp -dsimp only [i102b1]
    simp -dsimp (disch := first | omega | assumption | apply agg_two | apply agg_nInt | apply agg_rInt | (simp only [J1,J2,J3,J4,J5,J6,J7,J8]; omega)) only [i102, ↓i102d0t, i102d0, go_sem,↓reduceIte,reduceCtorEq,Nat.reduceEqDiff,Nat.reduceAdd,Nat.reduceSub,Nat.reduceMul,Nat.reduceLT,Nat.reduceLeDiff,Nat.reduceBEq,Nat.reduceBNe,Int.reduceLT,Int.reduceLE,Int.reduceEq,Int.reduceNeg,Int.reduceAdd,Int.reduceSub,Int.reduceMul,Int.reduceToNat,Int.reducePow,Nat.reducePow]
    refine next ⟨(j + 1, o.set j c, 0), ?_, ⟨by simp [h2], h3.set h4, by show 0 < 65536; omega, .inl rfl, ?_, ?_⟩, by simp only; omega⟩
    · simp [hz]; omega
    · have e2 := val_set (b := B16) (i := j) (v := c) (xs := o) (by omega)
      rw [hz] at e2
      simp only
      omega
    · intro p hp
      simp only
      rw [at0_set (by omega), if_neg (by omega)]
      exact h6 p hp
theorem RMul_ok {x y : FV} {a b : Int} {j k : Nat} (hx : IsR x a) (hy : IsR y b) (ha : Bd j a) (hb : Bd k b) (hk : j + k ≤ 100000000000) : ret tab.get an 102 [x, y] = some (rInt (a * b)) := by
  have la := ha.len16
  have lb := hb.len16
  have da := digs_Dg (b := B16) (by decide) a.natAbs
  have db := digs_Dg (b := B16) (by decide) b.natAbs
  have va := val_digs (b := B16) (by decide) a.natAbs
  have vb := val_digs (b := B16) (by decide) b.natAbs
  have ag := agg_rInt (a * b)
  have e := sg_mul a b
  obtain ⟨t, rfl⟩ := hx
  obtain ⟨t', rfl⟩ := hy
  refine ret_eq (fn := i102) rfl rfl ?_
  simp -dsimp only [i102]
  generalize decide (a < 0) = sx at *
  generalize decide (b < 0) = sy at *
  generalize digs B16 a.natAbs = xs at *
  generalize digs B16 b.natAbs = ys at *
  simp -dsimp (disch := first | omega | assumption | apply agg_two | apply agg_nInt | apply agg_rInt | (simp only [J1,J2,J3,J4,J5,J6,J7,J8]; omega)) only [i102, ↓i102d0t, i102d0, go_sem,↓reduceIte,reduceCtorEq,Nat.reduceEqDiff,Nat.reduceAdd,Nat.reduceSub,Nat.reduceMul,Nat.reduceLT,Nat.reduceLeDiff,Nat.reduceBEq,Nat.reduceBNe,Int.reduceLT,Int.reduceLE,Int.reduceEq,Int.reduceNeg,Int.reduceAdd,Int.reduceSub,Int.reduceMul,Int.reduceToNat,Int.reducePow,Nat.reducePow]
  refine pW_loop (fun c : Nat × List Nat => ⟨[(2, .ptr (.l 0) 2 0 0), (3, .ptr (.l 1) 2 0 0), (4, .ptr (.l 2) 2 0 0), (5, .ref (.l 3) 1 0 (xs.length + ys.length + 1) true), (6, .fv (.int .i64 (c.1 : Int)))], [], [.own 2 [.agg [.bool sx, .sl t (i64s xs)]], .own 2 [.agg [.bool sy, .sl t' (i64s ys)]], .own 2 [.agg [.bool false, .sl .nil []]], .own 1 (i64s c.2)]⟩)
    (fun c => c.1 ≤ xs.length ∧ c.2.length = xs.length + ys.length + 1 ∧ Dg B16 c.2 ∧ val B16 c.2 = val B16 (xs.take c.1) * val B16 ys ∧ ∀ p, c.1 + ys.length ≤ p → at0 c.2 p = 0) (fun c => xs.length - c.1) (0, List.replicate (xs.length + ys.length + 1) 0) (by simp -dsimp (disch := first | omega | assumption | apply agg_two | apply agg_nInt | apply agg_rInt | (simp only [J1,J2,J3,J4,J5,J6,J7,J8]; omega)) only [go_sem,↓reduceIte,reduceCtorEq,Nat.reduceEqDiff,Nat.reduceAdd,Nat.reduceSub,Nat.reduceMul,Nat.reduceLT,Nat.reduceLeDiff,Nat.reduceBEq,Nat.reduceBNe,Int.reduceLT,Int.reduceLE,Int.reduceEq,Int.reduceNeg,Int.reduceAdd,Int.reduceSub,Int.reduceMul,Int.reduceToNat,Int.reducePow,Nat.reducePow]) ⟨by omega, by simp, .zeros (by decide) _, by simp [val, val_zeros], fun _ _ => at0_zeros _ _⟩ ?_
  rintro ⟨i, o0⟩ ⟨h1, h2, h3, h4, h5⟩
  simp only at h1 h2 h3 h4 h5
  by_cases hi : i < xs.length
  · have v1 := val_take_le (b := B16) i xs
    simp -dsimp only [i102b2]
    simp -dsimp (disch := first | omega | assumption | apply agg_two | apply agg_nInt | apply agg_rInt | (simp only [J1,J2,J3,J4,J5,J6,J7,J8]; omega)) only [i102, ↓i102d0t, i102d0, go_sem,↓reduceIte,reduceCtorEq,Nat.reduceEqDiff,Nat.reduceAdd,Nat.reduceSub,Nat.reduceMul,Nat.reduceLT,Nat.reduceLeDiff,Nat.reduceBEq,Nat.reduceBNe,Int.reduceLT,Int.reduceLE,Int.reduceEq,Int.reduceNeg,Int.reduceAdd,Int.reduceSub,Int.reduceMul,Int.reduceToNat,Int.reducePow,Nat.reducePow]
    refine rmul_in (t := t) (t' := t') (sx := sx) (sy := sy) (z := .agg [.bool false, .sl .nil []]) (xs := xs) (ys := ys) (o0 := o0) (i := i) (n := xs.length + ys.length + 1) da db h3 h2 (by omega) hi (by omega) (by simp -dsimp (disch := first | omega | assumption | apply agg_two | apply agg_nInt | apply agg_rInt | (simp only [J1,J2,J3,J4,J5,J6,J7,J8]; omega)) only [go_sem,↓reduceIte,reduceCtorEq,Nat.reduceEqDiff,Nat.reduceAdd,Nat.reduceSub,Nat.reduceMul,Nat.reduceLT,Nat.reduceLeDiff,Nat.reduceBEq,Nat.reduceBNe,Int.reduceLT,Int.reduceLE,Int.reduceEq,Int.reduceNeg,Int.reduceAdd,Int.reduceSub,Int.reduceMul,Int.reduceToNat,Int.reducePow,Nat.reducePow]) ?_
    intro e o c g2 g3 g4 g5 g6 g7 k1 k2 k3 k4 k5
    simp -dsimp (disch := first | omega | assumption | apply agg_two | apply agg_nInt | apply agg_rInt | (simp only [J1,J2,J3,J4,J5,J6,J7,J8]; omega)) only [i102, ↓i102d0t, i102d0, go_sem,↓reduceIte,reduceCtorEq,Nat.reduceEqDiff,Nat.reduceAdd,Nat.reduceSub,Nat.reduceMul,Nat.reduceLT,Nat.reduceLeDiff,Nat.reduceBEq,Nat.reduceBNe,Int.reduceLT,Int.reduceLE,Int.reduceEq,Int.reduceNeg,Int.reduceAdd,Int.reduceSub,Int.reduceMul,Int.reduceToNat,Int.reducePow,Nat.reducePow, g2, g3, g4, g5, g6, g7]
    have e3 : at0 o (i + ys.length) = 0 := by rw [k5 _ (Nat.le_refl _)]; exact h5 _ (Nat.le_refl _)
    refine rmul_carry (t := t) (t' := t') (sx := sx) (sy := sy) (z := .agg [.bool false, .sl .nil []]) (xs := xs) (ys := ys) (o0 := o) (i := i) (k := i + ys.length) (n := xs.length + ys.length + 1) (c0 := c) k2 k1 (by omega) (by omega) k3 e3 (by simp -dsimp (disch := first | omega | assumption | apply agg_two | apply agg_nInt | apply agg_rInt | (simp only [J1,J2,J3,J4,J5,J6,J7,J8]; omega)) only [go_sem,↓reduceIte,reduceCtorEq,Nat.reduceEqDiff,Nat.reduceAdd,Nat.reduceSub,Nat.reduceMul,Nat.reduceLT,Nat.reduceLeDiff,Nat.reduceBEq,Nat.reduceBNe,Int.reduceLT,Int.reduceLE,Int.reduceEq,Int.reduceNeg,Int.reduceAdd,Int.reduceSub,Int.reduceMul,Int.reduceToNat,Int.reducePow,Nat.reducePow, g2, g3, g4, g5, g6, g7]) ?_
    intro e' o' m2 m3 m4 m5 m6 l1 l2 l3 l4
    simp -dsimp (disch := first | omega | assumption | apply agg_two | apply agg_nInt | apply agg_rInt | (simp only [J1,J2,J3,J4,J5,J6,J7,J8]; omega)) only [i102, ↓i102d0t, i102d0, go_sem,↓reduceIte,reduceCtorEq,Nat.reduceEqDiff,Nat.reduceAdd,Nat.reduceSub,Nat.reduceMul,Nat.reduceLT,Nat.reduceLeDiff,Nat.reduceBEq,Nat.reduceBNe,Int.reduceLT,Int.reduceLE,Int.reduceEq,Int.reduceNeg,Int.reduceAdd,Int.reduceSub,Int.reduceMul,Int.reduceToNat,Int.reducePow,Nat.reducePow, m2, m3, m4, m5, m6]
    refine next ⟨(i + 1, o'), rfl, ⟨by omega, l1, l2, ?_, ?_⟩, by simp only; omega⟩
    · simp only
      rw [l3, k4, h4, v1, Nat.add_mul, Nat.mul_assoc]
    · intro p hp
      simp only at hp ⊢
      rw [l4 p (by omega), k5 p (by omega)]
      exact h5 p (by omega)
  · have he : i = xs.length := by omega
    subst he
    rw [List.take_length] at h4
    have e3 := rtrim_ok (sx != sy) .any h3 (by omega)
    rw [h4, va, vb, e] at e3
    simp -dsimp only [i102b2]
    simp -dsimp (disch := first | omega | assumption | apply agg_two | apply agg_nInt | apply agg_rInt | (simp only [J1,J2,J3,J4,J5,J6,J7,J8]; omega)) only [i102, ↓i102d0t, i102d0, go_sem,↓reduceIte,reduceCtorEq,Nat.reduceEqDiff,Nat.reduceAdd,Nat.reduceSub,Nat.reduceMul,Nat.reduceLT,Nat.reduceLeDiff,Nat.reduceBEq,Nat.reduceBNe,Int.reduceLT,Int.reduceLE,Int.reduceEq,Int.reduceNeg,Int.reduceAdd,Int.reduceSub,Int.reduceMul,Int.reduceToNat,Int.reducePow,Nat.reducePow, e3]
end Go.Proofs.YtklelbidjcealaaGreat
namespace Go.Proofs.YtklelbidjcealaaGreat
open Go Go.Ab
theorem REq_ok (b b' : Bool) (t t' : Tag) {xs ys : List Nat} (hs : Small xs.length) (hs' : Small ys.length) : ret tab.get an 110 [.agg [.bool b, .sl t (u32s xs)], .agg [.bool b', .sl t' (u32s ys)]] = some (.bool (decide (b = b' ∧ xs = ys))) := by
  refine ret_eq (fn := i110) rfl rfl ?_
  simp -dsimp only [i110]
  by_cases hb : b = b'
  · subst hb
    by_cases hl : xs.length = ys.length
    · simp -dsimp (disch := first | omega | assumption | apply agg_two | apply agg_nInt | apply agg_rInt | (simp only [J1,J2,J3,J4,J5,J6,J7,J8]; omega)) only [i110, ↓i110d0t, i110d0, go_sem,↓reduceIte,reduceCtorEq,Nat.reduceEqDiff,Nat.reduceAdd,Nat.reduceSub,Nat.reduceMul,Nat.reduceLT,Nat.reduceLeDiff,Nat.reduceBEq,Nat.reduceBNe,Int.reduceLT,Int.reduceLE,Int.reduceEq,Int.reduceNeg,Int.reduceAdd,Int.reduceSub,Int.reduceMul,Int.reduceToNat,Int.reducePow,Nat.reducePow, bne_self_eq_false]
      refine pW_loop (fun i : Nat => ⟨[(2, .ptr (.l 0) 2 0 0), (3, .ptr (.l 1) 2 0 0), (5, .fv (.int .i64 (i : Int)))], [], [.own 2 [.agg [.bool b, .sl t (u32s xs)]], .own 2 [.agg [.bool b, .sl t' (u32s ys)]]]⟩) (fun i => i ≤ xs.length ∧ xs.take i = ys.take i) (fun i => xs.length - i) 0 (by simp -dsimp (disch := first | omega | assumption | apply agg_two | apply agg_nInt | apply agg_rInt | (simp only [J1,J2,J3,J4,J5,J6,J7,J8]; omega)) only [go_sem,↓reduceIte,reduceCtorEq,Nat.reduceEqDiff,Nat.reduceAdd,Nat.reduceSub,Nat.reduceMul,Nat.reduceLT,Nat.reduceLeDiff,Nat.reduceBEq,Nat.reduceBNe,Int.reduceLT,Int.reduceLE,Int.reduceEq,Int.reduceNeg,Int.reduceAdd,Int.reduceSub,Int.reduceMul,Int.reduceToNat,Int.reducePow,Nat.reducePow]) (by simp) ?_
      intro i ⟨h1, h2⟩
      by_cases hi : i < xs.length
      · by_cases he : at0 xs i = at0 ys i
        · simp -dsimp only [i110b0]
          simp -dsimp (disch := first | omega | assumption | apply agg_two | apply agg_nInt | apply agg_rInt | (simp only [J1,J2,J3,J4,J5,J6,J7,J8]; omega)) only [i110, ↓i110d0t, i110d0, go_sem,↓reduceIte,reduceCtorEq,Nat.reduceEqDiff,Nat.reduceAdd,Nat.reduceSub,Nat.reduceMul,Nat.reduceLT,Nat.reduceLeDiff,Nat.reduceBEq,Nat.reduceBNe,Int.reduceLT,Int.reduceLE,Int.reduceEq,Int.reduceNeg,Int.reduceAdd,Int.reduceSub,Int.reduceMul,Int.reduceToNat,Int.reducePow,Nat.reducePow]
          exact next ⟨i + 1, rfl, ⟨by omega, by rw [take_snoc hi, take_snoc (by omega), h2, he]⟩, by omega⟩
        · have hne : ¬ xs = ys := fun h => he (by rw [h])
          simp -dsimp only [i110b0]
          simp -dsimp (disch := first | omega | assumption | apply agg_two | apply agg_nInt | apply agg_rInt | (simp only [J1,J2,J3,J4,J5,J6,J7,J8]; omega)) only [i110, ↓i110d0t, i110d0, go_sem,↓reduceIte,reduceCtorEq,Nat.reduceEqDiff,Nat.reduceAdd,Nat.reduceSub,Nat.reduceMul,Nat.reduceLT,Nat.reduceLeDiff,Nat.reduceBEq,Nat.reduceBNe,Int.reduceLT,Int.reduceLE,Int.reduceEq,Int.reduceNeg,Int.reduceAdd,Int.reduceSub,Int.reduceMul,Int.reduceToNat,Int.reducePow,Nat.reducePow]
          rw [decide_eq_false hne]
      · have hxy : xs = ys := by rw [List.take_of_length_le (by omega), List.take_of_length_le (by omega)] at h2; exact h2
        simp -dsimp only [i110b0]
        simp -dsimp (disch := first | omega | assumption | apply agg_two | apply agg_nInt | apply agg_rInt | (simp only [J1,J2,J3,J4,J5,J6,J7,J8]; omega)) only [i110, ↓i110d0t, i110d0, go_sem,↓reduceIte,reduceCtorEq,Nat.reduceEqDiff,Nat.reduceAdd,Nat.reduceSub,Nat.reduceMul,Nat.reduceLT,Nat.reduceLeDiff,Nat.reduceBEq,Nat.reduceBNe,Int.reduceLT,Int.reduceLE,Int.reduceEq,Int.reduceNeg,Int.reduceAdd,Int.reduceSub,Int.reduceMul,Int.reduceToNat,Int.reducePow,Nat.reducePow]
        rw [decide_eq_true hxy]
    · have hne : ¬ xs = ys := fun h => hl (by rw [h])
      simp -dsimp (disch := first | omega | assumption | apply agg_two | apply agg_nInt | apply agg_rInt | (simp only [J1,J2,J3,J4,J5,J6,J7,J8]; omega)) only [i110, ↓i110d0t, i110d0, go_sem,↓reduceIte,reduceCtorEq,Nat.reduceEqDiff,Nat.reduceAdd,Nat.reduceSub,Nat.reduceMul,Nat.reduceLT,Nat.reduceLeDiff,Nat.reduceBEq,Nat.reduceBNe,Int.reduceLT,Int.reduceLE,Int.reduceEq,Int.reduceNeg,Int.reduceAdd,Int.reduceSub,Int.reduceMul,Int.reduceToNat,Int.reducePow,Nat.reducePow, bne_self_eq_false]
      rw [decide_eq_false hne]
  · have hne : ¬ (b = b' ∧ xs = ys) := fun h => hb h.1
    have h1 : (b != b') = true := by simpa using hb
    simp -dsimp (disch := first | omega | assumption | apply agg_two | apply agg_nInt | apply agg_rInt | (simp only [J1,J2,J3,J4,J5,J6,J7,J8]; omega)) only [i110, ↓i110d0t, i110d0, go_sem,↓reduceIte,reduceCtorEq,Nat.reduceEqDiff,Nat.reduceAdd,Nat.reduceSub,Nat.reduceMul,Nat.reduceLT,Nat.reduceLeDiff,Nat.reduceBEq,Nat.reduceBNe,Int.reduceLT,Int.reduceLE,Int.reduceEq,Int.reduceNeg,Int.reduceAdd,Int.reduceSub,Int.reduceMul,Int.reduceToNat,Int.reducePow,Nat.reducePow, h1]
    rw [decide_eq_false hne]
def NI (x : FV) (a : Int) : Prop := ∃ t, x = .agg [.bool (decide (a < 0)), .sl t (u32s (digs B32 a.natAbs))]
theorem nInt_NI (a : Int) : NI (nInt a) a := ⟨_, rfl⟩
theorem NI.agg {x : FV} {a : Int} (h : NI x a) : Agg 2 x := by obtain ⟨t, rfl⟩ := h; exact agg_two _ _
theorem NI.isI {x : FV} {a : Int} {k : Nat} (h : NI x a) (ha : Bd k a) (hk : k ≤ 1000000000000) : IsI x a := by
  obtain ⟨t, rfl⟩ := h
  refine ⟨_, t, _, rfl, digs_Dg (by decide) _, Nat.le_trans ha.len hk, ?_⟩
  rw [val_digs (by decide)]
  by_cases hz : a < 0 <;> simp [sg, hz] <;> omega
theorem sgn_digs {a n : Int} : (decide (a < 0) = decide (n < 0) ∧ digs B32 a.natAbs = digs B32 n.natAbs) ↔ a = n := by
  constructor
  · rintro ⟨h1, h2⟩
    have h2 := digs_inj (by decide) h2
    by_cases h3 : a < 0 <;> by_cases h4 : n < 0 <;> simp [h3, h4] at h1 <;> omega
  · rintro rfl; exact ⟨rfl, rfl⟩
theorem RIs_ok {x y : FV} {a n : Int} {k : Nat} (hx : NI x a) (hy : IsR y n) (ha : Bd k a) (hn : Bd k n) (hk : Fair k) : ret tab.get an 52 [x, y] = some (.bool (decide (a = n))) := by
  have h1 := To_ok hy hn hk
  have ax := hx.agg
  have ay := hy.agg
  have la := ha.len
  have ln := hn.len
  have h2 : ∀ t, ret tab.get an 110 [.agg [.bool (decide (a < 0)), .sl t (u32s (digs B32 a.natAbs))], nInt n] = some (.bool (decide (a = n))) := by
    intro t
    have := REq_ok (decide (a < 0)) (decide (n < 0)) t (nTag n) (xs := digs B32 a.natAbs) (ys := digs B32 n.natAbs) (by omega) (by omega)
    rw [show decide (decide (a < 0) = decide (n < 0) ∧ digs B32 a.natAbs = digs B32 n.natAbs) = decide (a = n) by simp only [sgn_digs]] at this
    exact this
  obtain ⟨t, rfl⟩ := hx
  have h2 := h2 t
  refine ret_eq (fn := i52) rfl rfl ?_
  simp -dsimp only [i52]
  simp -dsimp (disch := first | omega | assumption | apply agg_two | apply agg_nInt | apply agg_rInt | (simp only [J1,J2,J3,J4,J5,J6,J7,J8]; omega)) only [i52, ↓i52d0t, i52d0, go_sem,↓reduceIte,reduceCtorEq,Nat.reduceEqDiff,Nat.reduceAdd,Nat.reduceSub,Nat.reduceMul,Nat.reduceLT,Nat.reduceLeDiff,Nat.reduceBEq,Nat.reduceBNe,Int.reduceLT,Int.reduceLE,Int.reduceEq,Int.reduceNeg,Int.reduceAdd,Int.reduceSub,Int.reduceMul,Int.reduceToNat,Int.reducePow,Nat.reducePow, h1, h2]
end Go.Proofs.YtklelbidjcealaaGreat
namespace Go.Ab
def atZ (zs : List Int) (i : Nat) : Int := zs[i]?.getD 0
theorem getZ {zs : List Int} {i : Nat} (h : i < zs.length) : zs[i]? = some (atZ zs i) := by simp [atZ, h]
theorem atZ_out {zs : List Int} {i : Nat} (h : zs.length ≤ i) : atZ zs i = 0 := by simp [atZ, List.getElem?_eq_none h]
theorem atZ_ext {xs ys : List Int} (hl : xs.length = ys.length) (h : ∀ i, i < xs.length → atZ xs i = atZ ys i) : xs = ys := by
  apply List.ext_getElem?
  intro i
  by_cases hi : i < xs.length
  · rw [getZ hi, getZ (hl ▸ hi), h i hi]
  · rw [List.getElem?_eq_none (by omega), List.getElem?_eq_none (by omega)]
def ptrim : List Int → List Int
  | [] => []
  | x :: r => if x = 0 ∧ ptrim r = [] then [] else x :: ptrim r
theorem ptrim_nil : ptrim [] = [] := rfl
theorem ptrim_take : ∀ (zs : List Int), ptrim zs = zs.take (ptrim zs).length
  | [] => rfl
  | x :: r => by
    unfold ptrim
    split
    · simp
    · rw [List.length_cons, List.take_succ_cons, ← ptrim_take r]
theorem ptrim_len (zs : List Int) : (ptrim zs).length ≤ zs.length := by
  have := congrArg List.length (ptrim_take zs)
  rw [List.length_take] at this
  omega
theorem atZ_nil (i : Nat) : atZ [] i = 0 := by simp [atZ]
theorem atZ_cons_zero (x : Int) (r : List Int) : atZ (x :: r) 0 = x := by simp [atZ]
theorem atZ_cons_succ (x : Int) (r : List Int) (i : Nat) : atZ (x :: r) (i + 1) = atZ r i := by simp [atZ]
theorem ptrim_eq_nil : ∀ {zs : List Int}, ptrim zs = [] ↔ ∀ i, atZ zs i = 0
  | [] => by simp [ptrim, atZ_nil]
  | x :: r => by
    unfold ptrim
    constructor
    · intro h
      split at h
      · rename_i hc
        intro i
        cases i with
        | zero => rw [atZ_cons_zero]; exact hc.1
        | succ i => rw [atZ_cons_succ]; exact ptrim_eq_nil.1 hc.2 i
      · cases h
    · intro h
      rw [if_pos ⟨by have := h 0; rwa [atZ_cons_zero] at this, ptrim_eq_nil.2 fun i => by have := h (i + 1); rwa [atZ_cons_succ] at this⟩]
theorem atZ_ptrim : ∀ (zs : List Int) (i : Nat), atZ (ptrim zs) i = atZ zs i
  | [], i => rfl
  | x :: r, i => by
    unfold ptrim
    split
    · rename_i hc
      have h := (ptrim_eq_nil (zs := x :: r)).1 (by unfold ptrim; rw [if_pos hc])
      rw [h, atZ_nil]
    · cases i with
      | zero => rw [atZ_cons_zero, atZ_cons_zero]
      | succ i => rw [atZ_cons_succ, atZ_cons_succ, atZ_ptrim r i]
theorem ptrim_last : ∀ {zs : List Int}, ptrim zs ≠ [] → atZ zs ((ptrim zs).length - 1) ≠ 0
  | [], h => absurd rfl h
  | x :: r, h => by
    unfold ptrim at h ⊢
    split at h
    · exact absurd rfl h
    · rename_i hc
      rw [if_neg hc, List.length_cons, Nat.add_sub_cancel]
      by_cases hr : ptrim r = []
      · rw [hr, List.length_nil, atZ_cons_zero]
        intro hx; exact hc ⟨hx, hr⟩
      · have h1 := ptrim_last hr
        have h2 := List.length_pos_iff.2 hr
        have e : (ptrim r).length = (ptrim r).length - 1 + 1 := by omega
        rw [e, atZ_cons_succ]; exact h1
def Trimd (zs : List Int) : Prop := zs = [] ∨ atZ zs (zs.length - 1) ≠ 0
theorem Trimd.ptrim : ∀ {zs : List Int}, Trimd zs → ptrim zs = zs := by
  intro zs h
  rcases h with rfl | h
  · rfl
  · rw [ptrim_take]
    apply List.take_of_length_le
    rcases Nat.lt_or_ge (Go.Ab.ptrim zs).length zs.length with h1 | h1
    · exfalso
      apply h
      rw [← atZ_ptrim, atZ_out (by omega)]
    · exact h1
theorem ptrim_trimd (zs : List Int) : Trimd (ptrim zs) := by
  by_cases h : ptrim zs = []
  · exact .inl h
  · right
    rw [atZ_ptrim]
    exact ptrim_last h
theorem ptrim_idem (zs : List Int) : ptrim (ptrim zs) = ptrim zs := (ptrim_trimd zs).ptrim
theorem Trimd.ext {xs ys : List Int} (hx : Trimd xs) (hy : Trimd ys) (h : ∀ i, atZ xs i = atZ ys i) : xs = ys := by
  have hl : xs.length = ys.length := by
    rcases Nat.lt_trichotomy xs.length ys.length with h1 | h1 | h1
    · rcases hy with rfl | hy
      · simp at h1
      · exfalso; apply hy; rw [← h, atZ_out (by omega)]
    · exact h1
    · rcases hx with rfl | hx
      · simp at h1
      · exfalso; apply hx; rw [h, atZ_out (by omega)]
  exact atZ_ext hl fun i _ => h i
theorem ptrim_ext {xs ys : List Int} (h : ∀ i, atZ xs i = atZ ys i) : ptrim xs = ptrim ys :=
  (ptrim_trimd xs).ext (ptrim_trimd ys) fun i => by rw [atZ_ptrim, atZ_ptrim, h]
theorem ptrim_at {zs : List Int} {n : Nat} (hn : n ≤ zs.length) (h0 : ∀ i, n ≤ i → atZ zs i = 0) (h1 : n = 0 ∨ atZ zs (n - 1) ≠ 0) : ptrim zs = zs.take n ∧ (ptrim zs).length = n := by
  have e : ptrim zs = zs.take n := by
    refine (ptrim_trimd zs).ext ?_ ?_
    · rcases h1 with rfl | h1
      · left; simp
      · right
        rw [List.length_take, Nat.min_eq_left hn]
        have hz : n ≠ 0 := by
          rintro rfl
          apply h1
          exact h0 _ (by omega)
        unfold atZ at h1 ⊢
        rwa [List.getElem?_take, if_pos (by omega)]
    · intro i
      rw [atZ_ptrim]
      unfold atZ
      rw [List.getElem?_take]
      split
      · rfl
      · have := h0 i (by omega)
        unfold atZ at this
        simp [this]
  exact ⟨e, by rw [e, List.length_take, Nat.min_eq_left hn]⟩
theorem atZ_take {zs : List Int} {n i : Nat} (h : i < n) : atZ (zs.take n) i = atZ zs i := by
  unfold atZ; rw [List.getElem?_take, if_pos h]
theorem atZ_append_left {xs ys : List Int} {i : Nat} (h : i < xs.length) : atZ (xs ++ ys) i = atZ xs i := by
  unfold atZ; rw [List.getElem?_append_left h]
theorem atZ_append_right {xs ys : List Int} {i : Nat} (h : xs.length ≤ i) : atZ (xs ++ ys) i = atZ ys (i - xs.length) := by
  unfold atZ; rw [List.getElem?_append_right h]
theorem atZ_map_range {n : Nat} {f : Nat → Int} {i : Nat} : atZ ((List.range n).map f) i = if i < n then f i else 0 := by
  unfold atZ
  rw [List.getElem?_map]
  by_cases h : i < n
  · rw [List.getElem?_range h, if_pos h]; rfl
  · rw [List.getElem?_eq_none (by simpa using h), if_neg h]; rfl
theorem atZ_set {zs : List Int} {i : Nat} {v : Int} (h : i < zs.length) (j : Nat) : atZ (zs.set i v) j = if i = j then v else atZ zs j := by
  unfold atZ
  rw [List.getElem?_set]
  by_cases hj : i = j
  · subst hj; simp [h]
  · simp [hj]
theorem atZ_zeros (n i : Nat) : atZ (List.replicate n 0) i = 0 := by
  unfold atZ
  rw [List.getElem?_replicate]
  split <;> rfl
def atF (ps : List FV) (i : Nat) : FV := ps[i]?.getD .nilFn
theorem getF {ps : List FV} {i : Nat} (h : i < ps.length) : ps[i]? = some (atF ps i) := by simp [atF, h]
theorem atF_take {ps : List FV} {n i : Nat} (h : i < n) : atF (ps.take n) i = atF ps i := by
  unfold atF; rw [List.getElem?_take, if_pos h]
theorem atF_map {zs : List Int} {f : Int → FV} {i : Nat} (h : i < zs.length) : atF (zs.map f) i = f (atZ zs i) := by
  unfold atF; rw [List.getElem?_map, getZ h]; rfl
theorem wid_at {sz : Nat} {ps : List FV} (h : ∀ i, i < ps.length → (atF ps i).cells.length = sz) : wid sz ps = true := by
  simp only [wid, List.all_eq_true, beq_iff_eq]
  intro x hx
  obtain ⟨i, hi, rfl⟩ := List.mem_iff_getElem.1 hx
  have := h i hi
  simpa [atF, hi] using this
theorem mem_at {ps : List FV} {x : FV} (h : x ∈ ps) : ∃ i, i < ps.length ∧ atF ps i = x := by
  obtain ⟨i, hi, rfl⟩ := List.mem_iff_getElem.1 h
  exact ⟨i, hi, by simp [atF, hi]⟩
end Go.Ab
namespace Go.Ab
def rng (n : Nat) (f : Nat → Int) : List Int := (List.range n).map f
theorem rng_len (n : Nat) (f : Nat → Int) : (rng n f).length = n := by simp [rng]
theorem atZ_rng (n : Nat) (f : Nat → Int) (i : Nat) : atZ (rng n f) i = if i < n then f i else 0 := atZ_map_range
theorem rng_succ (n : Nat) (f : Nat → Int) : rng (n + 1) f = rng n f ++ [f n] := by simp [rng, List.range_succ]
theorem rng_zero (f : Nat → Int) : rng 0 f = [] := rfl
theorem rng_of_at {zs : List Int} : rng zs.length (atZ zs) = zs := atZ_ext (rng_len _ _) fun i hi => by
  rw [rng_len] at hi; rw [atZ_rng, if_pos hi]
def padd (p q : List Int) : List Int := ptrim (rng (max p.length q.length) fun i => atZ p i + atZ q i)
def psub (p q : List Int) : List Int := ptrim (rng (max p.length q.length) fun i => atZ p i - atZ q i)
def pscale (a : Int) (p : List Int) : List Int := ptrim (p.map fun x => a * x)
theorem at_padd (p q : List Int) (i : Nat) : atZ (padd p q) i = atZ p i + atZ q i := by
  rw [padd, atZ_ptrim, atZ_rng]
  split
  · rfl
  · rw [atZ_out (by omega : p.length ≤ i), atZ_out (by omega : q.length ≤ i)]; rfl
theorem at_psub (p q : List Int) (i : Nat) : atZ (psub p q) i = atZ p i - atZ q i := by
  rw [psub, atZ_ptrim, atZ_rng]
  split
  · rfl
  · rw [atZ_out (by omega : p.length ≤ i), atZ_out (by omega : q.length ≤ i)]; rfl
theorem atZ_map {f : Int → Int} (h0 : f 0 = 0) (p : List Int) (i : Nat) : atZ (p.map f) i = f (atZ p i) := by
  unfold atZ
  rw [List.getElem?_map]
  cases p[i]? with
  | none => exact h0.symm
  | some x => rfl
theorem at_pscale (a : Int) (p : List Int) (i : Nat) : atZ (pscale a p) i = a * atZ p i := by
  rw [pscale, atZ_ptrim, atZ_map (by simp)]
theorem padd_trimd (p q : List Int) : Trimd (padd p q) := ptrim_trimd _
theorem psub_trimd (p q : List Int) : Trimd (psub p q) := ptrim_trimd _
theorem pscale_trimd (a : Int) (p : List Int) : Trimd (pscale a p) := ptrim_trimd _
def psum (f : Nat → Int) : Nat → Int
  | 0 => 0
  | n + 1 => psum f n + f n
theorem psum_zero {f : Nat → Int} {n : Nat} (h : ∀ i, i < n → f i = 0) : psum f n = 0 := by
  induction n with
  | zero => rfl
  | succ n ih => rw [psum, ih fun i hi => h i (by omega), h n (by omega)]; rfl
theorem psum_congr {f g : Nat → Int} {n : Nat} (h : ∀ i, i < n → f i = g i) : psum f n = psum g n := by
  induction n with
  | zero => rfl
  | succ n ih => rw [psum, psum, ih fun i hi => h i (by omega), h n (by omega)]
def conv (p q : List Int) (n k : Nat) : Int := psum (fun i => if i ≤ k then atZ p i * atZ q (k - i) else 0) n
theorem conv_zero (p q : List Int) (k : Nat) : conv p q 0 k = 0 := rfl
theorem conv_succ (p q : List Int) (n k : Nat) : conv p q (n + 1) k = conv p q n k + if n ≤ k then atZ p n * atZ q (k - n) else 0 := rfl
theorem conv_far {p q : List Int} {n k : Nat} (hk : n + q.length ≤ k + 1) : conv p q n k = 0 := by
  apply psum_zero
  intro i hi
  split
  · rw [atZ_out (by omega : q.length ≤ k - i), Int.mul_zero]
  · rfl
theorem conv_more {p q : List Int} {n m k : Nat} (hn : p.length ≤ n) (hm : n ≤ m) : conv p q m k = conv p q n k := by
  induction m with
  | zero => have : n = 0 := by omega
            subst this; rfl
  | succ m ih =>
    rcases Nat.lt_or_ge m n with h | h
    · have : n = m + 1 := by omega
      subst this; rfl
    · rw [conv_succ, ih h, atZ_out (by omega : p.length ≤ m)]
      split <;> simp
def pmul (p q : List Int) : List Int := ptrim (rng (p.length + q.length - 1) fun k => conv p q p.length k)
theorem pmul_trimd (p q : List Int) : Trimd (pmul p q) := ptrim_trimd _
theorem conv_nil_left (q : List Int) (n k : Nat) : conv [] q n k = 0 := by
  apply psum_zero
  intro i hi
  split
  · rw [atZ_nil, Int.zero_mul]
  · rfl
theorem conv_nil_right (p : List Int) (n k : Nat) : conv p [] n k = 0 := by
  apply psum_zero
  intro i hi
  split
  · rw [atZ_nil, Int.mul_zero]
  · rfl
theorem at_pmul (p q : List Int) (k : Nat) : atZ (pmul p q) k = conv p q p.length k := by
  rw [pmul, atZ_ptrim, atZ_rng]
  split
  · rfl
  · by_cases hp : p.length = 0
    · rw [hp]; rfl
    · rw [conv_far (by omega)]
theorem conv_ext {p p' q q' : List Int} {n k : Nat} (hp : ∀ i, atZ p i = atZ p' i) (hq : ∀ i, atZ q i = atZ q' i) : conv p q n k = conv p' q' n k :=
  psum_congr fun i _ => by rw [hp, hq]
theorem pmul_ext {p p' q q' : List Int} (hp : ∀ i, atZ p i = atZ p' i) (hq : ∀ i, atZ q i = atZ q' i) : pmul p q = pmul p' q' := by
  refine (pmul_trimd p q).ext (pmul_trimd p' q') fun k => ?_
  rw [at_pmul, at_pmul, conv_ext hp hq]
  have h1 := conv_more (p := p') (q := q') (k := k) (Nat.le_refl p'.length) (Nat.le_max_left p'.length p.length)
  have h2 : conv p' q' (max p'.length p.length) k = conv p' q' p.length k := by
    have := conv_more (p := p) (q := q) (k := k) (Nat.le_refl p.length) (Nat.le_max_right p'.length p.length)
    rw [← conv_ext hp hq, ← conv_ext hp hq]; exact this
  rw [← h1, h2]
theorem pmul_trim (p q : List Int) : pmul (ptrim p) (ptrim q) = pmul p q := pmul_ext (atZ_ptrim p) (atZ_ptrim q)
theorem padd_ext {p p' q q' : List Int} (hp : ∀ i, atZ p i = atZ p' i) (hq : ∀ i, atZ q i = atZ q' i) : padd p q = padd p' q' :=
  (padd_trimd p q).ext (padd_trimd p' q') fun i => by rw [at_padd, at_padd, hp, hq]
theorem padd_trim (p q : List Int) : padd (ptrim p) (ptrim q) = padd p q := padd_ext (atZ_ptrim p) (atZ_ptrim q)
theorem psub_trim (p q : List Int) : psub (ptrim p) (ptrim q) = psub p q :=
  (psub_trimd _ _).ext (psub_trimd _ _) fun i => by rw [at_psub, at_psub, atZ_ptrim, atZ_ptrim]
theorem psub_scale (p q : List Int) : padd p (pscale (-1) q) = psub p q :=
  (padd_trimd _ _).ext (psub_trimd _ _) fun i => by rw [at_padd, at_psub, at_pscale]; omega
theorem pmul_nil_left (q : List Int) : pmul [] q = [] := by
  refine (pmul_trimd _ _).ext (.inl rfl) fun k => ?_
  rw [at_pmul, conv_nil_left, atZ_nil]
theorem pmul_nil_right (p : List Int) : pmul p [] = [] := by
  refine (pmul_trimd _ _).ext (.inl rfl) fun k => ?_
  rw [at_pmul, conv_nil_right, atZ_nil]
theorem padd_nil_left (q : List Int) : padd [] q = ptrim q := (padd_trimd _ _).ext (ptrim_trimd _) fun k => by rw [at_padd, atZ_nil, atZ_ptrim]; omega
theorem padd_nil_right (q : List Int) : padd q [] = ptrim q := (padd_trimd _ _).ext (ptrim_trimd _) fun k => by rw [at_padd, atZ_nil, atZ_ptrim]; omega
def phorn (l : List Int) : List Int → List Int
  | [] => []
  | c :: r => padd (pmul (phorn l r) l) [c]
theorem phorn_trimd (l : List Int) : ∀ (p : List Int), Trimd (phorn l p)
  | [] => .inl rfl
  | c :: r => padd_trimd _ _
def pderiv (p : List Int) : List Int := ptrim (rng (p.length - 1) fun i => ((i + 1 : Nat) : Int) * atZ p (i + 1))
theorem at_pderiv (p : List Int) (i : Nat) : atZ (pderiv p) i = ((i + 1 : Nat) : Int) * atZ p (i + 1) := by
  rw [pderiv, atZ_ptrim, atZ_rng]
  split
  · rfl
  · rw [atZ_out (by omega : p.length ≤ i + 1), Int.mul_zero]
theorem pderiv_trimd (p : List Int) : Trimd (pderiv p) := ptrim_trimd _
theorem drop_cons {zs : List Int} {i : Nat} (h : i < zs.length) : zs.drop i = atZ zs i :: zs.drop (i + 1) := by
  rw [List.drop_eq_getElem_cons h]; simp [atZ, h]
end Go.Ab
namespace Go.Proofs.YtklelbidjcealaaGreat
open Go Go.Ab
structure AllI (ps : List FV) (zs : List Int) : Prop where
  len : ps.length = zs.length
  at' : ∀ i, i < zs.length → IsI (atF ps i) (atZ zs i)
def IsP (x : FV) (zs : List Int) : Prop := ∃ t ps, x = .sl t ps ∧ AllI ps zs
theorem AllI.wid {ps : List FV} {zs : List Int} (h : AllI ps zs) : wid 2 ps = true := wid_at fun i hi => len_agg2 (h.at' i (by rw [← h.len]; exact hi)).agg
theorem AllI.agg {ps : List FV} {zs : List Int} (h : AllI ps zs) {i : Nat} (hi : i < zs.length) : Agg 2 (atF ps i) := (h.at' i hi).agg
theorem AllI.take {ps : List FV} {zs : List Int} (h : AllI ps zs) {n : Nat} (hn : n ≤ zs.length) : AllI (ps.take n) (zs.take n) := by
  refine ⟨by simp [h.len], fun i hi => ?_⟩
  rw [List.length_take] at hi
  rw [atF_take (by omega), atZ_take (by omega)]
  exact h.at' i (by omega)
abbrev nInts (zs : List Int) : List FV := zs.map nInt
theorem wid_nInts (zs : List Int) : wid 2 (nInts zs) = true := by
  apply wid_at
  intro i hi
  rw [atF_map (by simpa using hi)]
  exact len_agg2 (agg_nInt _)
def PBd (k : Nat) (zs : List Int) : Prop := ∀ i, Bd k (atZ zs i)
theorem PBd.mono {j k : Nat} {zs : List Int} (h : PBd j zs) (hk : j ≤ k) : PBd k zs := fun i => (h i).mono hk
theorem PBd.trim {k : Nat} {zs : List Int} (h : PBd k zs) : PBd k (ptrim zs) := fun i => by rw [atZ_ptrim]; exact h i
theorem PBd.nil (k : Nat) : PBd k [] := fun i => by rw [atZ_nil]; exact Bd.zero k
theorem nInts_All {k : Nat} {zs : List Int} (h : PBd k zs) (hk : Fair k) : AllI (nInts zs) zs := by
  refine ⟨by simp, fun i hi => ?_⟩
  rw [atF_map hi]
  exact nInt_I (h i) (by omega)
def nTagP (zs : List Int) : Tag := if zs = [] then .nil else .any
def nPoly (zs : List Int) : FV := .sl (nTagP zs) (nInts zs)
theorem nPoly_isP {k : Nat} {zs : List Int} (h : PBd k zs) (hk : Fair k) : IsP (nPoly zs) zs := ⟨_, _, rfl, nInts_All h hk⟩
theorem cut_ok (t : Tag) {ps : List FV} {zs : List Int} (h : AllI ps zs) (hs : Small zs.length) : lim tab.get an 130 [.fv (.sl t ps)] [] = some (.fv (.sl (nTagP (ptrim zs)) (ps.take (ptrim zs).length)), [], []) := by
  have : ∃ r B' L', lim tab.get an 130 [.fv (.sl t ps)] [] = some (r, B', L') ∧ (r = .fv (.sl (nTagP (ptrim zs)) (ps.take (ptrim zs).length)) ∧ B' = [] ∧ L' = []) := by
    have hw := h.wid
    have hlen := h.len
    refine lim_ofW (fn := i130) rfl rfl ?_
    simp -dsimp only [i130]
    simp -dsimp (disch := first | omega | assumption | apply agg_two | apply agg_nInt | apply agg_rInt | (simp only [J1,J2,J3,J4,J5,J6,J7,J8]; omega)) only [i130, go_sem,↓reduceIte,reduceCtorEq,Nat.reduceEqDiff,Nat.reduceAdd,Nat.reduceSub,Nat.reduceMul,Nat.reduceLT,Nat.reduceLeDiff,Nat.reduceBEq,Nat.reduceBNe,Int.reduceLT,Int.reduceLE,Int.reduceEq,Int.reduceNeg,Int.reduceAdd,Int.reduceSub,Int.reduceMul,Int.reduceToNat,Int.reducePow,Nat.reducePow]
    refine pW_loop (fun n : Nat => ⟨[(0, .fv (.sl t ps)), (3, .fv (.int .i64 (n : Int)))], [], []⟩) (fun n => n ≤ zs.length ∧ ∀ i, n ≤ i → atZ zs i = 0) id zs.length (by simp -dsimp (disch := first | omega | assumption | apply agg_two | apply agg_nInt | apply agg_rInt | (simp only [J1,J2,J3,J4,J5,J6,J7,J8]; omega)) only [go_sem,↓reduceIte,reduceCtorEq,Nat.reduceEqDiff,Nat.reduceAdd,Nat.reduceSub,Nat.reduceMul,Nat.reduceLT,Nat.reduceLeDiff,Nat.reduceBEq,Nat.reduceBNe,Int.reduceLT,Int.reduceLE,Int.reduceEq,Int.reduceNeg,Int.reduceAdd,Int.reduceSub,Int.reduceMul,Int.reduceToNat,Int.reducePow,Nat.reducePow, hlen]) ⟨Nat.le_refl _, fun i hi => atZ_out hi⟩ ?_
    intro n ⟨hn, h0⟩
    rcases Nat.eq_zero_or_pos n with rfl | hp
    · have h1 : ptrim zs = [] := ptrim_eq_nil.2 fun i => h0 i (by omega)
      simp -dsimp only [i130b0]
      simp -dsimp (disch := first | omega | assumption | apply agg_two | apply agg_nInt | apply agg_rInt | (simp only [J1,J2,J3,J4,J5,J6,J7,J8]; omega)) only [i130, go_sem,↓reduceIte,reduceCtorEq,Nat.reduceEqDiff,Nat.reduceAdd,Nat.reduceSub,Nat.reduceMul,Nat.reduceLT,Nat.reduceLeDiff,Nat.reduceBEq,Nat.reduceBNe,Int.reduceLT,Int.reduceLE,Int.reduceEq,Int.reduceNeg,Int.reduceAdd,Int.reduceSub,Int.reduceMul,Int.reduceToNat,Int.reducePow,Nat.reducePow]
      rw [h1]; simp [nTagP]
    · obtain ⟨m, rfl⟩ : ∃ m, n = m + 1 := ⟨n - 1, by omega⟩
      have hx := h.at' m (by omega)
      have hsg := Sign_ok hx
      have hg := getF (ps := ps) (i := m) (by omega)
      have ag := hx.agg
      by_cases hv0 : atZ zs m = 0
      · have hz : (atZ zs m).sign = 0 := by rw [hv0]; rfl
        rw [hz] at hsg
        simp -dsimp only [i130b0]
        simp -dsimp (disch := first | omega | assumption | apply agg_two | apply agg_nInt | apply agg_rInt | (simp only [J1,J2,J3,J4,J5,J6,J7,J8]; omega)) only [i130, go_sem,↓reduceIte,reduceCtorEq,Nat.reduceEqDiff,Nat.reduceAdd,Nat.reduceSub,Nat.reduceMul,Nat.reduceLT,Nat.reduceLeDiff,Nat.reduceBEq,Nat.reduceBNe,Int.reduceLT,Int.reduceLE,Int.reduceEq,Int.reduceNeg,Int.reduceAdd,Int.reduceSub,Int.reduceMul,Int.reduceToNat,Int.reducePow,Nat.reducePow, hg, hsg]
        refine next ⟨m, rfl, ⟨by omega, fun i hi => ?_⟩, by simp⟩
        rcases Nat.lt_or_ge m i with h2 | h2
        · exact h0 i h2
        · rw [show i = m by omega]; exact hv0
      · have hz : (atZ zs m).sign ≠ 0 := fun h => hv0 (Int.sign_eq_zero_iff_zero.1 h)
        obtain ⟨e1, e2⟩ := ptrim_at hn h0 (.inr hv0)
        have hne : ptrim zs ≠ [] := by intro h; rw [h] at e2; simp at e2
        simp -dsimp only [i130b0]
        simp -dsimp (disch := first | omega | assumption | apply agg_two | apply agg_nInt | apply agg_rInt | (simp only [J1,J2,J3,J4,J5,J6,J7,J8]; omega)) only [i130, go_sem,↓reduceIte,reduceCtorEq,Nat.reduceEqDiff,Nat.reduceAdd,Nat.reduceSub,Nat.reduceMul,Nat.reduceLT,Nat.reduceLeDiff,Nat.reduceBEq,Nat.reduceBNe,Int.reduceLT,Int.reduceLE,Int.reduceEq,Int.reduceNeg,Int.reduceAdd,Int.reduceSub,Int.reduceMul,Int.reduceToNat,Int.reducePow,Nat.reducePow, hg, hsg, hw]
        rw [e2, nTagP, if_neg hne, cutL, List.drop_zero]
  obtain ⟨r, B', L', h1, rfl, rfl, rfl⟩ := this
  exact h1
end Go.Proofs.YtklelbidjcealaaGreat
namespace Go.Proofs.YtklelbidjcealaaGreat
open Go Go.Ab
theorem nInt_zero : nInt 0 = .agg [.bool false, .sl .nil []] := by simp [nInt, nTag, digs_zero]
theorem nZeros (n : Nat) : List.replicate n (FV.agg [.bool false, .sl .nil []]) = nInts (List.replicate n 0) := by
  rw [← nInt_zero]; exact (List.map_replicate ..).symm
theorem nInts_set (o : List Int) (i : Nat) (v : Int) : (nInts o).set i (nInt v) = nInts (o.set i v) := (List.map_set ..).symm
theorem cut_own {zs : List Int} {k : Nat} (h : PBd k zs) (hk : Fair k) (hs : Small zs.length) : lim tab.get an 130 [.ref (.b 0) 2 0 zs.length true] [.own 2 (nInts zs)] =
    some (if ptrim zs = [] then .fv (.sl .nil []) else .ref (.b 0) 2 0 (ptrim zs).length true, [.own 2 (nInts zs)], []) := by
  have : ∃ r B' L', lim tab.get an 130 [.ref (.b 0) 2 0 zs.length true] [.own 2 (nInts zs)] = some (r, B', L') ∧ (r = (if ptrim zs = [] then .fv (.sl .nil []) else .ref (.b 0) 2 0 (ptrim zs).length true) ∧ B' = [.own 2 (nInts zs)] ∧ L' = []) := by
    refine lim_ofW (fn := i130) rfl rfl ?_
    simp -dsimp only [i130]
    simp -dsimp (disch := first | omega | assumption | apply agg_two | apply agg_nInt | apply agg_rInt | (simp only [J1,J2,J3,J4,J5,J6,J7,J8]; omega)) only [i130, go_sem,↓reduceIte,reduceCtorEq,Nat.reduceEqDiff,Nat.reduceAdd,Nat.reduceSub,Nat.reduceMul,Nat.reduceLT,Nat.reduceLeDiff,Nat.reduceBEq,Nat.reduceBNe,Int.reduceLT,Int.reduceLE,Int.reduceEq,Int.reduceNeg,Int.reduceAdd,Int.reduceSub,Int.reduceMul,Int.reduceToNat,Int.reducePow,Nat.reducePow]
    refine pW_loop (fun n : Nat => ⟨[(0, .ref (.b 0) 2 0 zs.length true), (3, .fv (.int .i64 (n : Int)))], [.own 2 (nInts zs)], []⟩) (fun n => n ≤ zs.length ∧ ∀ i, n ≤ i → atZ zs i = 0) id zs.length (by simp -dsimp (disch := first | omega | assumption | apply agg_two | apply agg_nInt | apply agg_rInt | (simp only [J1,J2,J3,J4,J5,J6,J7,J8]; omega)) only [go_sem,↓reduceIte,reduceCtorEq,Nat.reduceEqDiff,Nat.reduceAdd,Nat.reduceSub,Nat.reduceMul,Nat.reduceLT,Nat.reduceLeDiff,Nat.reduceBEq,Nat.reduceBNe,Int.reduceLT,Int.reduceLE,Int.reduceEq,Int.reduceNeg,Int.reduceAdd,Int.reduceSub,Int.reduceMul,Int.reduceToNat,Int.reducePow,Nat.reducePow]) ⟨Nat.le_refl _, fun i hi => atZ_out hi⟩ ?_
    intro n ⟨hn, h0⟩
    rcases Nat.eq_zero_or_pos n with rfl | hp
    · have h1 : ptrim zs = [] := ptrim_eq_nil.2 fun i => h0 i (by omega)
      simp -dsimp only [i130b0]
      simp -dsimp (disch := first | omega | assumption | apply agg_two | apply agg_nInt | apply agg_rInt | (simp only [J1,J2,J3,J4,J5,J6,J7,J8]; omega)) only [i130, go_sem,↓reduceIte,reduceCtorEq,Nat.reduceEqDiff,Nat.reduceAdd,Nat.reduceSub,Nat.reduceMul,Nat.reduceLT,Nat.reduceLeDiff,Nat.reduceBEq,Nat.reduceBNe,Int.reduceLT,Int.reduceLE,Int.reduceEq,Int.reduceNeg,Int.reduceAdd,Int.reduceSub,Int.reduceMul,Int.reduceToNat,Int.reducePow,Nat.reducePow]
      rw [if_pos h1]
    · obtain ⟨m, rfl⟩ : ∃ m, n = m + 1 := ⟨n - 1, by omega⟩
      have hx := nInt_I (h m) (show k ≤ 1000000000000 by omega)
      have hsg := Sign_ok hx
      have hg := getZ (zs := zs) (i := m) (by omega)
      by_cases hv0 : atZ zs m = 0
      · have hz : (atZ zs m).sign = 0 := by rw [hv0]; rfl
        rw [hz] at hsg
        simp -dsimp only [i130b0]
        simp -dsimp (disch := first | omega | assumption | apply agg_two | apply agg_nInt | apply agg_rInt | (simp only [J1,J2,J3,J4,J5,J6,J7,J8]; omega)) only [i130, go_sem,↓reduceIte,reduceCtorEq,Nat.reduceEqDiff,Nat.reduceAdd,Nat.reduceSub,Nat.reduceMul,Nat.reduceLT,Nat.reduceLeDiff,Nat.reduceBEq,Nat.reduceBNe,Int.reduceLT,Int.reduceLE,Int.reduceEq,Int.reduceNeg,Int.reduceAdd,Int.reduceSub,Int.reduceMul,Int.reduceToNat,Int.reducePow,Nat.reducePow, hg, hsg]
        refine next ⟨m, rfl, ⟨by omega, fun i hi => ?_⟩, by simp⟩
        rcases Nat.lt_or_ge m i with h2 | h2
        · exact h0 i h2
        · rw [show i = m by omega]; exact hv0
      · have hz : (atZ zs m).sign ≠ 0 := fun h => hv0 (Int.sign_eq_zero_iff_zero.1 h)
        obtain ⟨e1, e2⟩ := ptrim_at hn h0 (.inr hv0)
        have hne : ptrim zs ≠ [] := by intro h; rw [h] at e2; simp at e2
        simp -dsimp only [i130b0]
        simp -dsimp (disch := first | omega | assumption | apply agg_two | apply agg_nInt | apply agg_rInt | (simp only [J1,J2,J3,J4,J5,J6,J7,J8]; omega)) only [i130, go_sem,↓reduceIte,reduceCtorEq,Nat.reduceEqDiff,Nat.reduceAdd,Nat.reduceSub,Nat.reduceMul,Nat.reduceLT,Nat.reduceLeDiff,Nat.reduceBEq,Nat.reduceBNe,Int.reduceLT,Int.reduceLE,Int.reduceEq,Int.reduceNeg,Int.reduceAdd,Int.reduceSub,Int.reduceMul,Int.reduceToNat,Int.reducePow,Nat.reducePow, hg, hsg]
        rw [if_neg hne, e2]
  obtain ⟨r, B', L', h1, rfl, rfl, rfl⟩ := this
  exact h1
def rowS (zs : List Int) : SV := if ptrim zs = [] then .fv (.sl .nil []) else .ref (.l 0) 2 0 (ptrim zs).length true
theorem row_fz (zs : List Int) : toFV [] ([Ent.own 2 (nInts zs)].map Ent.fz) (rowS zs) = some (nPoly (ptrim zs)) := by
  unfold rowS
  split
  · rename_i h; rw [h]; rfl
  · rename_i h
    have h1 := ptrim_len zs
    have h2 := ptrim_take zs
    simp only [toFV, ent, List.map_cons, List.map_nil, Ent.fz, List.getD_cons_zero]
    rw [if_pos (by simpa using h1), cutL_map, List.drop_zero, ← h2, nPoly, nTagP, if_neg h]
theorem each_lim (t : Tag) {ps : List FV} {zs gs : List Int} {k n : Nat} {first caps : List FV} (h : AllI ps zs) (hs : Small zs.length) (hi : an.inh n = false) (hr : an.raw 132 n = false)
    (hg : gs.length = (ptrim zs).length) (hb : PBd k gs) (hk : Fair k) (hf : ∀ i, i < gs.length → ret tab.get an n (first ++ [atF ps i] ++ caps) = some (nInt (atZ gs i))) :
    lim tab.get an 132 [.fv (.sl t ps), .fv (.fn (.func n) first caps)] [] = some (rowS gs, [], [.own 2 (nInts gs)]) := by
  have : ∃ r B' L', lim tab.get an 132 [.fv (.sl t ps), .fv (.fn (.func n) first caps)] [] = some (r, B', L') ∧ (r = rowS gs ∧ B' = [] ∧ L' = [.own 2 (nInts gs)]) := by
    have hc := cut_ok t h hs
    have hl := ptrim_len zs
    have hlen := h.len
    have hml : (ps.take (ptrim zs).length).length = gs.length := by rw [List.length_take, hg]; omega
    refine lim_ofW (fn := i132) rfl rfl ?_
    simp -dsimp only [i132]
    simp -dsimp (disch := first | omega | assumption | apply agg_two | apply agg_nInt | apply agg_rInt | (simp only [J1,J2,J3,J4,J5,J6,J7,J8]; omega)) only [i132, go_sem,↓reduceIte,reduceCtorEq,Nat.reduceEqDiff,Nat.reduceAdd,Nat.reduceSub,Nat.reduceMul,Nat.reduceLT,Nat.reduceLeDiff,Nat.reduceBEq,Nat.reduceBNe,Int.reduceLT,Int.reduceLE,Int.reduceEq,Int.reduceNeg,Int.reduceAdd,Int.reduceSub,Int.reduceMul,Int.reduceToNat,Int.reducePow,Nat.reducePow, hc, hml, nZeros]
    refine pW_loop (fun i : Nat => ⟨[(1, .fv (.fn (.func n) first caps)), (5, .ref (.l 0) 2 0 gs.length true), (13, .fv (.sl (nTagP (ptrim zs)) (ps.take (ptrim zs).length))), (14, .fv (.int .i64 (gs.length : Int))), (15, .fv (.int .i64 (i : Int)))], [], [.own 2 (nInts (gs.take i ++ List.replicate (gs.length - i) 0))]⟩) (fun i => i ≤ gs.length) (fun i => gs.length - i) 0 (by simp -dsimp (disch := first | omega | assumption | apply agg_two | apply agg_nInt | apply agg_rInt | (simp only [J1,J2,J3,J4,J5,J6,J7,J8]; omega)) only [go_sem,↓reduceIte,reduceCtorEq,Nat.reduceEqDiff,Nat.reduceAdd,Nat.reduceSub,Nat.reduceMul,Nat.reduceLT,Nat.reduceLeDiff,Nat.reduceBEq,Nat.reduceBNe,Int.reduceLT,Int.reduceLE,Int.reduceEq,Int.reduceNeg,Int.reduceAdd,Int.reduceSub,Int.reduceMul,Int.reduceToNat,Int.reducePow,Nat.reducePow]) (by omega) ?_
    intro i hi'
    by_cases hlt : i < gs.length
    · have e1 : (ps.take (ptrim zs).length)[i]? = some (atF ps i) := by rw [List.getElem?_take, if_pos (by omega), getF (by omega)]
      have e2 : (gs.take i ++ List.replicate (gs.length - i) 0)[i]? = some 0 := by
        rw [List.getElem?_append_right (by simp; omega), List.getElem?_replicate, if_pos (by simp; omega)]
      have ag := h.agg (i := i) (by omega)
      have hfi := hf i hlt
      have e3 : (gs.take i ++ List.replicate (gs.length - i) 0).set i (atZ gs i) = gs.take (i + 1) ++ List.replicate (gs.length - (i + 1)) 0 := by
        rw [List.set_append_right _ _ (by simp; omega), List.length_take, Nat.min_eq_left (by omega), Nat.sub_self, show gs.length - i = (gs.length - (i + 1)) + 1 by omega, List.replicate_succ, List.set_cons_zero, List.take_add_one, getZ hlt]
        simp
      have a0 := agg_nInt 0
      simp -dsimp only [i132b0]
      simp -dsimp (disch := first | omega | assumption | apply agg_two | apply agg_nInt | apply agg_rInt | (simp only [J1,J2,J3,J4,J5,J6,J7,J8]; omega)) only [i132, go_sem,↓reduceIte,reduceCtorEq,Nat.reduceEqDiff,Nat.reduceAdd,Nat.reduceSub,Nat.reduceMul,Nat.reduceLT,Nat.reduceLeDiff,Nat.reduceBEq,Nat.reduceBNe,Int.reduceLT,Int.reduceLE,Int.reduceEq,Int.reduceNeg,Int.reduceAdd,Int.reduceSub,Int.reduceMul,Int.reduceToNat,Int.reducePow,Nat.reducePow, ↓hi, ↓hr, e1, e2, hfi, nInts_set]
      refine next ⟨i + 1, ?_, by omega, by omega⟩
      rw [e3]
    · have e : i = gs.length := by omega
      subst e
      have hco := cut_own hb hk (by omega)
      rw [List.take_length, Nat.sub_self, List.replicate_zero, List.append_nil]
      by_cases h0 : ptrim gs = []
      · rw [if_pos h0] at hco
        simp -dsimp only [i132b0]
        simp -dsimp (disch := first | omega | assumption | apply agg_two | apply agg_nInt | apply agg_rInt | (simp only [J1,J2,J3,J4,J5,J6,J7,J8]; omega)) only [i132, go_sem,↓reduceIte,reduceCtorEq,Nat.reduceEqDiff,Nat.reduceAdd,Nat.reduceSub,Nat.reduceMul,Nat.reduceLT,Nat.reduceLeDiff,Nat.reduceBEq,Nat.reduceBNe,Int.reduceLT,Int.reduceLE,Int.reduceEq,Int.reduceNeg,Int.reduceAdd,Int.reduceSub,Int.reduceMul,Int.reduceToNat,Int.reducePow,Nat.reducePow, hco]
        rw [rowS, if_pos h0]
      · rw [if_neg h0] at hco
        simp -dsimp only [i132b0]
        simp -dsimp (disch := first | omega | assumption | apply agg_two | apply agg_nInt | apply agg_rInt | (simp only [J1,J2,J3,J4,J5,J6,J7,J8]; omega)) only [i132, go_sem,↓reduceIte,reduceCtorEq,Nat.reduceEqDiff,Nat.reduceAdd,Nat.reduceSub,Nat.reduceMul,Nat.reduceLT,Nat.reduceLeDiff,Nat.reduceBEq,Nat.reduceBNe,Int.reduceLT,Int.reduceLE,Int.reduceEq,Int.reduceNeg,Int.reduceAdd,Int.reduceSub,Int.reduceMul,Int.reduceToNat,Int.reducePow,Nat.reducePow, hco]
        rw [rowS, if_neg h0]
  obtain ⟨r, B', L', h1, rfl, rfl, rfl⟩ := this
  exact h1
end Go.Proofs.YtklelbidjcealaaGreat
namespace Go.Proofs.YtklelbidjcealaaGreat
open Go Go.Ab
theorem IsI_zero : IsI (.agg [.bool false, .sl .nil []]) 0 := ⟨false, .nil, [], rfl, .nil, by simp, rfl⟩
theorem same_ok {x : FV} {a : Int} {k : Nat} (hx : IsI x a) (ha : Bd k a) (hk : Fair k) : ret tab.get an 131 [x] = some (nInt a) := by
  have h := Add_ok hx IsI_zero ha (Bd.zero k) hk
  rw [Int.add_zero] at h
  have ax := hx.agg
  refine ret_eq (fn := i131) rfl rfl ?_
  simp -dsimp only [i131]
  simp -dsimp (disch := first | omega | assumption | apply agg_two | apply agg_nInt | apply agg_rInt | (simp only [J1,J2,J3,J4,J5,J6,J7,J8]; omega)) only [i131, go_sem,↓reduceIte,reduceCtorEq,Nat.reduceEqDiff,Nat.reduceAdd,Nat.reduceSub,Nat.reduceMul,Nat.reduceLT,Nat.reduceLeDiff,Nat.reduceBEq,Nat.reduceBNe,Int.reduceLT,Int.reduceLE,Int.reduceEq,Int.reduceNeg,Int.reduceAdd,Int.reduceSub,Int.reduceMul,Int.reduceToNat,Int.reducePow,Nat.reducePow, h]
theorem inh_no {n : Nat} (h : memN n [130] = false) : True := trivial
theorem Norm_lim (t : Tag) {ps : List FV} {zs : List Int} {k : Nat} (h : AllI ps zs) (hb : PBd k zs) (hk : Fair k) (hs : Small zs.length) :
    lim tab.get an 132 [.fv (.sl t ps), .fv (.fn (.func 131) [] [])] [] = some (rowS (ptrim zs), [], [.own 2 (nInts (ptrim zs))]) := by
  refine each_lim t h hs (by rfl) (by rfl) rfl hb.trim hk ?_
  intro i hi
  have := ptrim_len zs
  rw [atZ_ptrim]
  exact same_ok (h.at' i (by omega)) (hb i) hk
theorem each_ret (t : Tag) {ps : List FV} {zs gs : List Int} {k n : Nat} {first caps : List FV} (h : AllI ps zs) (hs : Small zs.length) (hi : an.inh n = false) (hr : an.raw 132 n = false)
    (hg : gs.length = (ptrim zs).length) (hb : PBd k gs) (hk : Fair k) (hf : ∀ i, i < gs.length → ret tab.get an n (first ++ [atF ps i] ++ caps) = some (nInt (atZ gs i))) :
    ret tab.get an 132 [.sl t ps, .fn (.func n) first caps] = some (nPoly (ptrim gs)) := by
  have := each_lim t h hs hi hr hg hb hk hf
  rw [ret_lim (xs := [.sl t ps, .fn (.func n) first caps]) this]
  exact row_fz gs
theorem NormL_ok (t : Tag) {ps : List FV} {zs : List Int} {k : Nat} (h : AllI ps zs) (hb : PBd k zs) (hk : Fair k) (hs : Small zs.length) :
    lim tab.get an 93 [.fv (.sl t ps)] [] = some (rowS (ptrim zs), [], [.own 2 (nInts (ptrim zs))]) := by
  have hn := Norm_lim t h hb hk hs
  have : ∃ r B' L', lim tab.get an 93 [.fv (.sl t ps)] [] = some (r, B', L') ∧ (r = rowS (ptrim zs) ∧ B' = [] ∧ L' = [.own 2 (nInts (ptrim zs))]) := by
    refine lim_ofW (fn := i93) rfl rfl ?_
    simp -dsimp only [i93]
    unfold rowS at hn ⊢
    rw [ptrim_idem] at hn ⊢
    by_cases h0 : ptrim zs = []
    · rw [if_pos h0] at hn ⊢
      simp -dsimp (disch := first | omega | assumption | apply agg_two | apply agg_nInt | apply agg_rInt | (simp only [J1,J2,J3,J4,J5,J6,J7,J8]; omega)) only [i93, go_sem,↓reduceIte,reduceCtorEq,Nat.reduceEqDiff,Nat.reduceAdd,Nat.reduceSub,Nat.reduceMul,Nat.reduceLT,Nat.reduceLeDiff,Nat.reduceBEq,Nat.reduceBNe,Int.reduceLT,Int.reduceLE,Int.reduceEq,Int.reduceNeg,Int.reduceAdd,Int.reduceSub,Int.reduceMul,Int.reduceToNat,Int.reducePow,Nat.reducePow, hn]
    · rw [if_neg h0] at hn ⊢
      simp -dsimp (disch := first | omega | assumption | apply agg_two | apply agg_nInt | apply agg_rInt | (simp only [J1,J2,J3,J4,J5,J6,J7,J8]; omega)) only [i93, go_sem,↓reduceIte,reduceCtorEq,Nat.reduceEqDiff,Nat.reduceAdd,Nat.reduceSub,Nat.reduceMul,Nat.reduceLT,Nat.reduceLeDiff,Nat.reduceBEq,Nat.reduceBNe,Int.reduceLT,Int.reduceLE,Int.reduceEq,Int.reduceNeg,Int.reduceAdd,Int.reduceSub,Int.reduceMul,Int.reduceToNat,Int.reducePow,Nat.reducePow, hn]
  obtain ⟨r, B', L', h1, rfl, rfl, rfl⟩ := this
  exact h1
theorem Norm_ok {x : FV} {zs : List Int} {k : Nat} (h : IsP x zs) (hb : PBd k zs) (hk : Fair k) (hs : Small zs.length) : ret tab.get an 93 [x] = some (nPoly (ptrim zs)) := by
  obtain ⟨t, ps, rfl, h⟩ := h
  rw [ret_lim (xs := [.sl t ps]) (NormL_ok t h hb hk hs), row_fz, ptrim_idem]
theorem Deg_ok {x : FV} {zs : List Int} (h : IsP x zs) (hs : Small zs.length) : ret tab.get an 115 [x] = some (.int .i64 (((ptrim zs).length : Int) - 1)) := by
  obtain ⟨t, ps, rfl, h⟩ := h
  have hc := cut_ok t h hs
  have hl := ptrim_len zs
  have hlen := h.len
  have e : (ps.take (ptrim zs).length).length = (ptrim zs).length := by rw [List.length_take]; omega
  have hw : IntKind.i64.wrap (((ptrim zs).length : Int) - 1) = ((ptrim zs).length : Int) - 1 := IntWalk.i64_in _ (by omega)
  refine ret_eq (fn := i115) rfl rfl ?_
  simp -dsimp only [i115]
  simp -dsimp (disch := first | omega | assumption | apply agg_two | apply agg_nInt | apply agg_rInt | (simp only [J1,J2,J3,J4,J5,J6,J7,J8]; omega)) only [i115, go_sem,↓reduceIte,reduceCtorEq,Nat.reduceEqDiff,Nat.reduceAdd,Nat.reduceSub,Nat.reduceMul,Nat.reduceLT,Nat.reduceLeDiff,Nat.reduceBEq,Nat.reduceBNe,Int.reduceLT,Int.reduceLE,Int.reduceEq,Int.reduceNeg,Int.reduceAdd,Int.reduceSub,Int.reduceMul,Int.reduceToNat,Int.reducePow,Nat.reducePow, hc, e, hw]
theorem at_ok {x : FV} {zs : List Int} {i : Nat} (h : IsP x zs) : ∃ y, ret tab.get an 173 [x, .int .i64 (i : Int)] = some y ∧ IsI y (atZ zs i) := by
  obtain ⟨t, ps, rfl, h⟩ := h
  have hlen := h.len
  by_cases hi : i < zs.length
  · have hg := getF (ps := ps) (i := i) (by omega)
    have ag := h.agg hi
    refine ⟨atF ps i, ?_, h.at' i hi⟩
    refine ret_eq (fn := i173) rfl rfl ?_
    simp -dsimp only [i173]
    simp -dsimp (disch := first | omega | assumption | apply agg_two | apply agg_nInt | apply agg_rInt | (simp only [J1,J2,J3,J4,J5,J6,J7,J8]; omega)) only [i173, go_sem,↓reduceIte,reduceCtorEq,Nat.reduceEqDiff,Nat.reduceAdd,Nat.reduceSub,Nat.reduceMul,Nat.reduceLT,Nat.reduceLeDiff,Nat.reduceBEq,Nat.reduceBNe,Int.reduceLT,Int.reduceLE,Int.reduceEq,Int.reduceNeg,Int.reduceAdd,Int.reduceSub,Int.reduceMul,Int.reduceToNat,Int.reducePow,Nat.reducePow, hg]
  · refine ⟨.agg [.bool false, .sl .nil []], ?_, by rw [atZ_out (by omega)]; exact IsI_zero⟩
    refine ret_eq (fn := i173) rfl rfl ?_
    simp -dsimp only [i173]
    simp -dsimp (disch := first | omega | assumption | apply agg_two | apply agg_nInt | apply agg_rInt | (simp only [J1,J2,J3,J4,J5,J6,J7,J8]; omega)) only [i173, go_sem,↓reduceIte,reduceCtorEq,Nat.reduceEqDiff,Nat.reduceAdd,Nat.reduceSub,Nat.reduceMul,Nat.reduceLT,Nat.reduceLeDiff,Nat.reduceBEq,Nat.reduceBNe,Int.reduceLT,Int.reduceLE,Int.reduceEq,Int.reduceNeg,Int.reduceAdd,Int.reduceSub,Int.reduceMul,Int.reduceToNat,Int.reducePow,Nat.reducePow]
def pbits (zs : List Int) (n : Nat) : Nat := (List.range n).foldl (fun m i => max m (blen (atZ zs i).natAbs)) 0
theorem pbits_succ (zs : List Int) (n : Nat) : pbits zs (n + 1) = max (pbits zs n) (blen (atZ zs n).natAbs) := by simp [pbits, List.range_succ]
theorem pbits_le {zs : List Int} {k : Nat} (hb : PBd k zs) (n : Nat) : pbits zs n ≤ k := by
  induction n with
  | zero => simp [pbits]
  | succ n ih =>
    rw [pbits_succ]
    have := blen_le (hb n)
    omega
theorem PBits_ok {x : FV} {zs : List Int} {k : Nat} (h : IsP x zs) (hb : PBd k zs) (hk : Fair k) (hs : Small zs.length) : ret tab.get an 116 [x] = some (.int .i64 (pbits zs zs.length : Nat)) := by
  obtain ⟨t, ps, rfl, h⟩ := h
  have hlen := h.len
  refine ret_eq (fn := i116) rfl rfl ?_
  simp -dsimp only [i116]
  simp -dsimp (disch := first | omega | assumption | apply agg_two | apply agg_nInt | apply agg_rInt | (simp only [J1,J2,J3,J4,J5,J6,J7,J8]; omega)) only [i116, go_sem,↓reduceIte,reduceCtorEq,Nat.reduceEqDiff,Nat.reduceAdd,Nat.reduceSub,Nat.reduceMul,Nat.reduceLT,Nat.reduceLeDiff,Nat.reduceBEq,Nat.reduceBNe,Int.reduceLT,Int.reduceLE,Int.reduceEq,Int.reduceNeg,Int.reduceAdd,Int.reduceSub,Int.reduceMul,Int.reduceToNat,Int.reducePow,Nat.reducePow, hlen]
  refine pW_loop (fun i : Nat => ⟨[(3, .fv (.int .i64 (pbits zs i : Nat))), (6, .fv (.sl t ps)), (7, .fv (.int .i64 (zs.length : Int))), (8, .fv (.int .i64 (i : Int)))], [], []⟩) (fun i => i ≤ zs.length) (fun i => zs.length - i) 0 (by simp -dsimp (disch := first | omega | assumption | apply agg_two | apply agg_nInt | apply agg_rInt | (simp only [J1,J2,J3,J4,J5,J6,J7,J8]; omega)) only [go_sem,↓reduceIte,reduceCtorEq,Nat.reduceEqDiff,Nat.reduceAdd,Nat.reduceSub,Nat.reduceMul,Nat.reduceLT,Nat.reduceLeDiff,Nat.reduceBEq,Nat.reduceBNe,Int.reduceLT,Int.reduceLE,Int.reduceEq,Int.reduceNeg,Int.reduceAdd,Int.reduceSub,Int.reduceMul,Int.reduceToNat,Int.reducePow,Nat.reducePow]; rfl) (by omega) ?_
  intro i hi
  by_cases hlt : i < zs.length
  · have hg := getF (ps := ps) (i := i) (by omega)
    have ag := h.agg hlt
    have h1 := Bits_ok (h.at' i hlt) (hb i) hk
    have h2 := pbits_le hb i
    have h3 := blen_le (hb i)
    by_cases hm : blen (atZ zs i).natAbs > pbits zs i
    · simp -dsimp only [i116b0]
      simp -dsimp (disch := first | omega | assumption | apply agg_two | apply agg_nInt | apply agg_rInt | (simp only [J1,J2,J3,J4,J5,J6,J7,J8]; omega)) only [i116, go_sem,↓reduceIte,reduceCtorEq,Nat.reduceEqDiff,Nat.reduceAdd,Nat.reduceSub,Nat.reduceMul,Nat.reduceLT,Nat.reduceLeDiff,Nat.reduceBEq,Nat.reduceBNe,Int.reduceLT,Int.reduceLE,Int.reduceEq,Int.reduceNeg,Int.reduceAdd,Int.reduceSub,Int.reduceMul,Int.reduceToNat,Int.reducePow,Nat.reducePow, hg, h1]
      refine next ⟨i + 1, ?_, by omega, by omega⟩
      rw [pbits_succ, Nat.max_eq_right (by omega)]
    · simp -dsimp only [i116b0]
      simp -dsimp (disch := first | omega | assumption | apply agg_two | apply agg_nInt | apply agg_rInt | (simp only [J1,J2,J3,J4,J5,J6,J7,J8]; omega)) only [i116, go_sem,↓reduceIte,reduceCtorEq,Nat.reduceEqDiff,Nat.reduceAdd,Nat.reduceSub,Nat.reduceMul,Nat.reduceLT,Nat.reduceLeDiff,Nat.reduceBEq,Nat.reduceBNe,Int.reduceLT,Int.reduceLE,Int.reduceEq,Int.reduceNeg,Int.reduceAdd,Int.reduceSub,Int.reduceMul,Int.reduceToNat,Int.reducePow,Nat.reducePow, hg, h1]
      refine next ⟨i + 1, ?_, by omega, by omega⟩
      rw [pbits_succ, Nat.max_eq_left (by omega)]
  · have : i = zs.length := by omega
    subst this
    simp -dsimp only [i116b0]
    simp -dsimp (disch := first | omega | assumption | apply agg_two | apply agg_nInt | apply agg_rInt | (simp only [J1,J2,J3,J4,J5,J6,J7,J8]; omega)) only [i116, go_sem,↓reduceIte,reduceCtorEq,Nat.reduceEqDiff,Nat.reduceAdd,Nat.reduceSub,Nat.reduceMul,Nat.reduceLT,Nat.reduceLeDiff,Nat.reduceBEq,Nat.reduceBNe,Int.reduceLT,Int.reduceLE,Int.reduceEq,Int.reduceNeg,Int.reduceAdd,Int.reduceSub,Int.reduceMul,Int.reduceToNat,Int.reducePow,Nat.reducePow]
theorem Lead_ok {x : FV} {zs : List Int} {k : Nat} (h : IsP x zs) (hb : PBd k zs) (hk : Fair k) (hs : Small zs.length) : ret tab.get an 85 [x] = some (nInt (atZ zs ((ptrim zs).length - 1))) := by
  obtain ⟨t, ps, rfl, h⟩ := h
  have hc := cut_ok t h hs
  have hl := ptrim_len zs
  have hlen := h.len
  have e : (ps.take (ptrim zs).length).length = (ptrim zs).length := by rw [List.length_take]; omega
  refine ret_eq (fn := i85) rfl rfl ?_
  simp -dsimp only [i85]
  by_cases h0 : (ptrim zs).length = 0
  · have h1 : atZ zs ((ptrim zs).length - 1) = 0 := by
      have := (ptrim_eq_nil (zs := zs)).1 (List.eq_nil_of_length_eq_zero h0)
      exact this _
    rw [h1, nInt_zero]
    simp -dsimp (disch := first | omega | assumption | apply agg_two | apply agg_nInt | apply agg_rInt | (simp only [J1,J2,J3,J4,J5,J6,J7,J8]; omega)) only [i85, go_sem,↓reduceIte,reduceCtorEq,Nat.reduceEqDiff,Nat.reduceAdd,Nat.reduceSub,Nat.reduceMul,Nat.reduceLT,Nat.reduceLeDiff,Nat.reduceBEq,Nat.reduceBNe,Int.reduceLT,Int.reduceLE,Int.reduceEq,Int.reduceNeg,Int.reduceAdd,Int.reduceSub,Int.reduceMul,Int.reduceToNat,Int.reducePow,Nat.reducePow, hc, e]
  · have hg : (ps.take (ptrim zs).length)[(ptrim zs).length - 1]? = some (atF ps ((ptrim zs).length - 1)) := by rw [List.getElem?_take, if_pos (by omega), getF (by omega)]
    have hx := h.at' ((ptrim zs).length - 1) (by omega)
    have ag := hx.agg
    have h1 := same_ok hx (hb _) hk
    simp -dsimp (disch := first | omega | assumption | apply agg_two | apply agg_nInt | apply agg_rInt | (simp only [J1,J2,J3,J4,J5,J6,J7,J8]; omega)) only [i85, go_sem,↓reduceIte,reduceCtorEq,Nat.reduceEqDiff,Nat.reduceAdd,Nat.reduceSub,Nat.reduceMul,Nat.reduceLT,Nat.reduceLeDiff,Nat.reduceBEq,Nat.reduceBNe,Int.reduceLT,Int.reduceLE,Int.reduceEq,Int.reduceNeg,Int.reduceAdd,Int.reduceSub,Int.reduceMul,Int.reduceToNat,Int.reducePow,Nat.reducePow, hc, e, hg, h1]
theorem PEq_ok {x y : FV} {p q : List Int} (hx : IsP x p) (hy : IsP y q) (hs : Small p.length) (hs' : Small q.length) : ret tab.get an 100 [x, y] = some (.bool (decide (ptrim p = ptrim q))) := by
  obtain ⟨t, ps, rfl, hp⟩ := hx
  obtain ⟨t', qs, rfl, hq⟩ := hy
  have c1 := cut_ok t hp hs
  have c2 := cut_ok t' hq hs'
  have l1 := ptrim_len p
  have l2 := ptrim_len q
  have n1 := hp.len
  have n2 := hq.len
  have e1 : (ps.take (ptrim p).length).length = (ptrim p).length := by rw [List.length_take]; omega
  have e2 : (qs.take (ptrim q).length).length = (ptrim q).length := by rw [List.length_take]; omega
  refine ret_eq (fn := i100) rfl rfl ?_
  simp -dsimp only [i100]
  by_cases hl : (ptrim p).length = (ptrim q).length
  · simp -dsimp (disch := first | omega | assumption | apply agg_two | apply agg_nInt | apply agg_rInt | (simp only [J1,J2,J3,J4,J5,J6,J7,J8]; omega)) only [i100, ↓i100d0t, i100d0, go_sem,↓reduceIte,reduceCtorEq,Nat.reduceEqDiff,Nat.reduceAdd,Nat.reduceSub,Nat.reduceMul,Nat.reduceLT,Nat.reduceLeDiff,Nat.reduceBEq,Nat.reduceBNe,Int.reduceLT,Int.reduceLE,Int.reduceEq,Int.reduceNeg,Int.reduceAdd,Int.reduceSub,Int.reduceMul,Int.reduceToNat,Int.reducePow,Nat.reducePow, c1, c2, e1, e2]
    refine pW_loop (fun i : Nat => ⟨[(0, .fv (.sl (nTagP (ptrim p)) (ps.take (ptrim p).length))), (1, .fv (.sl (nTagP (ptrim q)) (qs.take (ptrim q).length))), (16, .fv (.int .i64 ((ptrim p).length : Int))), (17, .fv (.int .i64 (i : Int)))], [], []⟩) (fun i => i ≤ (ptrim p).length ∧ ∀ j, j < i → atZ p j = atZ q j) (fun i => (ptrim p).length - i) 0 (by simp -dsimp (disch := first | omega | assumption | apply agg_two | apply agg_nInt | apply agg_rInt | (simp only [J1,J2,J3,J4,J5,J6,J7,J8]; omega)) only [go_sem,↓reduceIte,reduceCtorEq,Nat.reduceEqDiff,Nat.reduceAdd,Nat.reduceSub,Nat.reduceMul,Nat.reduceLT,Nat.reduceLeDiff,Nat.reduceBEq,Nat.reduceBNe,Int.reduceLT,Int.reduceLE,Int.reduceEq,Int.reduceNeg,Int.reduceAdd,Int.reduceSub,Int.reduceMul,Int.reduceToNat,Int.reducePow,Nat.reducePow]) ⟨by omega, fun j hj => by omega⟩ ?_
    intro i ⟨hi, hall⟩
    by_cases hlt : i < (ptrim p).length
    · have g1 : (ps.take (ptrim p).length)[i]? = some (atF ps i) := by rw [List.getElem?_take, if_pos (by omega), getF (by omega)]
      have g2 : (qs.take (ptrim q).length)[i]? = some (atF qs i) := by rw [List.getElem?_take, if_pos (by omega), getF (by omega)]
      have x1 := hp.at' i (by omega)
      have x2 := hq.at' i (by omega)
      have a1 := x1.agg
      have a2 := x2.agg
      have hc := Cmp_ok x1 x2
      by_cases he : atZ p i = atZ q i
      · have hz : c3 (atZ p i) (atZ q i) = 0 := by rw [he]; simp [c3]
        rw [hz] at hc
        simp -dsimp only [i100b0]
        simp -dsimp (disch := first | omega | assumption | apply agg_two | apply agg_nInt | apply agg_rInt | (simp only [J1,J2,J3,J4,J5,J6,J7,J8]; omega)) only [i100, ↓i100d0t, i100d0, go_sem,↓reduceIte,reduceCtorEq,Nat.reduceEqDiff,Nat.reduceAdd,Nat.reduceSub,Nat.reduceMul,Nat.reduceLT,Nat.reduceLeDiff,Nat.reduceBEq,Nat.reduceBNe,Int.reduceLT,Int.reduceLE,Int.reduceEq,Int.reduceNeg,Int.reduceAdd,Int.reduceSub,Int.reduceMul,Int.reduceToNat,Int.reducePow,Nat.reducePow, g1, g2, hc]
        refine next ⟨i + 1, rfl, ⟨by omega, fun j hj => ?_⟩, by omega⟩
        rcases Nat.lt_or_ge j i with h | h
        · exact hall j h
        · rw [show j = i by omega]; exact he
      · have hz : c3 (atZ p i) (atZ q i) ≠ 0 := by unfold c3; split; omega; split <;> omega
        have hne : ¬ ptrim p = ptrim q := fun h => he (by rw [← atZ_ptrim p, ← atZ_ptrim q, h])
        simp -dsimp only [i100b0]
        simp -dsimp (disch := first | omega | assumption | apply agg_two | apply agg_nInt | apply agg_rInt | (simp only [J1,J2,J3,J4,J5,J6,J7,J8]; omega)) only [i100, ↓i100d0t, i100d0, go_sem,↓reduceIte,reduceCtorEq,Nat.reduceEqDiff,Nat.reduceAdd,Nat.reduceSub,Nat.reduceMul,Nat.reduceLT,Nat.reduceLeDiff,Nat.reduceBEq,Nat.reduceBNe,Int.reduceLT,Int.reduceLE,Int.reduceEq,Int.reduceNeg,Int.reduceAdd,Int.reduceSub,Int.reduceMul,Int.reduceToNat,Int.reducePow,Nat.reducePow, g1, g2, hc]
        rw [decide_eq_false hne]
    · have heq : ptrim p = ptrim q := atZ_ext hl fun j hj => by rw [atZ_ptrim, atZ_ptrim]; exact hall j (by omega)
      simp -dsimp only [i100b0]
      simp -dsimp (disch := first | omega | assumption | apply agg_two | apply agg_nInt | apply agg_rInt | (simp only [J1,J2,J3,J4,J5,J6,J7,J8]; omega)) only [i100, ↓i100d0t, i100d0, go_sem,↓reduceIte,reduceCtorEq,Nat.reduceEqDiff,Nat.reduceAdd,Nat.reduceSub,Nat.reduceMul,Nat.reduceLT,Nat.reduceLeDiff,Nat.reduceBEq,Nat.reduceBNe,Int.reduceLT,Int.reduceLE,Int.reduceEq,Int.reduceNeg,Int.reduceAdd,Int.reduceSub,Int.reduceMul,Int.reduceToNat,Int.reducePow,Nat.reducePow]
      rw [decide_eq_true heq]
  · have hne : ¬ ptrim p = ptrim q := fun h => hl (by rw [h])
    simp -dsimp (disch := first | omega | assumption | apply agg_two | apply agg_nInt | apply agg_rInt | (simp only [J1,J2,J3,J4,J5,J6,J7,J8]; omega)) only [i100, ↓i100d0t, i100d0, go_sem,↓reduceIte,reduceCtorEq,Nat.reduceEqDiff,Nat.reduceAdd,Nat.reduceSub,Nat.reduceMul,Nat.reduceLT,Nat.reduceLeDiff,Nat.reduceBEq,Nat.reduceBNe,Int.reduceLT,Int.reduceLE,Int.reduceEq,Int.reduceNeg,Int.reduceAdd,Int.reduceSub,Int.reduceMul,Int.reduceToNat,Int.reducePow,Nat.reducePow, c1, c2, e1, e2]
    rw [decide_eq_false hne]
end Go.Proofs.YtklelbidjcealaaGreat
namespace Go.Proofs.YtklelbidjcealaaGreat
open Go Go.Ab
theorem nPoly_take {gs : List Int} (h : ptrim gs ≠ []) : FV.sl .any ((gs.take (ptrim gs).length).map nInt) = nPoly (ptrim gs) := by
  rw [← ptrim_take, nPoly, nTagP, if_neg h]
theorem nPoly_nil : nPoly [] = .sl .nil [] := rfl
theorem rng_set {m i : Nat} (g : Nat → Int) (h : i < m) : (rng i g ++ List.replicate (m - i) 0).set i (g i) = rng (i + 1) g ++ List.replicate (m - (i + 1)) 0 := by
  rw [List.set_append_right _ _ (by rw [rng_len]; omega), rng_len, Nat.sub_self, show m - i = (m - (i + 1)) + 1 by omega, List.replicate_succ, List.set_cons_zero, rng_succ]
  simp
theorem rng_get {m i : Nat} (g : Nat → Int) (h : i < m) : (rng i g ++ List.replicate (m - i) 0)[i]? = some 0 := by
  rw [List.getElem?_append_right (by rw [rng_len]; omega), rng_len, List.getElem?_replicate, if_pos (by omega)]
theorem rng_full (m : Nat) (g : Nat → Int) : rng m g ++ List.replicate (m - m) 0 = rng m g := by rw [Nat.sub_self]; simp
theorem PBd.rng {k : Nat} {g : Nat → Int} (h : ∀ i, Bd k (g i)) (m : Nat) : PBd k (rng m g) := fun i => by
  rw [atZ_rng]; split
  · exact h i
  · exact Bd.zero k
theorem psum_ok {x y : FV} {p q : List Int} {k n : Nat} {first caps : List FV} (g : Nat → Int) (hx : IsP x p) (hy : IsP y q) (hs : Small p.length) (hs' : Small q.length) (hi : an.inh n = false) (hr : an.raw 144 n = false)
    (hb : ∀ i, Bd k (g i)) (hk : Fair k) (hf : ∀ i y1 y2, IsI y1 (atZ p i) → IsI y2 (atZ q i) → ret tab.get an n (first ++ [y1, y2] ++ caps) = some (nInt (g i))) :
    ret tab.get an 144 [x, y, .fn (.func n) first caps] = some (nPoly (ptrim (rng (max (ptrim p).length (ptrim q).length) g))) := by
  obtain ⟨t, ps, rfl, hp⟩ := hx
  obtain ⟨t', qs, rfl, hq⟩ := hy
  have c1 := cut_ok t hp hs
  have c2 := cut_ok t' hq hs'
  have l1 := ptrim_len p
  have l2 := ptrim_len q
  have e1 : (ps.take (ptrim p).length).length = (ptrim p).length := by rw [List.length_take, hp.len]; omega
  have e2 : (qs.take (ptrim q).length).length = (ptrim q).length := by rw [List.length_take, hq.len]; omega
  have hp' : AllI (ps.take (ptrim p).length) (ptrim p) := by have := hp.take l1; rwa [← ptrim_take] at this
  have hq' : AllI (qs.take (ptrim q).length) (ptrim q) := by have := hq.take l2; rwa [← ptrim_take] at this
  generalize hP : ps.take (ptrim p).length = PS at *
  generalize hQ : qs.take (ptrim q).length = QS at *
  obtain ⟨m, hm, hmx⟩ : ∃ m, m = max (ptrim p).length (ptrim q).length ∧ Small m := ⟨_, rfl, by omega⟩
  rw [← hm]
  have hmi : (if ((((ptrim q).length : Nat) : Int) > (((ptrim p).length : Nat) : Int)) then (((ptrim q).length : Nat) : Int) else (((ptrim p).length : Nat) : Int)) = (m : Int) := by split <;> omega
  refine ret_eq (fn := i144) rfl rfl ?_
  simp -dsimp only [i144]
  simp -dsimp (disch := first | omega | assumption | apply agg_two | apply agg_nInt | apply agg_rInt | (simp only [J1,J2,J3,J4,J5,J6,J7,J8]; omega)) only [i144, go_sem,↓reduceIte,reduceCtorEq,Nat.reduceEqDiff,Nat.reduceAdd,Nat.reduceSub,Nat.reduceMul,Nat.reduceLT,Nat.reduceLeDiff,Nat.reduceBEq,Nat.reduceBNe,Int.reduceLT,Int.reduceLE,Int.reduceEq,Int.reduceNeg,Int.reduceAdd,Int.reduceSub,Int.reduceMul,Int.reduceToNat,Int.reducePow,Nat.reducePow, c1, c2, e1, e2, hmi, nZeros]
  refine pW_loop (fun i : Nat => ⟨[(0, .fv (.sl (nTagP (ptrim p)) PS)), (1, .fv (.sl (nTagP (ptrim q)) QS)), (2, .fv (.fn (.func n) first caps)), (7, .ref (.l 0) 2 0 m true), (20, .fv (.int .i64 (m : Int))), (21, .fv (.int .i64 (i : Int)))], [], [.own 2 (nInts (rng i g ++ List.replicate (m - i) 0))]⟩) (fun i => i ≤ m) (fun i => m - i) 0 (by simp -dsimp (disch := first | omega | assumption | apply agg_two | apply agg_nInt | apply agg_rInt | (simp only [J1,J2,J3,J4,J5,J6,J7,J8]; omega)) only [go_sem,↓reduceIte,reduceCtorEq,Nat.reduceEqDiff,Nat.reduceAdd,Nat.reduceSub,Nat.reduceMul,Nat.reduceLT,Nat.reduceLeDiff,Nat.reduceBEq,Nat.reduceBNe,Int.reduceLT,Int.reduceLE,Int.reduceEq,Int.reduceNeg,Int.reduceAdd,Int.reduceSub,Int.reduceMul,Int.reduceToNat,Int.reducePow,Nat.reducePow]; rfl) (by omega) ?_
  intro i hle
  by_cases hlt : i < m
  · obtain ⟨y1, r1, z1⟩ := at_ok (i := i) (⟨_, _, rfl, hp'⟩ : IsP (.sl (nTagP (ptrim p)) PS) (ptrim p))
    obtain ⟨y2, r2, z2⟩ := at_ok (i := i) (⟨_, _, rfl, hq'⟩ : IsP (.sl (nTagP (ptrim q)) QS) (ptrim q))
    rw [atZ_ptrim] at z1 z2
    have r3 := hf i y1 y2 z1 z2
    have a1 := z1.agg
    have a2 := z2.agg
    have g1 := rng_get g hlt
    have g2 := rng_set g hlt
    simp -dsimp only [i144b0]
    simp -dsimp (disch := first | omega | assumption | apply agg_two | apply agg_nInt | apply agg_rInt | (simp only [J1,J2,J3,J4,J5,J6,J7,J8]; omega)) only [i144, go_sem,↓reduceIte,reduceCtorEq,Nat.reduceEqDiff,Nat.reduceAdd,Nat.reduceSub,Nat.reduceMul,Nat.reduceLT,Nat.reduceLeDiff,Nat.reduceBEq,Nat.reduceBNe,Int.reduceLT,Int.reduceLE,Int.reduceEq,Int.reduceNeg,Int.reduceAdd,Int.reduceSub,Int.reduceMul,Int.reduceToNat,Int.reducePow,Nat.reducePow, ↓hi, ↓hr, r1, r2, r3, g1, nInts_set]
    refine next ⟨i + 1, ?_, by omega, by omega⟩
    rw [g2]
  · have : i = m := by omega
    subst this
    rw [rng_full]
    have hco := cut_own (PBd.rng hb i) hk (by rw [rng_len]; omega)
    rw [rng_len] at hco
    have lr := ptrim_len (rng i g)
    rw [rng_len] at lr
    have lr2 := rng_len i g
    by_cases h0 : ptrim (rng i g) = []
    · rw [if_pos h0] at hco
      rw [h0]
      simp -dsimp only [i144b0]
      simp -dsimp (disch := first | omega | assumption | apply agg_two | apply agg_nInt | apply agg_rInt | (simp only [J1,J2,J3,J4,J5,J6,J7,J8]; omega)) only [i144, go_sem,↓reduceIte,reduceCtorEq,Nat.reduceEqDiff,Nat.reduceAdd,Nat.reduceSub,Nat.reduceMul,Nat.reduceLT,Nat.reduceLeDiff,Nat.reduceBEq,Nat.reduceBNe,Int.reduceLT,Int.reduceLE,Int.reduceEq,Int.reduceNeg,Int.reduceAdd,Int.reduceSub,Int.reduceMul,Int.reduceToNat,Int.reducePow,Nat.reducePow, hco]
      rfl
    · rw [if_neg h0] at hco
      simp -dsimp only [i144b0]
      simp -dsimp (disch := first | omega | assumption | apply agg_two | apply agg_nInt | apply agg_rInt | (simp only [J1,J2,J3,J4,J5,J6,J7,J8]; omega)) only [i144, go_sem,↓reduceIte,reduceCtorEq,Nat.reduceEqDiff,Nat.reduceAdd,Nat.reduceSub,Nat.reduceMul,Nat.reduceLT,Nat.reduceLeDiff,Nat.reduceBEq,Nat.reduceBNe,Int.reduceLT,Int.reduceLE,Int.reduceEq,Int.reduceNeg,Int.reduceAdd,Int.reduceSub,Int.reduceMul,Int.reduceToNat,Int.reducePow,Nat.reducePow, hco]
      exact nPoly_take h0
theorem PAdd_ok {x y : FV} {p q : List Int} {k : Nat} (hx : IsP x p) (hy : IsP y q) (hs : Small p.length) (hs' : Small q.length) (hp : PBd k p) (hq : PBd k q) (hk : Fair (k + 1)) : ret tab.get an 94 [x, y] = some (nPoly (padd p q)) := by
  have h := psum_ok (k := k + 1) (n := 103) (first := []) (caps := []) (fun i => atZ p i + atZ q i) hx hy hs hs' rfl rfl (fun i => (hp i).add' (hq i)) hk (fun i y1 y2 h1 h2 => Add_ok h1 h2 (hp i) (hq i) (by omega))
  have e : ptrim (rng (max (ptrim p).length (ptrim q).length) fun i => atZ p i + atZ q i) = padd p q := by
    rw [← padd_trim, padd]
    exact ptrim_ext fun i => by rw [atZ_rng, atZ_rng, atZ_ptrim, atZ_ptrim]
  rw [e] at h
  refine ret_eq (fn := i94) rfl rfl ?_
  simp -dsimp only [i94]
  simp -dsimp (disch := first | omega | assumption | apply agg_two | apply agg_nInt | apply agg_rInt | (simp only [J1,J2,J3,J4,J5,J6,J7,J8]; omega)) only [i94, go_sem,↓reduceIte,reduceCtorEq,Nat.reduceEqDiff,Nat.reduceAdd,Nat.reduceSub,Nat.reduceMul,Nat.reduceLT,Nat.reduceLeDiff,Nat.reduceBEq,Nat.reduceBNe,Int.reduceLT,Int.reduceLE,Int.reduceEq,Int.reduceNeg,Int.reduceAdd,Int.reduceSub,Int.reduceMul,Int.reduceToNat,Int.reducePow,Nat.reducePow, h]
theorem PSub_ok {x y : FV} {p q : List Int} {k : Nat} (hx : IsP x p) (hy : IsP y q) (hs : Small p.length) (hs' : Small q.length) (hp : PBd k p) (hq : PBd k q) (hk : Fair (k + 1)) : ret tab.get an 113 [x, y] = some (nPoly (psub p q)) := by
  have h := psum_ok (k := k + 1) (n := 153) (first := []) (caps := []) (fun i => atZ p i - atZ q i) hx hy hs hs' rfl rfl (fun i => (hp i).sub' (hq i)) hk (fun i y1 y2 h1 h2 => Sub_ok h1 h2 (hp i) (hq i) (by omega))
  have e : ptrim (rng (max (ptrim p).length (ptrim q).length) fun i => atZ p i - atZ q i) = psub p q := by
    rw [← psub_trim, psub]
    exact ptrim_ext fun i => by rw [atZ_rng, atZ_rng, atZ_ptrim, atZ_ptrim]
  rw [e] at h
  refine ret_eq (fn := i113) rfl rfl ?_
  simp -dsimp only [i113]
  simp -dsimp (disch := first | omega | assumption | apply agg_two | apply agg_nInt | apply agg_rInt | (simp only [J1,J2,J3,J4,J5,J6,J7,J8]; omega)) only [i113, go_sem,↓reduceIte,reduceCtorEq,Nat.reduceEqDiff,Nat.reduceAdd,Nat.reduceSub,Nat.reduceMul,Nat.reduceLT,Nat.reduceLeDiff,Nat.reduceBEq,Nat.reduceBNe,Int.reduceLT,Int.reduceLE,Int.reduceEq,Int.reduceNeg,Int.reduceAdd,Int.reduceSub,Int.reduceMul,Int.reduceToNat,Int.reducePow,Nat.reducePow, h]
theorem by_ok {x y : FV} {a b : Int} {j k : Nat} (hx : IsI x a) (hy : IsI y b) (ha : Bd j a) (hb : Bd k b) (hk : j + k ≤ 100000000000) : ret tab.get an 133 [x, y] = some (nInt (a * b)) := by
  have h := Mul_ok hx hy ha hb hk
  have ax := hx.agg
  have ay := hy.agg
  obtain ⟨b', t, xs, rfl, hd⟩ := hx
  refine ret_eq (fn := i133) rfl rfl ?_
  simp -dsimp only [i133]
  simp -dsimp (disch := first | omega | assumption | apply agg_two | apply agg_nInt | apply agg_rInt | (simp only [J1,J2,J3,J4,J5,J6,J7,J8]; omega)) only [i133, go_sem,↓reduceIte,reduceCtorEq,Nat.reduceEqDiff,Nat.reduceAdd,Nat.reduceSub,Nat.reduceMul,Nat.reduceLT,Nat.reduceLeDiff,Nat.reduceBEq,Nat.reduceBNe,Int.reduceLT,Int.reduceLE,Int.reduceEq,Int.reduceNeg,Int.reduceAdd,Int.reduceSub,Int.reduceMul,Int.reduceToNat,Int.reducePow,Nat.reducePow, h]
theorem PScale_ok {x y : FV} {p : List Int} {a : Int} {j k : Nat} (hx : IsP x p) (hy : IsI y a) (hs : Small p.length) (hp : PBd j p) (ha : Bd k a) (hk : j + k ≤ 100000000000) : ret tab.get an 86 [x, y] = some (nPoly (pscale a p)) := by
  obtain ⟨t, ps, rfl, h⟩ := hx
  have hl := ptrim_len p
  have hp2 : PBd (j + k) ((ptrim p).map fun x => a * x) := fun i => by
    rw [atZ_map (by simp), atZ_ptrim]
    have := ha.mul (hp i)
    rwa [Nat.add_comm] at this
  have he := each_ret (gs := (ptrim p).map fun x => a * x) (k := j + k) (n := 133) (first := [y]) (caps := []) t h hs rfl rfl (by simp) hp2 hk (fun i hi => by
    rw [atZ_map (by simp), atZ_ptrim]
    rw [List.length_map] at hi
    exact by_ok hy (h.at' i (by omega)) ha (hp i) (by omega))
  have e : ptrim ((ptrim p).map fun x => a * x) = pscale a p := (ptrim_trimd _).ext (pscale_trimd _ _) fun i => by rw [atZ_ptrim, atZ_map (by simp), atZ_ptrim, at_pscale]
  rw [e] at he
  have ay := hy.agg
  refine ret_eq (fn := i86) rfl rfl ?_
  simp -dsimp only [i86]
  simp -dsimp (disch := first | omega | assumption | apply agg_two | apply agg_nInt | apply agg_rInt | (simp only [J1,J2,J3,J4,J5,J6,J7,J8]; omega)) only [i86, go_sem,↓reduceIte,reduceCtorEq,Nat.reduceEqDiff,Nat.reduceAdd,Nat.reduceSub,Nat.reduceMul,Nat.reduceLT,Nat.reduceLeDiff,Nat.reduceBEq,Nat.reduceBNe,Int.reduceLT,Int.reduceLE,Int.reduceEq,Int.reduceNeg,Int.reduceAdd,Int.reduceSub,Int.reduceMul,Int.reduceToNat,Int.reducePow,Nat.reducePow, he]
theorem line_ok {x : FV} {a : Int} (hx : IsI x a) : ∃ y, ret tab.get an 152 [x] = some y ∧ IsP y [a, 1] := by
  have h := Of_ok (n := 1) (by omega) (by omega)
  have ax := hx.agg
  have h1 := agg_nInt 1
  refine ⟨.sl .full [x, nInt 1], ?_, .full, _, rfl, rfl, ?_⟩
  · refine ret_eq (fn := i152) rfl rfl ?_
    simp -dsimp only [i152]
    simp -dsimp (disch := first | omega | assumption | apply agg_two | apply agg_nInt | apply agg_rInt | (simp only [J1,J2,J3,J4,J5,J6,J7,J8]; omega)) only [i152, ↓i152d0t, i152d0, go_sem,↓reduceIte,reduceCtorEq,Nat.reduceEqDiff,Nat.reduceAdd,Nat.reduceSub,Nat.reduceMul,Nat.reduceLT,Nat.reduceLeDiff,Nat.reduceBEq,Nat.reduceBNe,Int.reduceLT,Int.reduceLE,Int.reduceEq,Int.reduceNeg,Int.reduceAdd,Int.reduceSub,Int.reduceMul,Int.reduceToNat,Int.reducePow,Nat.reducePow, h]
  · intro i hi
    match i, hi with
    | 0, _ => exact hx
    | 1, _ => exact nInt_I (k := 1) (show (1 : Int).natAbs < 2 ^ 1 by decide) (by omega)
theorem bd_conv {p q : List Int} {j k : Nat} (hp : PBd j p) (hq : PBd k q) (n x : Nat) : Bd (j + k + n) (conv p q n x) := by
  induction n with
  | zero => rw [conv_zero]; exact Bd.zero _
  | succ n ih =>
    rw [conv_succ]
    have h2 : Bd (j + k + n) (if n ≤ x then atZ p n * atZ q (x - n) else 0) := by
      split
      · exact ((hp n).mul (hq (x - n))).mono (by omega)
      · exact Bd.zero _
    exact ih.add' h2
theorem PBd.mul {p q : List Int} {j k : Nat} (hp : PBd j p) (hq : PBd k q) : PBd (j + k + p.length) (pmul p q) := fun i => by rw [at_pmul]; exact bd_conv hp hq _ _
theorem PBd.add {p q : List Int} {k : Nat} (hp : PBd k p) (hq : PBd k q) : PBd (k + 1) (padd p q) := fun i => by rw [at_padd]; exact (hp i).add' (hq i)
theorem PBd.sub {p q : List Int} {k : Nat} (hp : PBd k p) (hq : PBd k q) : PBd (k + 1) (psub p q) := fun i => by rw [at_psub]; exact (hp i).sub' (hq i)
theorem mul_in {Q : IExit → St → Prop} {t t' : Tag} {ps qs : List FV} {p q o0 : List Int} {x : FV} {i N j k n : Nat} (hx : IsI x (atZ p i)) (hq : AllI qs q) (hN : o0.length = N) (hi : i + q.length ≤ N) (hs : Small N) (bp : PBd j p) (bq : PBd k q) (hk : Fair (j + k + i + 2)) (ho : ∀ y, atZ o0 y = conv p q i y) {st : St}
    (h0 : gc [1, 5, 6, 7, 29, 30, 31, 39, 40, 41] st = ⟨[(1, .fv (.sl t' qs)), (5, .ref (.l 0) 2 0 N true), (6, .fv (.int .i64 (i : Int))), (7, .ptr (.l 1) 2 0 0), (29, .fv (.sl t ps)), (30, .fv (.int .i64 (n : Int))), (31, .fv (.int .i64 (i : Int))), (39, .fv (.sl t' qs)), (40, .fv (.int .i64 (q.length : Int))), (41, .fv (.int .i64 0))], [], [.own 2 (nInts o0), .own 2 [x]]⟩)
    (hQ : ∀ e o, e.get 1 = .fv (.sl t' qs) → e.get 5 = .ref (.l 0) 2 0 N true → e.get 29 = .fv (.sl t ps) → e.get 30 = .fv (.int .i64 (n : Int)) → e.get 31 = .fv (.int .i64 (i : Int)) → o.length = N → (∀ y, atZ o y = conv p q (i + 1) y) → Q (.exit 2) ⟨e, [], [.own 2 (nInts o), .own 2 [x]]⟩) :
    pW Q tab.get an 95 (.loop [1, 5, 6, 7, 29, 30, 31, 39, 40, 41] i95b0) st .mk := by
  refine pW_loop (fun a : Nat × List Int => ⟨[(1, .fv (.sl t' qs)), (5, .ref (.l 0) 2 0 N true), (6, .fv (.int .i64 (i : Int))), (7, .ptr (.l 1) 2 0 0), (29, .fv (.sl t ps)), (30, .fv (.int .i64 (n : Int))), (31, .fv (.int .i64 (i : Int))), (39, .fv (.sl t' qs)), (40, .fv (.int .i64 (q.length : Int))), (41, .fv (.int .i64 (a.1 : Int)))], [], [.own 2 (nInts a.2), .own 2 [x]]⟩)
    (fun a => a.1 ≤ q.length ∧ a.2.length = N ∧ ∀ y, atZ a.2 y = if y < i + a.1 then conv p q (i + 1) y else conv p q i y) (fun a => q.length - a.1) (0, o0) (by rw [h0]; rfl) ⟨by simp, hN, fun y => ?_⟩ ?_
  · simp only [Nat.add_zero]
    rw [ho]
    split
    · rw [conv_succ, if_neg (by omega)]; omega
    · rfl
  rintro ⟨m, o⟩ ⟨h1, h2, h3⟩
  simp only at h1 h2 h3
  have hlen := hq.len
  have ag := hx.agg
  by_cases hm : m < q.length
  · have g1 := getF (ps := qs) (i := m) (by omega)
    have y1 := hq.at' m hm
    have a1 := y1.agg
    have g2 := getZ (zs := o) (i := i + m) (by omega)
    have o1 := h3 (i + m)
    rw [if_neg (by omega)] at o1
    have b0 := bd_conv bp bq i (i + m)
    have b1 := (bp i).mul (bq m)
    have r1 := Mul_ok hx y1 (bp i) (bq m) (by omega)
    rw [← o1] at b0
    have b2 : Bd (j + k + i) (atZ p i * atZ q m) := b1.mono (by omega)
    have r2 := Add_ok (nInt_I b0 (by omega)) (nInt_I b2 (by omega)) b0 b2 (by omega)
    simp -dsimp only [i95b0]
    simp -dsimp (disch := first | omega | assumption | apply agg_two | apply agg_nInt | apply agg_rInt | (simp only [J1,J2,J3,J4,J5,J6,J7,J8]; omega)) only [i95, ↓i95d0t, i95d0, go_sem,↓reduceIte,reduceCtorEq,Nat.reduceEqDiff,Nat.reduceAdd,Nat.reduceSub,Nat.reduceMul,Nat.reduceLT,Nat.reduceLeDiff,Nat.reduceBEq,Nat.reduceBNe,Int.reduceLT,Int.reduceLE,Int.reduceEq,Int.reduceNeg,Int.reduceAdd,Int.reduceSub,Int.reduceMul,Int.reduceToNat,Int.reducePow,Nat.reducePow, g1, g2, r1, r2, nInts_set]
    refine next ⟨(m + 1, o.set (i + m) (atZ o (i + m) + atZ p i * atZ q m)), rfl, ⟨by simp only; omega, by simp [h2], fun y => ?_⟩, by simp only; omega⟩
    simp only
    rw [atZ_set (by omega)]
    by_cases hy : i + m = y
    · subst hy
      rw [if_pos rfl, if_pos (by omega), conv_succ, if_pos (by omega), o1, Nat.add_sub_cancel_left]
    · rw [if_neg hy, h3]
      by_cases hy2 : y < i + m
      · rw [if_pos hy2, if_pos (by omega)]
      · rw [if_neg hy2, if_neg (by omega)]
  · have : m = q.length := by omega
    subst this
    simp -dsimp only [i95b0]
    simp -dsimp (disch := first | omega | assumption | apply agg_two | apply agg_nInt | apply agg_rInt | (simp only [J1,J2,J3,J4,J5,J6,J7,J8]; omega)) only [i95, ↓i95d0t, i95d0, go_sem,↓reduceIte,reduceCtorEq,Nat.reduceEqDiff,Nat.reduceAdd,Nat.reduceSub,Nat.reduceMul,Nat.reduceLT,Nat.reduceLeDiff,Nat.reduceBEq,Nat.reduceBNe,Int.reduceLT,Int.reduceLE,Int.reduceEq,Int.reduceNeg,Int.reduceAdd,Int.reduceSub,Int.reduceMul,Int.reduceToNat,Int.reducePow,Nat.reducePow]
    refine hQ _ o rfl rfl rfl rfl rfl h2 fun y => ?_
    rw [h3]
    split
    · rfl
    · rw [conv_succ, if_pos (by omega), atZ_out (by omega : q.length ≤ y - i)]; omega
theorem PMul_ok {x y : FV} {p q : List Int} {j k : Nat} (hx : IsP x p) (hy : IsP y q) (hs : p.length + q.length ≤ 1000000000000) (bp : PBd j p) (bq : PBd k q) (hk : Fair (j + k + p.length + 2)) : ret tab.get an 95 [x, y] = some (nPoly (pmul p q)) := by
  obtain ⟨t, ps, rfl, hp⟩ := hx
  obtain ⟨t', qs, rfl, hq⟩ := hy
  have c1 := cut_ok t hp (by omega)
  have c2 := cut_ok t' hq (by omega)
  have l1 := ptrim_len p
  have l2 := ptrim_len q
  have e1 : (ps.take (ptrim p).length).length = (ptrim p).length := by rw [List.length_take, hp.len]; omega
  have e2 : (qs.take (ptrim q).length).length = (ptrim q).length := by rw [List.length_take, hq.len]; omega
  have hp' : AllI (ps.take (ptrim p).length) (ptrim p) := by have := hp.take l1; rwa [← ptrim_take] at this
  have hq' : AllI (qs.take (ptrim q).length) (ptrim q) := by have := hq.take l2; rwa [← ptrim_take] at this
  have bp' := bp.trim
  have bq' := bq.trim
  rw [← pmul_trim]
  generalize hP : ps.take (ptrim p).length = PS at *
  generalize hQ : qs.take (ptrim q).length = QS at *
  generalize htp : nTagP (ptrim p) = tp at *
  generalize htq : nTagP (ptrim q) = tq at *
  generalize ptrim p = P at *
  generalize ptrim q = R at *
  refine ret_eq (fn := i95) rfl rfl ?_
  simp -dsimp only [i95]
  by_cases z1 : P.length = 0
  · have : P = [] := List.eq_nil_of_length_eq_zero z1
    rw [this, pmul_nil_left]
    simp -dsimp (disch := first | omega | assumption | apply agg_two | apply agg_nInt | apply agg_rInt | (simp only [J1,J2,J3,J4,J5,J6,J7,J8]; omega)) only [i95, ↓i95d0t, i95d0, go_sem,↓reduceIte,reduceCtorEq,Nat.reduceEqDiff,Nat.reduceAdd,Nat.reduceSub,Nat.reduceMul,Nat.reduceLT,Nat.reduceLeDiff,Nat.reduceBEq,Nat.reduceBNe,Int.reduceLT,Int.reduceLE,Int.reduceEq,Int.reduceNeg,Int.reduceAdd,Int.reduceSub,Int.reduceMul,Int.reduceToNat,Int.reducePow,Nat.reducePow, c1, c2, e1, e2]
    rfl
  by_cases z2 : R.length = 0
  · have : R = [] := List.eq_nil_of_length_eq_zero z2
    rw [this, pmul_nil_right]
    simp -dsimp (disch := first | omega | assumption | apply agg_two | apply agg_nInt | apply agg_rInt | (simp only [J1,J2,J3,J4,J5,J6,J7,J8]; omega)) only [i95, ↓i95d0t, i95d0, go_sem,↓reduceIte,reduceCtorEq,Nat.reduceEqDiff,Nat.reduceAdd,Nat.reduceSub,Nat.reduceMul,Nat.reduceLT,Nat.reduceLeDiff,Nat.reduceBEq,Nat.reduceBNe,Int.reduceLT,Int.reduceLE,Int.reduceEq,Int.reduceNeg,Int.reduceAdd,Int.reduceSub,Int.reduceMul,Int.reduceToNat,Int.reducePow,Nat.reducePow, c1, c2, e1, e2]
    rfl
  simp -dsimp (disch := first | omega | assumption | apply agg_two | apply agg_nInt | apply agg_rInt | (simp only [J1,J2,J3,J4,J5,J6,J7,J8]; omega)) only [i95, ↓i95d0t, i95d0, go_sem,↓reduceIte,reduceCtorEq,Nat.reduceEqDiff,Nat.reduceAdd,Nat.reduceSub,Nat.reduceMul,Nat.reduceLT,Nat.reduceLeDiff,Nat.reduceBEq,Nat.reduceBNe,Int.reduceLT,Int.reduceLE,Int.reduceEq,Int.reduceNeg,Int.reduceAdd,Int.reduceSub,Int.reduceMul,Int.reduceToNat,Int.reducePow,Nat.reducePow, c1, c2, e1, e2, nZeros]
  have hN : P.length + R.length - 1 + 1 = P.length + R.length := by omega
  generalize hNN : P.length + R.length - 1 = N at *
  refine pW_loop (fun a : Nat × List Int => ⟨[(1, .fv (.sl tq QS)), (5, .ref (.l 0) 2 0 N true), (29, .fv (.sl tp PS)), (30, .fv (.int .i64 (P.length : Int))), (31, .fv (.int .i64 (a.1 : Int)))], [], [.own 2 (nInts a.2)]⟩)
    (fun a => a.1 ≤ P.length ∧ a.2.length = N ∧ ∀ y, atZ a.2 y = conv P R a.1 y) (fun a => P.length - a.1) (0, List.replicate N 0) (by simp -dsimp (disch := first | omega | assumption | apply agg_two | apply agg_nInt | apply agg_rInt | (simp only [J1,J2,J3,J4,J5,J6,J7,J8]; omega)) only [go_sem,↓reduceIte,reduceCtorEq,Nat.reduceEqDiff,Nat.reduceAdd,Nat.reduceSub,Nat.reduceMul,Nat.reduceLT,Nat.reduceLeDiff,Nat.reduceBEq,Nat.reduceBNe,Int.reduceLT,Int.reduceLE,Int.reduceEq,Int.reduceNeg,Int.reduceAdd,Int.reduceSub,Int.reduceMul,Int.reduceToNat,Int.reducePow,Nat.reducePow]) ⟨by simp, by simp, fun y => by rw [atZ_zeros, conv_zero]⟩ ?_
  rintro ⟨i, o⟩ ⟨h1, h2, h3⟩
  simp only at h1 h2 h3
  by_cases hi : i < P.length
  · have g1 := getF (ps := PS) (i := i) (by omega)
    have x1 := hp'.at' i hi
    have a1 := x1.agg
    have s1 := Sign_ok x1
    by_cases hz : atZ P i = 0
    · have hsz : (atZ P i).sign = 0 := by rw [hz]; rfl
      rw [hsz] at s1
      simp -dsimp only [i95b1]
      simp -dsimp (disch := first | omega | assumption | apply agg_two | apply agg_nInt | apply agg_rInt | (simp only [J1,J2,J3,J4,J5,J6,J7,J8]; omega)) only [i95, ↓i95d0t, i95d0, go_sem,↓reduceIte,reduceCtorEq,Nat.reduceEqDiff,Nat.reduceAdd,Nat.reduceSub,Nat.reduceMul,Nat.reduceLT,Nat.reduceLeDiff,Nat.reduceBEq,Nat.reduceBNe,Int.reduceLT,Int.reduceLE,Int.reduceEq,Int.reduceNeg,Int.reduceAdd,Int.reduceSub,Int.reduceMul,Int.reduceToNat,Int.reducePow,Nat.reducePow, g1, s1]
      refine next ⟨(i + 1, o), rfl, ⟨by simp only; omega, h2, fun y => ?_⟩, by simp only; omega⟩
      rw [conv_succ, hz, h3]
      split <;> simp
    · have hsz : (atZ P i).sign ≠ 0 := fun h => hz (Int.sign_eq_zero_iff_zero.1 h)
      simp -dsimp only [i95b1]
      simp -dsimp (disch := first | omega | assumption | apply agg_two | apply agg_nInt | apply agg_rInt | (simp only [J1,J2,J3,J4,J5,J6,J7,J8]; omega)) only [i95, ↓i95d0t, i95d0, go_sem,↓reduceIte,reduceCtorEq,Nat.reduceEqDiff,Nat.reduceAdd,Nat.reduceSub,Nat.reduceMul,Nat.reduceLT,Nat.reduceLeDiff,Nat.reduceBEq,Nat.reduceBNe,Int.reduceLT,Int.reduceLE,Int.reduceEq,Int.reduceNeg,Int.reduceAdd,Int.reduceSub,Int.reduceMul,Int.reduceToNat,Int.reducePow,Nat.reducePow, g1, s1]
      refine mul_in (t := tp) (t' := tq) (ps := PS) (qs := QS) (p := P) (q := R) (o0 := o) (x := atF PS i) (i := i) (N := N) (n := P.length) x1 hq' h2 (by omega) (by omega) bp' bq' (by omega) h3 (by simp -dsimp (disch := first | omega | assumption | apply agg_two | apply agg_nInt | apply agg_rInt | (simp only [J1,J2,J3,J4,J5,J6,J7,J8]; omega)) only [go_sem,↓reduceIte,reduceCtorEq,Nat.reduceEqDiff,Nat.reduceAdd,Nat.reduceSub,Nat.reduceMul,Nat.reduceLT,Nat.reduceLeDiff,Nat.reduceBEq,Nat.reduceBNe,Int.reduceLT,Int.reduceLE,Int.reduceEq,Int.reduceNeg,Int.reduceAdd,Int.reduceSub,Int.reduceMul,Int.reduceToNat,Int.reducePow,Nat.reducePow, e2]) ?_
      intro e o' g1 g5 g29 g30 g31 k1 k2
      simp -dsimp (disch := first | omega | assumption | apply agg_two | apply agg_nInt | apply agg_rInt | (simp only [J1,J2,J3,J4,J5,J6,J7,J8]; omega)) only [i95, ↓i95d0t, i95d0, go_sem,↓reduceIte,reduceCtorEq,Nat.reduceEqDiff,Nat.reduceAdd,Nat.reduceSub,Nat.reduceMul,Nat.reduceLT,Nat.reduceLeDiff,Nat.reduceBEq,Nat.reduceBNe,Int.reduceLT,Int.reduceLE,Int.reduceEq,Int.reduceNeg,Int.reduceAdd,Int.reduceSub,Int.reduceMul,Int.reduceToNat,Int.reducePow,Nat.reducePow, g1, g5, g29, g30, g31]
      exact next ⟨(i + 1, o'), rfl, ⟨by simp only; omega, k1, k2⟩, by simp only; omega⟩
  · have : i = P.length := by omega
    subst this
    have bo : PBd (j + k + P.length) o := fun y => by rw [h3]; exact bd_conv bp' bq' _ _
    have hco := cut_own bo (by omega) (by omega)
    have hpm : ptrim o = pmul P R := (ptrim_trimd _).ext (pmul_trimd _ _) fun y => by rw [atZ_ptrim, h3, at_pmul]
    rw [h2] at hco
    have lo := ptrim_len o
    by_cases h0 : ptrim o = []
    · rw [if_pos h0] at hco
      rw [← hpm, h0]
      simp -dsimp only [i95b1]
      simp -dsimp (disch := first | omega | assumption | apply agg_two | apply agg_nInt | apply agg_rInt | (simp only [J1,J2,J3,J4,J5,J6,J7,J8]; omega)) only [i95, ↓i95d0t, i95d0, go_sem,↓reduceIte,reduceCtorEq,Nat.reduceEqDiff,Nat.reduceAdd,Nat.reduceSub,Nat.reduceMul,Nat.reduceLT,Nat.reduceLeDiff,Nat.reduceBEq,Nat.reduceBNe,Int.reduceLT,Int.reduceLE,Int.reduceEq,Int.reduceNeg,Int.reduceAdd,Int.reduceSub,Int.reduceMul,Int.reduceToNat,Int.reducePow,Nat.reducePow, hco]
      rfl
    · rw [if_neg h0] at hco
      rw [← hpm]
      simp -dsimp only [i95b1]
      simp -dsimp (disch := first | omega | assumption | apply agg_two | apply agg_nInt | apply agg_rInt | (simp only [J1,J2,J3,J4,J5,J6,J7,J8]; omega)) only [i95, ↓i95d0t, i95d0, go_sem,↓reduceIte,reduceCtorEq,Nat.reduceEqDiff,Nat.reduceAdd,Nat.reduceSub,Nat.reduceMul,Nat.reduceLT,Nat.reduceLeDiff,Nat.reduceBEq,Nat.reduceBNe,Int.reduceLT,Int.reduceLE,Int.reduceEq,Int.reduceNeg,Int.reduceAdd,Int.reduceSub,Int.reduceMul,Int.reduceToNat,Int.reducePow,Nat.reducePow, hco]
      exact nPoly_take h0
end Go.Proofs.YtklelbidjcealaaGreat
namespace Go.Proofs.YtklelbidjcealaaGreat
open Go Go.Ab
abbrev Few (n : Nat) : Prop := n ≤ 1000000
theorem rngt_len (n : Nat) (f : Nat → Int) : (ptrim (rng n f)).length ≤ n := by
  have := ptrim_len (rng n f); rwa [rng_len] at this
theorem pmul_len (p q : List Int) : (pmul p q).length ≤ p.length + q.length - 1 := rngt_len _ _
theorem padd_len (p q : List Int) : (padd p q).length ≤ max p.length q.length := rngt_len _ _
theorem psub_len (p q : List Int) : (psub p q).length ≤ max p.length q.length := rngt_len _ _
theorem phorn_len {l : List Int} (hl : l.length ≤ 2) : ∀ (p : List Int), (phorn l p).length ≤ p.length
  | [] => by simp [phorn]
  | c :: r => by
    have h1 := padd_len (pmul (phorn l r) l) [c]
    have h2 := pmul_len (phorn l r) l
    have h3 := phorn_len hl r
    simp only [phorn, List.length_cons, List.length_nil] at h1 ⊢
    omega
theorem PBd.tail {k : Nat} {c : Int} {r : List Int} (h : PBd k (c :: r)) : PBd k r := fun i => by have := h (i + 1); rwa [atZ_cons_succ] at this
theorem PBd.one {k : Nat} {c : Int} (h : Bd k c) : PBd k [c] := fun i => by
  cases i with
  | zero => rw [atZ_cons_zero]; exact h
  | succ i => rw [atZ_cons_succ, atZ_nil]; exact Bd.zero k
theorem PBd.two {k : Nat} {a b : Int} (h : Bd k a) (h' : Bd k b) : PBd k [a, b] := fun i => by
  match i with
  | 0 => rw [atZ_cons_zero]; exact h
  | 1 => rw [atZ_cons_succ, atZ_cons_zero]; exact h'
  | i + 2 => rw [atZ_cons_succ, atZ_cons_succ, atZ_nil]; exact Bd.zero k
theorem phorn_bd {l : List Int} {kl kp N : Nat} (hl : l.length ≤ 2) (bl : PBd kl l) : ∀ {p : List Int}, PBd kp p → p.length ≤ N → PBd (kp + p.length * (kl + N + 1)) (phorn l p)
  | [], _, _ => PBd.nil _
  | c :: r, h, hn => by
    have h1 := phorn_bd (N := N) hl bl h.tail (by simp at hn; omega)
    have h2 := phorn_len hl r
    have h3 := h1.mul bl
    have h4 : PBd (kp + (r.length * (kl + N + 1) + (kl + N))) [c] := (PBd.one (by have := h 0; rwa [atZ_cons_zero] at this)).mono (by omega)
    simp only [List.length_cons] at hn ⊢
    rw [Nat.succ_mul]
    have h5 := (h3.mono (k := kp + (r.length * (kl + N + 1) + (kl + N))) (by omega)).add h4
    exact h5.mono (by omega)
theorem PBd.drop {k : Nat} {p : List Int} (h : PBd k p) (n : Nat) : PBd k (p.drop n) := fun i => by
  unfold atZ
  rw [List.getElem?_drop]
  exact h (n + i)
theorem single_isP {x : FV} {a : Int} (h : IsI x a) (t : Tag) : IsP (.sl t [x]) [a] := ⟨t, _, rfl, rfl, fun i hi => by
  match i, hi with
  | 0, _ => exact h⟩
theorem PShift_ok {x y : FV} {p : List Int} {a : Int} {K ka kp : Nat} (hx : IsP x p) (hy : IsI y a) (hs : Few p.length) (ha : Bd ka a) (h1a : 1 ≤ ka) (bp : PBd kp p) (hK : kp + p.length * (ka + p.length + 1) ≤ K) (hk : Fair (K + ka + 1000010)) :
    ret tab.get an 104 [x, y] = some (nPoly (phorn [a, 1] (ptrim p))) := by
  obtain ⟨t, ps, rfl, hp⟩ := hx
  have c1 := cut_ok t hp (by omega)
  have l1 := ptrim_len p
  have e1 : (ps.take (ptrim p).length).length = (ptrim p).length := by rw [List.length_take, hp.len]; omega
  have hp' : AllI (ps.take (ptrim p).length) (ptrim p) := by have := hp.take l1; rwa [← ptrim_take] at this
  have bp' := bp.trim
  have ay := hy.agg
  obtain ⟨ln, hln, hlp⟩ := line_ok hy
  have bl : PBd ka [a, 1] := PBd.two ha (Bd.mono (j := 1) (show (1 : Int).natAbs < 2 ^ 1 by decide) h1a)
  have hKK : kp + (ptrim p).length * (ka + p.length + 1) ≤ K := Nat.le_trans (Nat.add_le_add_left (Nat.mul_le_mul_right _ l1) _) hK
  generalize hP : ps.take (ptrim p).length = PS at *
  generalize htp : nTagP (ptrim p) = tp at *
  generalize ptrim p = P at *
  have hB : ∀ n, n ≤ P.length → PBd K (phorn [a, 1] (P.drop n)) := by
    intro n hn
    refine (phorn_bd (N := p.length) (by simp) bl (bp'.drop n) (by simp; omega)).mono ?_
    refine Nat.le_trans (Nat.add_le_add_left (Nat.mul_le_mul_right _ (by simp)) _) hKK
  have hL : ∀ n, (phorn [a, 1] (P.drop n)).length ≤ 1000000 := fun n => by
    have h1 := phorn_len (l := [a, 1]) (by simp) (P.drop n)
    have h2 : (P.drop n).length ≤ P.length := by simp
    omega
  have lP := hp'.len
  have bK : kp ≤ K := by omega
  refine ret_eq (fn := i104) rfl rfl ?_
  simp -dsimp only [i104]
  simp -dsimp (disch := first | omega | assumption | apply agg_two | apply agg_nInt | apply agg_rInt | (simp only [J1,J2,J3,J4,J5,J6,J7,J8]; omega)) only [i104, ↓i104d0t, i104d0, go_sem,↓reduceIte,reduceCtorEq,Nat.reduceEqDiff,Nat.reduceAdd,Nat.reduceSub,Nat.reduceMul,Nat.reduceLT,Nat.reduceLeDiff,Nat.reduceBEq,Nat.reduceBNe,Int.reduceLT,Int.reduceLE,Int.reduceEq,Int.reduceNeg,Int.reduceAdd,Int.reduceSub,Int.reduceMul,Int.reduceToNat,Int.reducePow,Nat.reducePow, c1, e1]
  refine pW_loop (fun n : Nat => ⟨[(0, .fv (.sl tp PS)), (3, .ptr (.l 0) 2 0 0), (5, .fv (nPoly (phorn [a, 1] (P.drop n)))), (6, .fv (.int .i64 ((n : Int) - 1)))], [], [.own 2 [y]]⟩) (fun n => n ≤ P.length) id P.length (by simp -dsimp (disch := first | omega | assumption | apply agg_two | apply agg_nInt | apply agg_rInt | (simp only [J1,J2,J3,J4,J5,J6,J7,J8]; omega)) only [go_sem,↓reduceIte,reduceCtorEq,Nat.reduceEqDiff,Nat.reduceAdd,Nat.reduceSub,Nat.reduceMul,Nat.reduceLT,Nat.reduceLeDiff,Nat.reduceBEq,Nat.reduceBNe,Int.reduceLT,Int.reduceLE,Int.reduceEq,Int.reduceNeg,Int.reduceAdd,Int.reduceSub,Int.reduceMul,Int.reduceToNat,Int.reducePow,Nat.reducePow, List.drop_length]; rfl) (Nat.le_refl _) ?_
  intro n hn
  rcases Nat.eq_zero_or_pos n with rfl | hpos
  · simp -dsimp only [i104b0]
    simp -dsimp (disch := first | omega | assumption | apply agg_two | apply agg_nInt | apply agg_rInt | (simp only [J1,J2,J3,J4,J5,J6,J7,J8]; omega)) only [i104, ↓i104d0t, i104d0, go_sem,↓reduceIte,reduceCtorEq,Nat.reduceEqDiff,Nat.reduceAdd,Nat.reduceSub,Nat.reduceMul,Nat.reduceLT,Nat.reduceLeDiff,Nat.reduceBEq,Nat.reduceBNe,Int.reduceLT,Int.reduceLE,Int.reduceEq,Int.reduceNeg,Int.reduceAdd,Int.reduceSub,Int.reduceMul,Int.reduceToNat,Int.reducePow,Nat.reducePow]
  · obtain ⟨m, rfl⟩ : ∃ m, n = m + 1 := ⟨n - 1, by omega⟩
    have g1 := getF (ps := PS) (i := m) (by omega)
    have x1 := hp'.at' m (by omega)
    have a1 := x1.agg
    have b1 := hB (m + 1) hn
    have r1 := PMul_ok (nPoly_isP b1 (by omega)) hlp (by have := hL (m + 1); simp; omega) b1 bl (by have := hL (m + 1); omega)
    have b2 := b1.mul bl
    have l2 := pmul_len (phorn [a, 1] (P.drop (m + 1))) [a, 1]
    have l3 := hL (m + 1)
    have b2' := b2.mono (k := K + ka + 1000000) (by omega)
    have b3 : PBd (K + ka + 1000000) [atZ P m] := (PBd.one (bp' m)).mono (by omega)
    have r2 := PAdd_ok (nPoly_isP b2' (by omega)) (single_isP x1 .full) (by simp at l2; omega) (by simp) b2' b3 (by omega)
    have e2 : padd (pmul (phorn [a, 1] (P.drop (m + 1))) [a, 1]) [atZ P m] = phorn [a, 1] (P.drop m) := by rw [drop_cons (zs := P) (i := m) (by omega)]; rfl
    rw [e2] at r2
    simp -dsimp only [i104b0]
    simp -dsimp (disch := first | omega | assumption | apply agg_two | apply agg_nInt | apply agg_rInt | (simp only [J1,J2,J3,J4,J5,J6,J7,J8]; omega)) only [i104, ↓i104d0t, i104d0, go_sem,↓reduceIte,reduceCtorEq,Nat.reduceEqDiff,Nat.reduceAdd,Nat.reduceSub,Nat.reduceMul,Nat.reduceLT,Nat.reduceLeDiff,Nat.reduceBEq,Nat.reduceBNe,Int.reduceLT,Int.reduceLE,Int.reduceEq,Int.reduceNeg,Int.reduceAdd,Int.reduceSub,Int.reduceMul,Int.reduceToNat,Int.reducePow,Nat.reducePow, g1, hln, r1, r2]
    exact next ⟨m, rfl, by omega, by simp⟩
theorem PDeriv_ok {x : FV} {p : List Int} {k : Nat} (hx : IsP x p) (hs : Few p.length) (bp : PBd k p) (hk : Fair (k + 64)) : ret tab.get an 108 [x] = some (nPoly (pderiv p)) := by
  obtain ⟨t, ps, rfl, hp⟩ := hx
  have c1 := cut_ok t hp (by omega)
  have l1 := ptrim_len p
  have e1 : (ps.take (ptrim p).length).length = (ptrim p).length := by rw [List.length_take, hp.len]; omega
  have hp' : AllI (ps.take (ptrim p).length) (ptrim p) := by have := hp.take l1; rwa [← ptrim_take] at this
  have bp' := bp.trim
  have hde : pderiv p = pderiv (ptrim p) := (pderiv_trimd _).ext (pderiv_trimd _) fun i => by rw [at_pderiv, at_pderiv, atZ_ptrim]
  rw [hde]
  generalize hP : ps.take (ptrim p).length = PS at *
  generalize htp : nTagP (ptrim p) = tp at *
  generalize ptrim p = P at *
  have lP := hp'.len
  refine ret_eq (fn := i108) rfl rfl ?_
  simp -dsimp only [i108]
  by_cases h2 : P.length < 2
  · have : pderiv P = [] := by
      refine (pderiv_trimd _).ext (.inl rfl) fun i => ?_
      rw [at_pderiv, atZ_out (by omega), atZ_nil]; omega
    rw [this]
    simp -dsimp (disch := first | omega | assumption | apply agg_two | apply agg_nInt | apply agg_rInt | (simp only [J1,J2,J3,J4,J5,J6,J7,J8]; omega)) only [i108, ↓i108d0t, i108d0, go_sem,↓reduceIte,reduceCtorEq,Nat.reduceEqDiff,Nat.reduceAdd,Nat.reduceSub,Nat.reduceMul,Nat.reduceLT,Nat.reduceLeDiff,Nat.reduceBEq,Nat.reduceBNe,Int.reduceLT,Int.reduceLE,Int.reduceEq,Int.reduceNeg,Int.reduceAdd,Int.reduceSub,Int.reduceMul,Int.reduceToNat,Int.reducePow,Nat.reducePow, c1, e1]
    rfl
  · obtain ⟨m, hm⟩ : ∃ m, P.length - 1 = m := ⟨_, rfl⟩
    simp -dsimp (disch := first | omega | assumption | apply agg_two | apply agg_nInt | apply agg_rInt | (simp only [J1,J2,J3,J4,J5,J6,J7,J8]; omega)) only [i108, ↓i108d0t, i108d0, go_sem,↓reduceIte,reduceCtorEq,Nat.reduceEqDiff,Nat.reduceAdd,Nat.reduceSub,Nat.reduceMul,Nat.reduceLT,Nat.reduceLeDiff,Nat.reduceBEq,Nat.reduceBNe,Int.reduceLT,Int.reduceLE,Int.reduceEq,Int.reduceNeg,Int.reduceAdd,Int.reduceSub,Int.reduceMul,Int.reduceToNat,Int.reducePow,Nat.reducePow, c1, e1, nZeros, hm]
    refine pW_loop (fun i : Nat => ⟨[(0, .fv (.sl tp PS)), (3, .ref (.l 0) 2 0 m true), (15, .fv (.int .i64 (m : Int))), (16, .fv (.int .i64 (i : Int)))], [], [.own 2 (nInts (rng i (fun i => ((i + 1 : Nat) : Int) * atZ P (i + 1)) ++ List.replicate (m - i) 0))]⟩) (fun i => i ≤ m) (fun i => m - i) 0 (by simp -dsimp (disch := first | omega | assumption | apply agg_two | apply agg_nInt | apply agg_rInt | (simp only [J1,J2,J3,J4,J5,J6,J7,J8]; omega)) only [go_sem,↓reduceIte,reduceCtorEq,Nat.reduceEqDiff,Nat.reduceAdd,Nat.reduceSub,Nat.reduceMul,Nat.reduceLT,Nat.reduceLeDiff,Nat.reduceBEq,Nat.reduceBNe,Int.reduceLT,Int.reduceLE,Int.reduceEq,Int.reduceNeg,Int.reduceAdd,Int.reduceSub,Int.reduceMul,Int.reduceToNat,Int.reducePow,Nat.reducePow]; rfl) (by omega) ?_
    intro i hi
    have bo : ∀ i, Bd (k + 64) (((i + 1 : Nat) : Int) * atZ P (i + 1)) := by
      intro i
      by_cases hi : i + 1 < P.length
      · have b1 : Bd 64 ((i + 1 : Nat) : Int) := by
          show ((i + 1 : Nat) : Int).natAbs < 2 ^ 64
          rw [show 2 ^ 64 = 18446744073709551616 from rfl]; omega
        exact (b1.mul (bp' (i + 1))).mono (by omega)
      · rw [atZ_out (by omega), Int.mul_zero]; exact Bd.zero _
    by_cases hlt : i < m
    · have g1 := getF (ps := PS) (i := i + 1) (by omega)
      have x1 := hp'.at' (i + 1) (by omega)
      have a1 := x1.agg
      have b1 : Bd 64 ((i + 1 : Nat) : Int) := by
        show ((i + 1 : Nat) : Int).natAbs < 2 ^ 64
        rw [show 2 ^ 64 = 18446744073709551616 from rfl]; omega
      have r1 := Of_ok (n := ((i + 1 : Nat) : Int)) (by omega) (by omega)
      have r2 := Mul_ok x1 (nInt_I b1 (by omega)) (bp' (i + 1)) b1 (by omega)
      rw [Int.mul_comm] at r2
      have g2 := rng_get (fun i => ((i + 1 : Nat) : Int) * atZ P (i + 1)) hlt
      have g3 := rng_set (fun i => ((i + 1 : Nat) : Int) * atZ P (i + 1)) hlt
      simp -dsimp only [i108b0]
      simp -dsimp (disch := first | omega | assumption | apply agg_two | apply agg_nInt | apply agg_rInt | (simp only [J1,J2,J3,J4,J5,J6,J7,J8]; omega)) only [i108, ↓i108d0t, i108d0, go_sem,↓reduceIte,reduceCtorEq,Nat.reduceEqDiff,Nat.reduceAdd,Nat.reduceSub,Nat.reduceMul,Nat.reduceLT,Nat.reduceLeDiff,Nat.reduceBEq,Nat.reduceBNe,Int.reduceLT,Int.reduceLE,Int.reduceEq,Int.reduceNeg,Int.reduceAdd,Int.reduceSub,Int.reduceMul,Int.reduceToNat,Int.reducePow,Nat.reducePow, g1, r1, r2, g2, nInts_set]
      refine next ⟨i + 1, ?_, by omega, by omega⟩
      rw [g3]
    · have : i = m := by omega
      subst this
      rw [rng_full]
      have hco := cut_own (PBd.rng bo i) hk (by rw [rng_len]; omega)
      have hpm : ptrim (rng i fun i => ((i + 1 : Nat) : Int) * atZ P (i + 1)) = pderiv P := by rw [pderiv, hm]
      rw [rng_len] at hco
      have lr := rngt_len i (fun i => ((i + 1 : Nat) : Int) * atZ P (i + 1))
      have lr2 := rng_len i (fun i => ((i + 1 : Nat) : Int) * atZ P (i + 1))
      rw [← hpm]
      generalize rng i (fun i => ((i + 1 : Nat) : Int) * atZ P (i + 1)) = R at *
      by_cases h0 : ptrim R = []
      · rw [if_pos h0] at hco
        rw [h0]
        simp -dsimp only [i108b0]
        simp -dsimp (disch := first | omega | assumption | apply agg_two | apply agg_nInt | apply agg_rInt | (simp only [J1,J2,J3,J4,J5,J6,J7,J8]; omega)) only [i108, ↓i108d0t, i108d0, go_sem,↓reduceIte,reduceCtorEq,Nat.reduceEqDiff,Nat.reduceAdd,Nat.reduceSub,Nat.reduceMul,Nat.reduceLT,Nat.reduceLeDiff,Nat.reduceBEq,Nat.reduceBNe,Int.reduceLT,Int.reduceLE,Int.reduceEq,Int.reduceNeg,Int.reduceAdd,Int.reduceSub,Int.reduceMul,Int.reduceToNat,Int.reducePow,Nat.reducePow, hco]
        rfl
      · rw [if_neg h0] at hco
        simp -dsimp only [i108b0]
        simp -dsimp (disch := first | omega | assumption | apply agg_two | apply agg_nInt | apply agg_rInt | (simp only [J1,J2,J3,J4,J5,J6,J7,J8]; omega)) only [i108, ↓i108d0t, i108d0, go_sem,↓reduceIte,reduceCtorEq,Nat.reduceEqDiff,Nat.reduceAdd,Nat.reduceSub,Nat.reduceMul,Nat.reduceLT,Nat.reduceLeDiff,Nat.reduceBEq,Nat.reduceBNe,Int.reduceLT,Int.reduceLE,Int.reduceEq,Int.reduceNeg,Int.reduceAdd,Int.reduceSub,Int.reduceMul,Int.reduceToNat,Int.reducePow,Nat.reducePow, hco]
        exact nPoly_take h0
end Go.Proofs.YtklelbidjcealaaGreat
namespace Go.Proofs.YtklelbidjcealaaGreat
open Go Go.Ab
structure AllR (rs : List FV) (zs : List Int) : Prop where
  len : rs.length = zs.length
  at' : ∀ i, i < zs.length → IsR (atF rs i) (atZ zs i)
def IsRP (x : FV) (zs : List Int) : Prop := ∃ t rs, x = .sl t rs ∧ AllR rs zs
theorem AllR.wid {ps : List FV} {zs : List Int} (h : AllR ps zs) : wid 2 ps = true := wid_at fun i hi => len_agg2 (h.at' i (by rw [← h.len]; exact hi)).agg
theorem AllR.agg {ps : List FV} {zs : List Int} (h : AllR ps zs) {i : Nat} (hi : i < zs.length) : Agg 2 (atF ps i) := (h.at' i hi).agg
theorem AllR.take {ps : List FV} {zs : List Int} (h : AllR ps zs) {n : Nat} (hn : n ≤ zs.length) : AllR (ps.take n) (zs.take n) := by
  refine ⟨by simp [h.len], fun i hi => ?_⟩
  rw [List.length_take] at hi
  rw [atF_take (by omega), atZ_take (by omega)]
  exact h.at' i (by omega)
abbrev rInts (zs : List Int) : List FV := zs.map rInt
theorem rInts_All (zs : List Int) : AllR (rInts zs) zs := ⟨by simp, fun i hi => by rw [atF_map hi]; exact rInt_R _⟩
theorem wid_rInts (zs : List Int) : wid 2 (rInts zs) = true := (rInts_All zs).wid
theorem rInts_isRP (t : Tag) (zs : List Int) : IsRP (.sl t (rInts zs)) zs := ⟨t, _, rfl, rInts_All zs⟩
theorem accR_next (k i : Nat) (g : Nat → Int) : accS 2 k (rInts (rng (i + 1) g)) = .ref (.l k) 2 0 (i + 1) true ∧ accL 2 (rInts (rng (i + 1) g)) = [.own 2 (rInts (rng i g) ++ [rInt (g i)])] := by
  have h : rInts (rng (i + 1) g) ≠ [] := by rw [rng_succ]; simp
  rw [accS_ne h, accL_ne h, List.length_map, rng_len, rng_succ]
  simp
theorem accR_pos {k i : Nat} {g : Nat → Int} (h : 0 < i) : accS 2 k (rInts (rng i g)) = .ref (.l k) 2 0 i true ∧ accL 2 (rInts (rng i g)) = [.own 2 (rInts (rng i g))] := by
  have h : rInts (rng i g) ≠ [] := by
    intro h'
    have := congrArg List.length h'
    rw [List.length_map, rng_len] at this
    simp at this; omega
  rw [accS_ne h, accL_ne h, List.length_map, rng_len]
  exact ⟨rfl, rfl⟩
theorem accR_T {i : Nat} {g : Nat → Int} (h : 0 < i) : accT (rInts (rng i g)) = .any := by
  apply accT_ne
  intro h'
  have := congrArg List.length h'
  rw [List.length_map, rng_len, List.length_nil] at this
  omega
theorem accN_next (k i : Nat) (g : Nat → Int) : accS 2 k (nInts (rng (i + 1) g)) = .ref (.l k) 2 0 (i + 1) true ∧ accL 2 (nInts (rng (i + 1) g)) = [.own 2 (nInts (rng i g) ++ [nInt (g i)])] := by
  have h : nInts (rng (i + 1) g) ≠ [] := by rw [rng_succ]; simp
  rw [accS_ne h, accL_ne h, List.length_map, rng_len, rng_succ]
  simp
theorem accN_pos {k i : Nat} {g : Nat → Int} (h : 0 < i) : accS 2 k (nInts (rng i g)) = .ref (.l k) 2 0 i true ∧ accL 2 (nInts (rng i g)) = [.own 2 (nInts (rng i g))] := by
  have h : nInts (rng i g) ≠ [] := by
    intro h'
    have := congrArg List.length h'
    rw [List.length_map, rng_len] at this
    simp at this; omega
  rw [accS_ne h, accL_ne h, List.length_map, rng_len]
  exact ⟨rfl, rfl⟩
theorem RTrim_ok (t : Tag) {ps : List FV} {zs : List Int} (h : AllR ps zs) (hs : Small zs.length) : ret tab.get an 80 [.sl t ps] = some (.sl .full (ps.take (ptrim zs).length)) := by
  have hw := h.wid
  have hlen := h.len
  refine ret_eq (fn := i80) rfl rfl ?_
  simp -dsimp only [i80]
  simp -dsimp (disch := first | omega | assumption | apply agg_two | apply agg_nInt | apply agg_rInt | (simp only [J1,J2,J3,J4,J5,J6,J7,J8]; omega)) only [i80, go_sem,↓reduceIte,reduceCtorEq,Nat.reduceEqDiff,Nat.reduceAdd,Nat.reduceSub,Nat.reduceMul,Nat.reduceLT,Nat.reduceLeDiff,Nat.reduceBEq,Nat.reduceBNe,Int.reduceLT,Int.reduceLE,Int.reduceEq,Int.reduceNeg,Int.reduceAdd,Int.reduceSub,Int.reduceMul,Int.reduceToNat,Int.reducePow,Nat.reducePow]
  refine pW_loop (fun n : Nat => ⟨[(0, .fv (.sl t ps)), (3, .fv (.int .i64 (n : Int)))], [], []⟩) (fun n => n ≤ zs.length ∧ ∀ i, n ≤ i → atZ zs i = 0) id zs.length (by simp -dsimp (disch := first | omega | assumption | apply agg_two | apply agg_nInt | apply agg_rInt | (simp only [J1,J2,J3,J4,J5,J6,J7,J8]; omega)) only [go_sem,↓reduceIte,reduceCtorEq,Nat.reduceEqDiff,Nat.reduceAdd,Nat.reduceSub,Nat.reduceMul,Nat.reduceLT,Nat.reduceLeDiff,Nat.reduceBEq,Nat.reduceBNe,Int.reduceLT,Int.reduceLE,Int.reduceEq,Int.reduceNeg,Int.reduceAdd,Int.reduceSub,Int.reduceMul,Int.reduceToNat,Int.reducePow,Nat.reducePow, hlen]) ⟨Nat.le_refl _, fun i hi => atZ_out hi⟩ ?_
  intro n ⟨hn, h0⟩
  rcases Nat.eq_zero_or_pos n with rfl | hp
  · have h1 : ptrim zs = [] := ptrim_eq_nil.2 fun i => h0 i (by omega)
    simp -dsimp only [i80b0]
    simp -dsimp (disch := first | omega | assumption | apply agg_two | apply agg_nInt | apply agg_rInt | (simp only [J1,J2,J3,J4,J5,J6,J7,J8]; omega)) only [i80, go_sem,↓reduceIte,reduceCtorEq,Nat.reduceEqDiff,Nat.reduceAdd,Nat.reduceSub,Nat.reduceMul,Nat.reduceLT,Nat.reduceLeDiff,Nat.reduceBEq,Nat.reduceBNe,Int.reduceLT,Int.reduceLE,Int.reduceEq,Int.reduceNeg,Int.reduceAdd,Int.reduceSub,Int.reduceMul,Int.reduceToNat,Int.reducePow,Nat.reducePow, hw]
    rw [h1]; simp [cutL]
  · obtain ⟨m, rfl⟩ : ∃ m, n = m + 1 := ⟨n - 1, by omega⟩
    have hx := h.at' m (by omega)
    have hsg := RSign_ok hx
    have hg := getF (ps := ps) (i := m) (by omega)
    have ag := hx.agg
    by_cases hv0 : atZ zs m = 0
    · have hz : (atZ zs m).sign = 0 := by rw [hv0]; rfl
      rw [hz] at hsg
      simp -dsimp only [i80b0]
      simp -dsimp (disch := first | omega | assumption | apply agg_two | apply agg_nInt | apply agg_rInt | (simp only [J1,J2,J3,J4,J5,J6,J7,J8]; omega)) only [i80, go_sem,↓reduceIte,reduceCtorEq,Nat.reduceEqDiff,Nat.reduceAdd,Nat.reduceSub,Nat.reduceMul,Nat.reduceLT,Nat.reduceLeDiff,Nat.reduceBEq,Nat.reduceBNe,Int.reduceLT,Int.reduceLE,Int.reduceEq,Int.reduceNeg,Int.reduceAdd,Int.reduceSub,Int.reduceMul,Int.reduceToNat,Int.reducePow,Nat.reducePow, hg, hsg]
      refine next ⟨m, rfl, ⟨by omega, fun i hi => ?_⟩, by simp⟩
      rcases Nat.lt_or_ge m i with h2 | h2
      · exact h0 i h2
      · rw [show i = m by omega]; exact hv0
    · have hz : (atZ zs m).sign ≠ 0 := fun h => hv0 (Int.sign_eq_zero_iff_zero.1 h)
      obtain ⟨e1, e2⟩ := ptrim_at hn h0 (.inr hv0)
      simp -dsimp only [i80b0]
      simp -dsimp (disch := first | omega | assumption | apply agg_two | apply agg_nInt | apply agg_rInt | (simp only [J1,J2,J3,J4,J5,J6,J7,J8]; omega)) only [i80, go_sem,↓reduceIte,reduceCtorEq,Nat.reduceEqDiff,Nat.reduceAdd,Nat.reduceSub,Nat.reduceMul,Nat.reduceLT,Nat.reduceLeDiff,Nat.reduceBEq,Nat.reduceBNe,Int.reduceLT,Int.reduceLE,Int.reduceEq,Int.reduceNeg,Int.reduceAdd,Int.reduceSub,Int.reduceMul,Int.reduceToNat,Int.reducePow,Nat.reducePow, hg, hsg, hw]
      rw [e2, cutL, List.drop_zero]
theorem RTrim_R (t : Tag) {ps : List FV} {zs : List Int} (h : AllR ps zs) (hs : Small zs.length) : ∃ y, ret tab.get an 80 [.sl t ps] = some y ∧ IsRP y (ptrim zs) := by
  refine ⟨_, RTrim_ok t h hs, _, _, rfl, ?_⟩
  have := h.take (ptrim_len zs)
  rwa [← ptrim_take] at this
def Lims (x : FV) : Prop := ∀ b t xs, x = .agg [.bool b, .sl t (u32s xs)] → xs.length ≤ 100000000000
theorem RPFrom_ok {x : FV} {zs : List Int} (h : IsP x zs) (hs : Few zs.length) (hl : ∀ t ps, x = .sl t ps → ∀ i, i < ps.length → Lims (atF ps i)) : ∃ y, ret tab.get an 25 [x] = some y ∧ IsRP y (ptrim zs) := by
  obtain ⟨t, ps, rfl, h⟩ := h
  have hl := hl t ps rfl
  have hlen := h.len
  obtain ⟨y, hy, hr⟩ := RTrim_R (accT (rInts (rng zs.length (atZ zs)))) (rInts_All (rng zs.length (atZ zs))) (by rw [rng_len]; omega)
  rw [rng_of_at] at hr
  refine ⟨y, ?_, hr⟩
  refine ret_eq (fn := i25) rfl rfl ?_
  simp -dsimp only [i25]
  simp -dsimp (disch := first | omega | assumption | apply agg_two | apply agg_nInt | apply agg_rInt | (simp only [J1,J2,J3,J4,J5,J6,J7,J8]; omega)) only [i25, go_sem,↓reduceIte,reduceCtorEq,Nat.reduceEqDiff,Nat.reduceAdd,Nat.reduceSub,Nat.reduceMul,Nat.reduceLT,Nat.reduceLeDiff,Nat.reduceBEq,Nat.reduceBNe,Int.reduceLT,Int.reduceLE,Int.reduceEq,Int.reduceNeg,Int.reduceAdd,Int.reduceSub,Int.reduceMul,Int.reduceToNat,Int.reducePow,Nat.reducePow]
  refine pW_loop (fun i : Nat => ⟨[(0, .fv (.sl t ps)), (3, accS 2 0 (rInts (rng i (atZ zs)))), (4, .fv (.int .i64 (i : Int)))], [], accL 2 (rInts (rng i (atZ zs)))⟩) (fun i => i ≤ zs.length) (fun i => zs.length - i) 0 (by simp -dsimp (disch := first | omega | assumption | apply agg_two | apply agg_nInt | apply agg_rInt | (simp only [J1,J2,J3,J4,J5,J6,J7,J8]; omega)) only [go_sem,↓reduceIte,reduceCtorEq,Nat.reduceEqDiff,Nat.reduceAdd,Nat.reduceSub,Nat.reduceMul,Nat.reduceLT,Nat.reduceLeDiff,Nat.reduceBEq,Nat.reduceBNe,Int.reduceLT,Int.reduceLE,Int.reduceEq,Int.reduceNeg,Int.reduceAdd,Int.reduceSub,Int.reduceMul,Int.reduceToNat,Int.reducePow,Nat.reducePow]; rfl) (by omega) ?_
  intro i hi
  have hacc : (i = 0 ∨ 0 < i) := by omega
  by_cases hlt : i < zs.length
  · have g1 := getF (ps := ps) (i := i) (by omega)
    have x1 := h.at' i hlt
    have a1 := x1.agg
    have r1 := From_ok x1 (hl i (by omega))
    obtain ⟨f1, f2⟩ := accR_next 0 i (atZ zs)
    rcases hacc with rfl | hp
    · simp -dsimp only [i25b0]
      simp -dsimp (disch := first | omega | assumption | apply agg_two | apply agg_nInt | apply agg_rInt | (simp only [J1,J2,J3,J4,J5,J6,J7,J8]; omega)) only [i25, go_sem,↓reduceIte,reduceCtorEq,Nat.reduceEqDiff,Nat.reduceAdd,Nat.reduceSub,Nat.reduceMul,Nat.reduceLT,Nat.reduceLeDiff,Nat.reduceBEq,Nat.reduceBNe,Int.reduceLT,Int.reduceLE,Int.reduceEq,Int.reduceNeg,Int.reduceAdd,Int.reduceSub,Int.reduceMul,Int.reduceToNat,Int.reducePow,Nat.reducePow, g1, r1, rng_zero, List.map_nil]
      refine next ⟨1, ?_, by omega, by omega⟩
      rw [f1, f2]; rfl
    · obtain ⟨f3, f4⟩ := accR_pos (k := 0) (g := atZ zs) hp
      have lr := rng_len i (atZ zs)
      simp -dsimp only [i25b0]
      simp -dsimp (disch := first | omega | assumption | apply agg_two | apply agg_nInt | apply agg_rInt | (simp only [J1,J2,J3,J4,J5,J6,J7,J8]; omega)) only [i25, go_sem,↓reduceIte,reduceCtorEq,Nat.reduceEqDiff,Nat.reduceAdd,Nat.reduceSub,Nat.reduceMul,Nat.reduceLT,Nat.reduceLeDiff,Nat.reduceBEq,Nat.reduceBNe,Int.reduceLT,Int.reduceLE,Int.reduceEq,Int.reduceNeg,Int.reduceAdd,Int.reduceSub,Int.reduceMul,Int.reduceToNat,Int.reducePow,Nat.reducePow, g1, r1, f3, f4, lr]
      refine next ⟨i + 1, ?_, by omega, by omega⟩
      rw [f1, f2]
  · have : i = zs.length := by omega
    subst this
    rcases Nat.eq_zero_or_pos zs.length with h0 | hp
    · have : zs = [] := List.eq_nil_of_length_eq_zero h0
      subst this
      have hy : ret tab.get an 80 [.sl .nil []] = some y := hy
      simp -dsimp only [i25b0]
      simp -dsimp (disch := first | omega | assumption | apply agg_two | apply agg_nInt | apply agg_rInt | (simp only [J1,J2,J3,J4,J5,J6,J7,J8]; omega)) only [i25, go_sem,↓reduceIte,reduceCtorEq,Nat.reduceEqDiff,Nat.reduceAdd,Nat.reduceSub,Nat.reduceMul,Nat.reduceLT,Nat.reduceLeDiff,Nat.reduceBEq,Nat.reduceBNe,Int.reduceLT,Int.reduceLE,Int.reduceEq,Int.reduceNeg,Int.reduceAdd,Int.reduceSub,Int.reduceMul,Int.reduceToNat,Int.reducePow,Nat.reducePow, hy, rng_zero, List.map_nil]
    · obtain ⟨f3, f4⟩ := accR_pos (k := 0) (g := atZ zs) hp
      have lr := rng_len zs.length (atZ zs)
      have ht : accT (rInts (rng zs.length (atZ zs))) = .any := accR_T hp
      rw [ht] at hy
      simp -dsimp only [i25b0]
      simp -dsimp (disch := first | omega | assumption | apply agg_two | apply agg_nInt | apply agg_rInt | (simp only [J1,J2,J3,J4,J5,J6,J7,J8]; omega)) only [i25, go_sem,↓reduceIte,reduceCtorEq,Nat.reduceEqDiff,Nat.reduceAdd,Nat.reduceSub,Nat.reduceMul,Nat.reduceLT,Nat.reduceLeDiff,Nat.reduceBEq,Nat.reduceBNe,Int.reduceLT,Int.reduceLE,Int.reduceEq,Int.reduceNeg,Int.reduceAdd,Int.reduceSub,Int.reduceMul,Int.reduceToNat,Int.reducePow,Nat.reducePow, f3, f4, lr, hy]
end Go.Proofs.YtklelbidjcealaaGreat
namespace Go.Proofs.YtklelbidjcealaaGreat
open Go Go.Ab
theorem RPTo_ok {x : FV} {zs : List Int} {k : Nat} (h : IsRP x zs) (hs : Few zs.length) (hb : PBd k zs) (hk : Fair k) : ret tab.get an 41 [x] = some (nPoly zs) := by
  obtain ⟨t, rs, rfl, h⟩ := h
  have hlen := h.len
  refine ret_eq (fn := i41) rfl rfl ?_
  simp -dsimp only [i41]
  simp -dsimp (disch := first | omega | assumption | apply agg_two | apply agg_nInt | apply agg_rInt | (simp only [J1,J2,J3,J4,J5,J6,J7,J8]; omega)) only [i41, go_sem,↓reduceIte,reduceCtorEq,Nat.reduceEqDiff,Nat.reduceAdd,Nat.reduceSub,Nat.reduceMul,Nat.reduceLT,Nat.reduceLeDiff,Nat.reduceBEq,Nat.reduceBNe,Int.reduceLT,Int.reduceLE,Int.reduceEq,Int.reduceNeg,Int.reduceAdd,Int.reduceSub,Int.reduceMul,Int.reduceToNat,Int.reducePow,Nat.reducePow]
  refine pW_loop (fun i : Nat => ⟨[(0, .fv (.sl t rs)), (3, accS 2 0 (nInts (rng i (atZ zs)))), (4, .fv (.int .i64 (i : Int)))], [], accL 2 (nInts (rng i (atZ zs)))⟩) (fun i => i ≤ zs.length) (fun i => zs.length - i) 0 (by simp -dsimp (disch := first | omega | assumption | apply agg_two | apply agg_nInt | apply agg_rInt | (simp only [J1,J2,J3,J4,J5,J6,J7,J8]; omega)) only [go_sem,↓reduceIte,reduceCtorEq,Nat.reduceEqDiff,Nat.reduceAdd,Nat.reduceSub,Nat.reduceMul,Nat.reduceLT,Nat.reduceLeDiff,Nat.reduceBEq,Nat.reduceBNe,Int.reduceLT,Int.reduceLE,Int.reduceEq,Int.reduceNeg,Int.reduceAdd,Int.reduceSub,Int.reduceMul,Int.reduceToNat,Int.reducePow,Nat.reducePow]; rfl) (by omega) ?_
  intro i hi
  have hacc : (i = 0 ∨ 0 < i) := by omega
  by_cases hlt : i < zs.length
  · have g1 := getF (ps := rs) (i := i) (by omega)
    have x1 := h.at' i hlt
    have a1 := x1.agg
    have r1 := To_ok x1 (hb i) hk
    obtain ⟨f1, f2⟩ := accN_next 0 i (atZ zs)
    rcases hacc with rfl | hp
    · simp -dsimp only [i41b0]
      simp -dsimp (disch := first | omega | assumption | apply agg_two | apply agg_nInt | apply agg_rInt | (simp only [J1,J2,J3,J4,J5,J6,J7,J8]; omega)) only [i41, go_sem,↓reduceIte,reduceCtorEq,Nat.reduceEqDiff,Nat.reduceAdd,Nat.reduceSub,Nat.reduceMul,Nat.reduceLT,Nat.reduceLeDiff,Nat.reduceBEq,Nat.reduceBNe,Int.reduceLT,Int.reduceLE,Int.reduceEq,Int.reduceNeg,Int.reduceAdd,Int.reduceSub,Int.reduceMul,Int.reduceToNat,Int.reducePow,Nat.reducePow, g1, r1, rng_zero, List.map_nil]
      refine next ⟨1, ?_, by omega, by omega⟩
      rw [f1, f2]; rfl
    · obtain ⟨f3, f4⟩ := accN_pos (k := 0) (g := atZ zs) hp
      have lr := rng_len i (atZ zs)
      simp -dsimp only [i41b0]
      simp -dsimp (disch := first | omega | assumption | apply agg_two | apply agg_nInt | apply agg_rInt | (simp only [J1,J2,J3,J4,J5,J6,J7,J8]; omega)) only [i41, go_sem,↓reduceIte,reduceCtorEq,Nat.reduceEqDiff,Nat.reduceAdd,Nat.reduceSub,Nat.reduceMul,Nat.reduceLT,Nat.reduceLeDiff,Nat.reduceBEq,Nat.reduceBNe,Int.reduceLT,Int.reduceLE,Int.reduceEq,Int.reduceNeg,Int.reduceAdd,Int.reduceSub,Int.reduceMul,Int.reduceToNat,Int.reducePow,Nat.reducePow, g1, r1, f3, f4, lr]
      refine next ⟨i + 1, ?_, by omega, by omega⟩
      rw [f1, f2]
  · have : i = zs.length := by omega
    subst this
    rcases Nat.eq_zero_or_pos zs.length with h0 | hp
    · have : zs = [] := List.eq_nil_of_length_eq_zero h0
      subst this
      simp -dsimp only [i41b0]
      simp -dsimp (disch := first | omega | assumption | apply agg_two | apply agg_nInt | apply agg_rInt | (simp only [J1,J2,J3,J4,J5,J6,J7,J8]; omega)) only [i41, go_sem,↓reduceIte,reduceCtorEq,Nat.reduceEqDiff,Nat.reduceAdd,Nat.reduceSub,Nat.reduceMul,Nat.reduceLT,Nat.reduceLeDiff,Nat.reduceBEq,Nat.reduceBNe,Int.reduceLT,Int.reduceLE,Int.reduceEq,Int.reduceNeg,Int.reduceAdd,Int.reduceSub,Int.reduceMul,Int.reduceToNat,Int.reducePow,Nat.reducePow, rng_zero, List.map_nil]
      rfl
    · obtain ⟨f3, f4⟩ := accN_pos (k := 0) (g := atZ zs) hp
      have lr := rng_len zs.length (atZ zs)
      simp -dsimp only [i41b0]
      simp -dsimp (disch := first | omega | assumption | apply agg_two | apply agg_nInt | apply agg_rInt | (simp only [J1,J2,J3,J4,J5,J6,J7,J8]; omega)) only [i41, go_sem,↓reduceIte,reduceCtorEq,Nat.reduceEqDiff,Nat.reduceAdd,Nat.reduceSub,Nat.reduceMul,Nat.reduceLT,Nat.reduceLeDiff,Nat.reduceBEq,Nat.reduceBNe,Int.reduceLT,Int.reduceLE,Int.reduceEq,Int.reduceNeg,Int.reduceAdd,Int.reduceSub,Int.reduceMul,Int.reduceToNat,Int.reducePow,Nat.reducePow, f3, f4, lr]
      rw [rng_of_at, nPoly, nTagP, if_neg (by intro h; rw [h] at hp; simp at hp)]
theorem RAt_ok {x : FV} {zs : List Int} {i : Nat} (h : IsRP x zs) (hs : Few zs.length) : ∃ y, ret tab.get an 143 [x, .int .i64 (i : Int)] = some y ∧ IsR y (atZ zs i) := by
  obtain ⟨t, rs, rfl, h⟩ := h
  have hlen := h.len
  have h0 := ROf_ok (n := 0) (by omega) (by omega)
  have ag0 := agg_rInt 0
  by_cases hi : i < zs.length
  · have g1 := getF (ps := rs) (i := i) (by omega)
    have x1 := h.at' i hi
    have a1 := x1.agg
    refine ⟨atF rs i, ?_, x1⟩
    refine ret_eq (fn := i143) rfl rfl ?_
    simp -dsimp only [i143]
    simp -dsimp (disch := first | omega | assumption | apply agg_two | apply agg_nInt | apply agg_rInt | (simp only [J1,J2,J3,J4,J5,J6,J7,J8]; omega)) only [i143, go_sem,↓reduceIte,reduceCtorEq,Nat.reduceEqDiff,Nat.reduceAdd,Nat.reduceSub,Nat.reduceMul,Nat.reduceLT,Nat.reduceLeDiff,Nat.reduceBEq,Nat.reduceBNe,Int.reduceLT,Int.reduceLE,Int.reduceEq,Int.reduceNeg,Int.reduceAdd,Int.reduceSub,Int.reduceMul,Int.reduceToNat,Int.reducePow,Nat.reducePow, g1]
  · refine ⟨rInt 0, ?_, by rw [atZ_out (by omega)]; exact rInt_R 0⟩
    refine ret_eq (fn := i143) rfl rfl ?_
    simp -dsimp only [i143]
    simp -dsimp (disch := first | omega | assumption | apply agg_two | apply agg_nInt | apply agg_rInt | (simp only [J1,J2,J3,J4,J5,J6,J7,J8]; omega)) only [i143, go_sem,↓reduceIte,reduceCtorEq,Nat.reduceEqDiff,Nat.reduceAdd,Nat.reduceSub,Nat.reduceMul,Nat.reduceLT,Nat.reduceLeDiff,Nat.reduceBEq,Nat.reduceBNe,Int.reduceLT,Int.reduceLE,Int.reduceEq,Int.reduceNeg,Int.reduceAdd,Int.reduceSub,Int.reduceMul,Int.reduceToNat,Int.reducePow,Nat.reducePow, h0]
theorem RLead_ok {x : FV} {zs : List Int} (h : IsRP x zs) (hs : Few zs.length) : ∃ y, ret tab.get an 91 [x] = some y ∧ IsR y (atZ zs (zs.length - 1)) := by
  by_cases h0 : zs.length = 0
  · obtain ⟨t, rs, rfl, h⟩ := h
    have hlen := h.len
    have hof := ROf_ok (n := 0) (by omega) (by omega)
    have ag0 := agg_rInt 0
    have hat : ret tab.get an 143 [.sl t rs, .int .i64 (-1)] = some (rInt 0) := by
      refine ret_eq (fn := i143) rfl rfl ?_
      simp -dsimp only [i143]
      simp -dsimp (disch := first | omega | assumption | apply agg_two | apply agg_nInt | apply agg_rInt | (simp only [J1,J2,J3,J4,J5,J6,J7,J8]; omega)) only [i143, go_sem,↓reduceIte,reduceCtorEq,Nat.reduceEqDiff,Nat.reduceAdd,Nat.reduceSub,Nat.reduceMul,Nat.reduceLT,Nat.reduceLeDiff,Nat.reduceBEq,Nat.reduceBNe,Int.reduceLT,Int.reduceLE,Int.reduceEq,Int.reduceNeg,Int.reduceAdd,Int.reduceSub,Int.reduceMul,Int.reduceToNat,Int.reducePow,Nat.reducePow, hof]
    refine ⟨rInt 0, ?_, by rw [atZ_out (by omega)]; exact rInt_R 0⟩
    have hw : IntKind.i64.wrap (((zs.length : Nat) : Int) - 1) = -1 := by rw [h0]; rfl
    refine ret_eq (fn := i91) rfl rfl ?_
    simp -dsimp only [i91]
    simp -dsimp (disch := first | omega | assumption | apply agg_two | apply agg_nInt | apply agg_rInt | (simp only [J1,J2,J3,J4,J5,J6,J7,J8]; omega)) only [i91, go_sem,↓reduceIte,reduceCtorEq,Nat.reduceEqDiff,Nat.reduceAdd,Nat.reduceSub,Nat.reduceMul,Nat.reduceLT,Nat.reduceLeDiff,Nat.reduceBEq,Nat.reduceBNe,Int.reduceLT,Int.reduceLE,Int.reduceEq,Int.reduceNeg,Int.reduceAdd,Int.reduceSub,Int.reduceMul,Int.reduceToNat,Int.reducePow,Nat.reducePow, hlen, hw, hat]
  · obtain ⟨y, hy, hr⟩ := RAt_ok (i := zs.length - 1) h hs
    obtain ⟨t, rs, rfl, h⟩ := h
    have hlen := h.len
    refine ⟨y, ?_, hr⟩
    have a1 := hr.agg
    refine ret_eq (fn := i91) rfl rfl ?_
    simp -dsimp only [i91]
    simp -dsimp (disch := first | omega | assumption | apply agg_two | apply agg_nInt | apply agg_rInt | (simp only [J1,J2,J3,J4,J5,J6,J7,J8]; omega)) only [i91, go_sem,↓reduceIte,reduceCtorEq,Nat.reduceEqDiff,Nat.reduceAdd,Nat.reduceSub,Nat.reduceMul,Nat.reduceLT,Nat.reduceLeDiff,Nat.reduceBEq,Nat.reduceBNe,Int.reduceLT,Int.reduceLE,Int.reduceEq,Int.reduceNeg,Int.reduceAdd,Int.reduceSub,Int.reduceMul,Int.reduceToNat,Int.reducePow,Nat.reducePow, hlen, hy]
theorem RPBits_ok {x : FV} {zs : List Int} {k : Nat} (h : IsRP x zs) (hb : PBd k zs) (hk : Fair k) (hs : Few zs.length) : ret tab.get an 97 [x] = some (.int .i64 (pbits zs zs.length : Nat)) := by
  obtain ⟨t, ps, rfl, h⟩ := h
  have hlen := h.len
  refine ret_eq (fn := i97) rfl rfl ?_
  simp -dsimp only [i97]
  simp -dsimp (disch := first | omega | assumption | apply agg_two | apply agg_nInt | apply agg_rInt | (simp only [J1,J2,J3,J4,J5,J6,J7,J8]; omega)) only [i97, go_sem,↓reduceIte,reduceCtorEq,Nat.reduceEqDiff,Nat.reduceAdd,Nat.reduceSub,Nat.reduceMul,Nat.reduceLT,Nat.reduceLeDiff,Nat.reduceBEq,Nat.reduceBNe,Int.reduceLT,Int.reduceLE,Int.reduceEq,Int.reduceNeg,Int.reduceAdd,Int.reduceSub,Int.reduceMul,Int.reduceToNat,Int.reducePow,Nat.reducePow]
  refine pW_loop (fun i : Nat => ⟨[(0, .fv (.sl t ps)), (3, .fv (.int .i64 (pbits zs i : Nat))), (4, .fv (.int .i64 (i : Int)))], [], []⟩) (fun i => i ≤ zs.length) (fun i => zs.length - i) 0 (by simp -dsimp (disch := first | omega | assumption | apply agg_two | apply agg_nInt | apply agg_rInt | (simp only [J1,J2,J3,J4,J5,J6,J7,J8]; omega)) only [go_sem,↓reduceIte,reduceCtorEq,Nat.reduceEqDiff,Nat.reduceAdd,Nat.reduceSub,Nat.reduceMul,Nat.reduceLT,Nat.reduceLeDiff,Nat.reduceBEq,Nat.reduceBNe,Int.reduceLT,Int.reduceLE,Int.reduceEq,Int.reduceNeg,Int.reduceAdd,Int.reduceSub,Int.reduceMul,Int.reduceToNat,Int.reducePow,Nat.reducePow]; rfl) (by omega) ?_
  intro i hi
  by_cases hlt : i < zs.length
  · have hg := getF (ps := ps) (i := i) (by omega)
    have ag := h.agg hlt
    have h1 := RBits_ok (h.at' i hlt) (hb i) hk
    have h2 := pbits_le hb i
    have h3 := blen_le (hb i)
    by_cases hm : blen (atZ zs i).natAbs > pbits zs i
    · simp -dsimp only [i97b0]
      simp -dsimp (disch := first | omega | assumption | apply agg_two | apply agg_nInt | apply agg_rInt | (simp only [J1,J2,J3,J4,J5,J6,J7,J8]; omega)) only [i97, go_sem,↓reduceIte,reduceCtorEq,Nat.reduceEqDiff,Nat.reduceAdd,Nat.reduceSub,Nat.reduceMul,Nat.reduceLT,Nat.reduceLeDiff,Nat.reduceBEq,Nat.reduceBNe,Int.reduceLT,Int.reduceLE,Int.reduceEq,Int.reduceNeg,Int.reduceAdd,Int.reduceSub,Int.reduceMul,Int.reduceToNat,Int.reducePow,Nat.reducePow, hg, h1]
      refine next ⟨i + 1, ?_, by omega, by omega⟩
      rw [pbits_succ, Nat.max_eq_right (by omega)]
    · simp -dsimp only [i97b0]
      simp -dsimp (disch := first | omega | assumption | apply agg_two | apply agg_nInt | apply agg_rInt | (simp only [J1,J2,J3,J4,J5,J6,J7,J8]; omega)) only [i97, go_sem,↓reduceIte,reduceCtorEq,Nat.reduceEqDiff,Nat.reduceAdd,Nat.reduceSub,Nat.reduceMul,Nat.reduceLT,Nat.reduceLeDiff,Nat.reduceBEq,Nat.reduceBNe,Int.reduceLT,Int.reduceLE,Int.reduceEq,Int.reduceNeg,Int.reduceAdd,Int.reduceSub,Int.reduceMul,Int.reduceToNat,Int.reducePow,Nat.reducePow, hg, h1]
      refine next ⟨i + 1, ?_, by omega, by omega⟩
      rw [pbits_succ, Nat.max_eq_left (by omega)]
  · have : i = zs.length := by omega
    subst this
    simp -dsimp only [i97b0]
    simp -dsimp (disch := first | omega | assumption | apply agg_two | apply agg_nInt | apply agg_rInt | (simp only [J1,J2,J3,J4,J5,J6,J7,J8]; omega)) only [i97, go_sem,↓reduceIte,reduceCtorEq,Nat.reduceEqDiff,Nat.reduceAdd,Nat.reduceSub,Nat.reduceMul,Nat.reduceLT,Nat.reduceLeDiff,Nat.reduceBEq,Nat.reduceBNe,Int.reduceLT,Int.reduceLE,Int.reduceEq,Int.reduceNeg,Int.reduceAdd,Int.reduceSub,Int.reduceMul,Int.reduceToNat,Int.reducePow,Nat.reducePow]
theorem RPAdd_ok {x y : FV} {p q : List Int} {k : Nat} (hx : IsRP x p) (hy : IsRP y q) (hs : Few p.length) (hs' : Few q.length) (bp : PBd k p) (bq : PBd k q) (hk : Fair k) : ∃ y', ret tab.get an 98 [x, y] = some y' ∧ IsRP y' (padd p q) := by
  obtain ⟨m, hm, hmx, hm1, hm2⟩ : ∃ m, m = max p.length q.length ∧ Few m ∧ p.length ≤ m ∧ q.length ≤ m := ⟨_, rfl, by omega, by omega, by omega⟩
  have hat1 := fun i => RAt_ok (i := i) hx hs
  have hat2 := fun i => RAt_ok (i := i) hy hs'
  obtain ⟨z, hz, hr⟩ := RTrim_R (accT (rInts (rng m fun i => atZ p i + atZ q i))) (rInts_All (rng m fun i => atZ p i + atZ q i)) (by rw [rng_len]; omega)
  rw [hm, show ptrim (rng (max p.length q.length) fun i => atZ p i + atZ q i) = padd p q from rfl] at hr
  refine ⟨z, ?_, hr⟩
  obtain ⟨t, ps, rfl, hp⟩ := hx
  obtain ⟨t', qs, rfl, hq⟩ := hy
  have n1 := hp.len
  have n2 := hq.len
  generalize hg : (fun i => atZ p i + atZ q i) = g at *
  have hgi : ∀ i, atZ p i + atZ q i = g i := fun i => by rw [← hg]
  refine ret_eq (fn := i98) rfl rfl ?_
  simp -dsimp only [i98]
  simp -dsimp (disch := first | omega | assumption | apply agg_two | apply agg_nInt | apply agg_rInt | (simp only [J1,J2,J3,J4,J5,J6,J7,J8]; omega)) only [i98, go_sem,↓reduceIte,reduceCtorEq,Nat.reduceEqDiff,Nat.reduceAdd,Nat.reduceSub,Nat.reduceMul,Nat.reduceLT,Nat.reduceLeDiff,Nat.reduceBEq,Nat.reduceBNe,Int.reduceLT,Int.reduceLE,Int.reduceEq,Int.reduceNeg,Int.reduceAdd,Int.reduceSub,Int.reduceMul,Int.reduceToNat,Int.reducePow,Nat.reducePow]
  refine pW_loop (fun i : Nat => ⟨[(0, .fv (.sl t ps)), (1, .fv (.sl t' qs)), (5, accS 2 0 (rInts (rng i g))), (6, .fv (.int .i64 (i : Int)))], [], accL 2 (rInts (rng i g))⟩) (fun i => i ≤ m) (fun i => m - i) 0 (by simp -dsimp (disch := first | omega | assumption | apply agg_two | apply agg_nInt | apply agg_rInt | (simp only [J1,J2,J3,J4,J5,J6,J7,J8]; omega)) only [go_sem,↓reduceIte,reduceCtorEq,Nat.reduceEqDiff,Nat.reduceAdd,Nat.reduceSub,Nat.reduceMul,Nat.reduceLT,Nat.reduceLeDiff,Nat.reduceBEq,Nat.reduceBNe,Int.reduceLT,Int.reduceLE,Int.reduceEq,Int.reduceNeg,Int.reduceAdd,Int.reduceSub,Int.reduceMul,Int.reduceToNat,Int.reducePow,Nat.reducePow]; rfl) (by omega) ?_
  intro i hi
  have hacc : (i = 0 ∨ 0 < i) := by omega
  obtain ⟨f1, f2⟩ := accR_next 0 i g
  have lr := rng_len i g
  by_cases hlt : i < m
  · obtain ⟨y1, r1, z1⟩ := hat1 i
    obtain ⟨y2, r2, z2⟩ := hat2 i
    have a1 := z1.agg
    have a2 := z2.agg
    have r3 := RAdd_ok z1 z2 (bp i) (bq i) hk
    rw [hgi] at r3
    by_cases hip : i < p.length
    · rcases hacc with rfl | hpos
      · simp only [Int.natCast_zero] at r1 r2
        simp -dsimp only [i98b0]
        simp -dsimp (disch := first | omega | assumption | apply agg_two | apply agg_nInt | apply agg_rInt | (simp only [J1,J2,J3,J4,J5,J6,J7,J8]; omega)) only [i98, go_sem,↓reduceIte,reduceCtorEq,Nat.reduceEqDiff,Nat.reduceAdd,Nat.reduceSub,Nat.reduceMul,Nat.reduceLT,Nat.reduceLeDiff,Nat.reduceBEq,Nat.reduceBNe,Int.reduceLT,Int.reduceLE,Int.reduceEq,Int.reduceNeg,Int.reduceAdd,Int.reduceSub,Int.reduceMul,Int.reduceToNat,Int.reducePow,Nat.reducePow, r1, r2, r3, rng_zero, List.map_nil]
        refine next ⟨1, ?_, by omega, by omega⟩
        rw [f1, f2]; rfl
      · obtain ⟨f3, f4⟩ := accR_pos (k := 0) (g := g) hpos
        simp -dsimp only [i98b0]
        simp -dsimp (disch := first | omega | assumption | apply agg_two | apply agg_nInt | apply agg_rInt | (simp only [J1,J2,J3,J4,J5,J6,J7,J8]; omega)) only [i98, go_sem,↓reduceIte,reduceCtorEq,Nat.reduceEqDiff,Nat.reduceAdd,Nat.reduceSub,Nat.reduceMul,Nat.reduceLT,Nat.reduceLeDiff,Nat.reduceBEq,Nat.reduceBNe,Int.reduceLT,Int.reduceLE,Int.reduceEq,Int.reduceNeg,Int.reduceAdd,Int.reduceSub,Int.reduceMul,Int.reduceToNat,Int.reducePow,Nat.reducePow, r1, r2, r3, f3, f4, lr]
        refine next ⟨i + 1, ?_, by omega, by omega⟩
        rw [f1, f2]
    · rcases hacc with rfl | hpos
      · simp only [Int.natCast_zero] at r1 r2
        simp -dsimp only [i98b0]
        simp -dsimp (disch := first | omega | assumption | apply agg_two | apply agg_nInt | apply agg_rInt | (simp only [J1,J2,J3,J4,J5,J6,J7,J8]; omega)) only [i98, go_sem,↓reduceIte,reduceCtorEq,Nat.reduceEqDiff,Nat.reduceAdd,Nat.reduceSub,Nat.reduceMul,Nat.reduceLT,Nat.reduceLeDiff,Nat.reduceBEq,Nat.reduceBNe,Int.reduceLT,Int.reduceLE,Int.reduceEq,Int.reduceNeg,Int.reduceAdd,Int.reduceSub,Int.reduceMul,Int.reduceToNat,Int.reducePow,Nat.reducePow, r1, r2, r3, rng_zero, List.map_nil]
        refine next ⟨1, ?_, by omega, by omega⟩
        rw [f1, f2]; rfl
      · obtain ⟨f3, f4⟩ := accR_pos (k := 0) (g := g) hpos
        simp -dsimp only [i98b0]
        simp -dsimp (disch := first | omega | assumption | apply agg_two | apply agg_nInt | apply agg_rInt | (simp only [J1,J2,J3,J4,J5,J6,J7,J8]; omega)) only [i98, go_sem,↓reduceIte,reduceCtorEq,Nat.reduceEqDiff,Nat.reduceAdd,Nat.reduceSub,Nat.reduceMul,Nat.reduceLT,Nat.reduceLeDiff,Nat.reduceBEq,Nat.reduceBNe,Int.reduceLT,Int.reduceLE,Int.reduceEq,Int.reduceNeg,Int.reduceAdd,Int.reduceSub,Int.reduceMul,Int.reduceToNat,Int.reducePow,Nat.reducePow, r1, r2, r3, f3, f4, lr]
        refine next ⟨i + 1, ?_, by omega, by omega⟩
        rw [f1, f2]
  · have him : i = m := by omega
    subst him
    rcases hacc with h0 | hpos
    · subst h0
      have hz : ret tab.get an 80 [.sl .nil []] = some z := hz
      simp -dsimp only [i98b0]
      simp -dsimp (disch := first | omega | assumption | apply agg_two | apply agg_nInt | apply agg_rInt | (simp only [J1,J2,J3,J4,J5,J6,J7,J8]; omega)) only [i98, go_sem,↓reduceIte,reduceCtorEq,Nat.reduceEqDiff,Nat.reduceAdd,Nat.reduceSub,Nat.reduceMul,Nat.reduceLT,Nat.reduceLeDiff,Nat.reduceBEq,Nat.reduceBNe,Int.reduceLT,Int.reduceLE,Int.reduceEq,Int.reduceNeg,Int.reduceAdd,Int.reduceSub,Int.reduceMul,Int.reduceToNat,Int.reducePow,Nat.reducePow, hz, rng_zero, List.map_nil]
    · obtain ⟨f3, f4⟩ := accR_pos (k := 0) (g := g) hpos
      rw [accR_T hpos] at hz
      simp -dsimp only [i98b0]
      simp -dsimp (disch := first | omega | assumption | apply agg_two | apply agg_nInt | apply agg_rInt | (simp only [J1,J2,J3,J4,J5,J6,J7,J8]; omega)) only [i98, go_sem,↓reduceIte,reduceCtorEq,Nat.reduceEqDiff,Nat.reduceAdd,Nat.reduceSub,Nat.reduceMul,Nat.reduceLT,Nat.reduceLeDiff,Nat.reduceBEq,Nat.reduceBNe,Int.reduceLT,Int.reduceLE,Int.reduceEq,Int.reduceNeg,Int.reduceAdd,Int.reduceSub,Int.reduceMul,Int.reduceToNat,Int.reducePow,Nat.reducePow, f3, f4, lr, hz]
end Go.Proofs.YtklelbidjcealaaGreat
namespace Go.Proofs.YtklelbidjcealaaGreat
open Go Go.Ab
theorem RPScale_ok {x y : FV} {p : List Int} {a : Int} {j k : Nat} (hx : IsRP x p) (hy : IsR y a) (hs : Few p.length) (bp : PBd j p) (ba : Bd k a) (hk : j + k ≤ 100000000000) : ∃ y', ret tab.get an 140 [x, y] = some y' ∧ IsRP y' (pscale a p) := by
  obtain ⟨z, hz, hr⟩ := RTrim_R (accT (rInts (rng p.length fun i => a * atZ p i))) (rInts_All (rng p.length fun i => a * atZ p i)) (by rw [rng_len]; omega)
  have he : ptrim (rng p.length fun i => a * atZ p i) = pscale a p := (ptrim_trimd _).ext (pscale_trimd _ _) fun i => by
    rw [atZ_ptrim, atZ_rng, at_pscale]
    split
    · rfl
    · rw [atZ_out (by omega), Int.mul_zero]
  rw [he] at hr
  refine ⟨z, ?_, hr⟩
  have ay := hy.agg
  obtain ⟨t, ps, rfl, hp⟩ := hx
  have n1 := hp.len
  generalize hg : (fun i => a * atZ p i) = g at *
  have hgi : ∀ i, a * atZ p i = g i := fun i => by rw [← hg]
  refine ret_eq (fn := i140) rfl rfl ?_
  simp -dsimp only [i140]
  simp -dsimp (disch := first | omega | assumption | apply agg_two | apply agg_nInt | apply agg_rInt | (simp only [J1,J2,J3,J4,J5,J6,J7,J8]; omega)) only [i140, ↓i140d0t, i140d0, go_sem,↓reduceIte,reduceCtorEq,Nat.reduceEqDiff,Nat.reduceAdd,Nat.reduceSub,Nat.reduceMul,Nat.reduceLT,Nat.reduceLeDiff,Nat.reduceBEq,Nat.reduceBNe,Int.reduceLT,Int.reduceLE,Int.reduceEq,Int.reduceNeg,Int.reduceAdd,Int.reduceSub,Int.reduceMul,Int.reduceToNat,Int.reducePow,Nat.reducePow]
  refine pW_loop (fun i : Nat => ⟨[(0, .fv (.sl t ps)), (3, .ptr (.l 0) 2 0 0), (5, accS 2 1 (rInts (rng i g))), (6, .fv (.int .i64 (i : Int)))], [], [.own 2 [y]] ++ accL 2 (rInts (rng i g))⟩) (fun i => i ≤ p.length) (fun i => p.length - i) 0 (by simp -dsimp (disch := first | omega | assumption | apply agg_two | apply agg_nInt | apply agg_rInt | (simp only [J1,J2,J3,J4,J5,J6,J7,J8]; omega)) only [go_sem,↓reduceIte,reduceCtorEq,Nat.reduceEqDiff,Nat.reduceAdd,Nat.reduceSub,Nat.reduceMul,Nat.reduceLT,Nat.reduceLeDiff,Nat.reduceBEq,Nat.reduceBNe,Int.reduceLT,Int.reduceLE,Int.reduceEq,Int.reduceNeg,Int.reduceAdd,Int.reduceSub,Int.reduceMul,Int.reduceToNat,Int.reducePow,Nat.reducePow]; rfl) (by omega) ?_
  intro i hi
  have hacc : (i = 0 ∨ 0 < i) := by omega
  obtain ⟨f1, f2⟩ := accR_next 1 i g
  have lr := rng_len i g
  by_cases hlt : i < p.length
  · have g1 := getF (ps := ps) (i := i) (by omega)
    have x1 := hp.at' i hlt
    have a1 := x1.agg
    have r3 := RMul_ok hy x1 ba (bp i) (by omega)
    rw [hgi] at r3
    rcases hacc with rfl | hpos
    · simp -dsimp only [i140b0]
      simp -dsimp (disch := first | omega | assumption | apply agg_two | apply agg_nInt | apply agg_rInt | (simp only [J1,J2,J3,J4,J5,J6,J7,J8]; omega)) only [i140, ↓i140d0t, i140d0, go_sem,↓reduceIte,reduceCtorEq,Nat.reduceEqDiff,Nat.reduceAdd,Nat.reduceSub,Nat.reduceMul,Nat.reduceLT,Nat.reduceLeDiff,Nat.reduceBEq,Nat.reduceBNe,Int.reduceLT,Int.reduceLE,Int.reduceEq,Int.reduceNeg,Int.reduceAdd,Int.reduceSub,Int.reduceMul,Int.reduceToNat,Int.reducePow,Nat.reducePow, g1, r3, rng_zero, List.map_nil]
      refine next ⟨1, ?_, by omega, by omega⟩
      rw [f1, f2]; rfl
    · obtain ⟨f3, f4⟩ := accR_pos (k := 1) (g := g) hpos
      simp -dsimp only [i140b0]
      simp -dsimp (disch := first | omega | assumption | apply agg_two | apply agg_nInt | apply agg_rInt | (simp only [J1,J2,J3,J4,J5,J6,J7,J8]; omega)) only [i140, ↓i140d0t, i140d0, go_sem,↓reduceIte,reduceCtorEq,Nat.reduceEqDiff,Nat.reduceAdd,Nat.reduceSub,Nat.reduceMul,Nat.reduceLT,Nat.reduceLeDiff,Nat.reduceBEq,Nat.reduceBNe,Int.reduceLT,Int.reduceLE,Int.reduceEq,Int.reduceNeg,Int.reduceAdd,Int.reduceSub,Int.reduceMul,Int.reduceToNat,Int.reducePow,Nat.reducePow, g1, r3, f3, f4, lr]
      refine next ⟨i + 1, ?_, by omega, by omega⟩
      rw [f1, f2]; rfl
  · have him : i = p.length := by omega
    subst him
    rcases hacc with h0 | hpos
    · have : p = [] := List.eq_nil_of_length_eq_zero h0
      subst this
      have hz : ret tab.get an 80 [.sl .nil []] = some z := hz
      simp -dsimp only [i140b0]
      simp -dsimp (disch := first | omega | assumption | apply agg_two | apply agg_nInt | apply agg_rInt | (simp only [J1,J2,J3,J4,J5,J6,J7,J8]; omega)) only [i140, ↓i140d0t, i140d0, go_sem,↓reduceIte,reduceCtorEq,Nat.reduceEqDiff,Nat.reduceAdd,Nat.reduceSub,Nat.reduceMul,Nat.reduceLT,Nat.reduceLeDiff,Nat.reduceBEq,Nat.reduceBNe,Int.reduceLT,Int.reduceLE,Int.reduceEq,Int.reduceNeg,Int.reduceAdd,Int.reduceSub,Int.reduceMul,Int.reduceToNat,Int.reducePow,Nat.reducePow, hz, rng_zero, List.map_nil]
    · obtain ⟨f3, f4⟩ := accR_pos (k := 1) (g := g) hpos
      rw [accR_T hpos] at hz
      simp -dsimp only [i140b0]
      simp -dsimp (disch := first | omega | assumption | apply agg_two | apply agg_nInt | apply agg_rInt | (simp only [J1,J2,J3,J4,J5,J6,J7,J8]; omega)) only [i140, ↓i140d0t, i140d0, go_sem,↓reduceIte,reduceCtorEq,Nat.reduceEqDiff,Nat.reduceAdd,Nat.reduceSub,Nat.reduceMul,Nat.reduceLT,Nat.reduceLeDiff,Nat.reduceBEq,Nat.reduceBNe,Int.reduceLT,Int.reduceLE,Int.reduceEq,Int.reduceNeg,Int.reduceAdd,Int.reduceSub,Int.reduceMul,Int.reduceToNat,Int.reducePow,Nat.reducePow, f3, f4, lr, hz]
theorem RPSub_ok {x y : FV} {p q : List Int} {k : Nat} (hx : IsRP x p) (hy : IsRP y q) (hs : Few p.length) (hs' : Few q.length) (bp : PBd k p) (bq : PBd k q) (hk : Fair (k + 2)) : ∃ y', ret tab.get an 142 [x, y] = some y' ∧ IsRP y' (psub p q) := by
  have h1 := ROf_ok (n := -1) (by omega) (by omega)
  have bm : Bd 1 (-1) := show (-1 : Int).natAbs < 2 ^ 1 by decide
  obtain ⟨y1, r1, z1⟩ := RPScale_ok hy (rInt_R (-1)) hs' bq bm (by omega)
  have bs : PBd k (pscale (-1) q) := fun i => by rw [at_pscale, show -1 * atZ q i = -atZ q i by omega]; exact (bq i).neg
  have ls : (pscale (-1) q).length ≤ q.length := by have := ptrim_len (q.map fun x => -1 * x); rw [List.length_map] at this; exact this
  obtain ⟨y2, r2, z2⟩ := RPAdd_ok hx z1 hs (by omega) bp bs (by omega)
  rw [psub_scale] at z2
  refine ⟨y2, ?_, z2⟩
  obtain ⟨t, ps, rfl, hp⟩ := hx
  obtain ⟨t', qs, rfl, hq⟩ := hy
  refine ret_eq (fn := i142) rfl rfl ?_
  simp -dsimp only [i142]
  simp -dsimp (disch := first | omega | assumption | apply agg_two | apply agg_nInt | apply agg_rInt | (simp only [J1,J2,J3,J4,J5,J6,J7,J8]; omega)) only [i142, go_sem,↓reduceIte,reduceCtorEq,Nat.reduceEqDiff,Nat.reduceAdd,Nat.reduceSub,Nat.reduceMul,Nat.reduceLT,Nat.reduceLeDiff,Nat.reduceBEq,Nat.reduceBNe,Int.reduceLT,Int.reduceLE,Int.reduceEq,Int.reduceNeg,Int.reduceAdd,Int.reduceSub,Int.reduceMul,Int.reduceToNat,Int.reducePow,Nat.reducePow, h1, r1, r2]
theorem rInt_zero' : IsR (.agg [.bool false, .sl .nil []]) 0 := ⟨.nil, by simp [digs_zero]⟩
theorem rmulp_in {Q : IExit → St → Prop} {t t' : Tag} {ps qs os : List FV} {p q o0 : List Int} {i N j k : Nat} (hp : AllR ps p) (hq : AllR qs q) (ho : AllR os o0) (hN : o0.length = N) (hi : i + q.length ≤ N) (hip : i < p.length) (hs : Small N) (bp : PBd j p) (bq : PBd k q) (hk : Fair (j + k + i + 2)) (hc : ∀ y, atZ o0 y = conv p q i y) {st : St}
    (h0 : gc [0, 1, 5, 6, 7] st = ⟨[(0, .fv (.sl t ps)), (1, .fv (.sl t' qs)), (5, .ref (.l 0) 2 0 N true), (6, .fv (.int .i64 (i : Int))), (7, .fv (.int .i64 0))], [], [.own 2 os]⟩)
    (hQ : ∀ e os' o, e.get 0 = .fv (.sl t ps) → e.get 1 = .fv (.sl t' qs) → e.get 5 = .ref (.l 0) 2 0 N true → e.get 6 = .fv (.int .i64 (i : Int)) → AllR os' o → o.length = N → (∀ y, atZ o y = conv p q (i + 1) y) → Q (.exit 2) ⟨e, [], [.own 2 os']⟩) :
    pW Q tab.get an 42 (.loop [0, 1, 5, 6, 7] i42b0) st .mk := by
  refine pW_loop (fun a : Nat × List FV × List Int => ⟨[(0, .fv (.sl t ps)), (1, .fv (.sl t' qs)), (5, .ref (.l 0) 2 0 N true), (6, .fv (.int .i64 (i : Int))), (7, .fv (.int .i64 (a.1 : Int)))], [], [.own 2 a.2.1]⟩)
    (fun a => a.1 ≤ q.length ∧ AllR a.2.1 a.2.2 ∧ a.2.2.length = N ∧ ∀ y, atZ a.2.2 y = if y < i + a.1 then conv p q (i + 1) y else conv p q i y) (fun a => q.length - a.1) (0, os, o0) (by rw [h0]; rfl) ⟨by simp, ho, hN, fun y => ?_⟩ ?_
  · simp only [Nat.add_zero]
    rw [hc]
    split
    · rw [conv_succ, if_neg (by omega)]; omega
    · rfl
  rintro ⟨m, os1, o⟩ ⟨h1, h4, h2, h3⟩
  simp only at h1 h2 h3 h4
  have hl1 := hp.len
  have hl2 := hq.len
  have hl3 := h4.len
  by_cases hm : m < q.length
  · have g0 := getF (ps := ps) (i := i) (by omega)
    have g1 := getF (ps := qs) (i := m) (by omega)
    have g2 := getF (ps := os1) (i := i + m) (by omega)
    have x1 := hp.at' i hip
    have y1 := hq.at' m hm
    have z1 := h4.at' (i + m) (by omega)
    have a0 := x1.agg
    have a1 := y1.agg
    have a2 := z1.agg
    have o1 := h3 (i + m)
    rw [if_neg (by omega)] at o1
    have b0 := bd_conv bp bq i (i + m)
    rw [← o1] at b0
    have b1 : Bd (j + k + i) (atZ p i * atZ q m) := ((bp i).mul (bq m)).mono (by omega)
    have r1 := RMul_ok x1 y1 (bp i) (bq m) (by omega)
    have r2 := RAdd_ok z1 (rInt_R _) b0 b1 (by omega)
    simp -dsimp only [i42b0]
    simp -dsimp (disch := first | omega | assumption | apply agg_two | apply agg_nInt | apply agg_rInt | (simp only [J1,J2,J3,J4,J5,J6,J7,J8]; omega)) only [i42, ↓i42d0t, i42d0, go_sem,↓reduceIte,reduceCtorEq,Nat.reduceEqDiff,Nat.reduceAdd,Nat.reduceSub,Nat.reduceMul,Nat.reduceLT,Nat.reduceLeDiff,Nat.reduceBEq,Nat.reduceBNe,Int.reduceLT,Int.reduceLE,Int.reduceEq,Int.reduceNeg,Int.reduceAdd,Int.reduceSub,Int.reduceMul,Int.reduceToNat,Int.reducePow,Nat.reducePow, g0, g1, g2, r1, r2]
    refine next ⟨(m + 1, os1.set (i + m) (rInt (atZ o (i + m) + atZ p i * atZ q m)), o.set (i + m) (atZ o (i + m) + atZ p i * atZ q m)), rfl, ⟨by simp only; omega, ⟨by simp [hl3], fun y hy => ?_⟩, by simp [h2], fun y => ?_⟩, by simp only; omega⟩
    · simp only at hy ⊢
      rw [List.length_set] at hy
      rw [atZ_set (by omega)]
      unfold atF
      rw [List.getElem?_set]
      by_cases h : i + m = y
      · subst h; rw [if_pos rfl, if_pos (by omega), if_pos rfl]; exact rInt_R _
      · rw [if_neg h, if_neg h]; exact h4.at' y hy
    · simp only
      rw [atZ_set (by omega)]
      by_cases hy : i + m = y
      · subst hy
        rw [if_pos rfl, if_pos (by omega), conv_succ, if_pos (by omega), o1, Nat.add_sub_cancel_left]
      · rw [if_neg hy, h3]
        by_cases hy2 : y < i + m
        · rw [if_pos hy2, if_pos (by omega)]
        · rw [if_neg hy2, if_neg (by omega)]
  · have : m = q.length := by omega
    subst this
    simp -dsimp only [i42b0]
    simp -dsimp (disch := first | omega | assumption | apply agg_two | apply agg_nInt | apply agg_rInt | (simp only [J1,J2,J3,J4,J5,J6,J7,J8]; omega)) only [i42, ↓i42d0t, i42d0, go_sem,↓reduceIte,reduceCtorEq,Nat.reduceEqDiff,Nat.reduceAdd,Nat.reduceSub,Nat.reduceMul,Nat.reduceLT,Nat.reduceLeDiff,Nat.reduceBEq,Nat.reduceBNe,Int.reduceLT,Int.reduceLE,Int.reduceEq,Int.reduceNeg,Int.reduceAdd,Int.reduceSub,Int.reduceMul,Int.reduceToNat,Int.reducePow,Nat.reducePow]
    refine hQ _ os1 o rfl rfl rfl rfl h4 h2 fun y => ?_
    rw [h3]
    split
    · rfl
    · rw [conv_succ, if_pos (by omega), atZ_out (by omega : q.length ≤ y - i)]; omega
theorem RPMul_ok {x y : FV} {p q : List Int} {j k : Nat} (hx : IsRP x p) (hy : IsRP y q) (hs : Few p.length) (hs' : Few q.length) (bp : PBd j p) (bq : PBd k q) (hk : Fair (j + k + p.length + 2)) : ∃ y', ret tab.get an 42 [x, y] = some y' ∧ IsRP y' (pmul p q) := by
  obtain ⟨t, ps, rfl, hp⟩ := hx
  obtain ⟨t', qs, rfl, hq⟩ := hy
  have n1 := hp.len
  have n2 := hq.len
  refine ret_of (fn := i42) rfl rfl ?_
  simp -dsimp only [i42]
  by_cases z1 : p.length = 0
  · have : p = [] := List.eq_nil_of_length_eq_zero z1
    rw [this, pmul_nil_left]
    simp -dsimp (disch := first | omega | assumption | apply agg_two | apply agg_nInt | apply agg_rInt | (simp only [J1,J2,J3,J4,J5,J6,J7,J8]; omega)) only [i42, ↓i42d0t, i42d0, go_sem,↓reduceIte,reduceCtorEq,Nat.reduceEqDiff,Nat.reduceAdd,Nat.reduceSub,Nat.reduceMul,Nat.reduceLT,Nat.reduceLeDiff,Nat.reduceBEq,Nat.reduceBNe,Int.reduceLT,Int.reduceLE,Int.reduceEq,Int.reduceNeg,Int.reduceAdd,Int.reduceSub,Int.reduceMul,Int.reduceToNat,Int.reducePow,Nat.reducePow]
    exact rInts_isRP .nil []
  by_cases z2 : q.length = 0
  · have : q = [] := List.eq_nil_of_length_eq_zero z2
    rw [this, pmul_nil_right]
    simp -dsimp (disch := first | omega | assumption | apply agg_two | apply agg_nInt | apply agg_rInt | (simp only [J1,J2,J3,J4,J5,J6,J7,J8]; omega)) only [i42, ↓i42d0t, i42d0, go_sem,↓reduceIte,reduceCtorEq,Nat.reduceEqDiff,Nat.reduceAdd,Nat.reduceSub,Nat.reduceMul,Nat.reduceLT,Nat.reduceLeDiff,Nat.reduceBEq,Nat.reduceBNe,Int.reduceLT,Int.reduceLE,Int.reduceEq,Int.reduceNeg,Int.reduceAdd,Int.reduceSub,Int.reduceMul,Int.reduceToNat,Int.reducePow,Nat.reducePow]
    exact rInts_isRP .nil []
  simp -dsimp (disch := first | omega | assumption | apply agg_two | apply agg_nInt | apply agg_rInt | (simp only [J1,J2,J3,J4,J5,J6,J7,J8]; omega)) only [i42, ↓i42d0t, i42d0, go_sem,↓reduceIte,reduceCtorEq,Nat.reduceEqDiff,Nat.reduceAdd,Nat.reduceSub,Nat.reduceMul,Nat.reduceLT,Nat.reduceLeDiff,Nat.reduceBEq,Nat.reduceBNe,Int.reduceLT,Int.reduceLE,Int.reduceEq,Int.reduceNeg,Int.reduceAdd,Int.reduceSub,Int.reduceMul,Int.reduceToNat,Int.reducePow,Nat.reducePow]
  have hN : p.length + q.length - 1 + 1 = p.length + q.length := by omega
  rw [n1, n2]
  generalize hNN : p.length + q.length - 1 = N at *
  refine pW_loop (fun a : Nat × List FV × List Int => ⟨[(0, .fv (.sl t ps)), (1, .fv (.sl t' qs)), (5, .ref (.l 0) 2 0 N true), (6, .fv (.int .i64 (a.1 : Int)))], [], [.own 2 a.2.1]⟩)
    (fun a => a.1 ≤ p.length ∧ AllR a.2.1 a.2.2 ∧ a.2.2.length = N ∧ ∀ y, atZ a.2.2 y = conv p q a.1 y) (fun a => p.length - a.1) (0, List.replicate N (.agg [.bool false, .sl .nil []]), List.replicate N 0) (by simp -dsimp (disch := first | omega | assumption | apply agg_two | apply agg_nInt | apply agg_rInt | (simp only [J1,J2,J3,J4,J5,J6,J7,J8]; omega)) only [go_sem,↓reduceIte,reduceCtorEq,Nat.reduceEqDiff,Nat.reduceAdd,Nat.reduceSub,Nat.reduceMul,Nat.reduceLT,Nat.reduceLeDiff,Nat.reduceBEq,Nat.reduceBNe,Int.reduceLT,Int.reduceLE,Int.reduceEq,Int.reduceNeg,Int.reduceAdd,Int.reduceSub,Int.reduceMul,Int.reduceToNat,Int.reducePow,Nat.reducePow]) ⟨by simp, ⟨by simp, fun y hy => ?_⟩, by simp, fun y => by rw [atZ_zeros, conv_zero]⟩ ?_
  · rw [atZ_zeros]
    simp only [List.length_replicate] at hy
    unfold atF
    rw [List.getElem?_replicate, if_pos hy]
    exact rInt_zero'
  rintro ⟨i, os, o⟩ ⟨h1, h4, h2, h3⟩
  simp only at h1 h2 h3 h4
  by_cases hi : i < p.length
  · simp -dsimp only [i42b1]
    simp -dsimp (disch := first | omega | assumption | apply agg_two | apply agg_nInt | apply agg_rInt | (simp only [J1,J2,J3,J4,J5,J6,J7,J8]; omega)) only [i42, ↓i42d0t, i42d0, go_sem,↓reduceIte,reduceCtorEq,Nat.reduceEqDiff,Nat.reduceAdd,Nat.reduceSub,Nat.reduceMul,Nat.reduceLT,Nat.reduceLeDiff,Nat.reduceBEq,Nat.reduceBNe,Int.reduceLT,Int.reduceLE,Int.reduceEq,Int.reduceNeg,Int.reduceAdd,Int.reduceSub,Int.reduceMul,Int.reduceToNat,Int.reducePow,Nat.reducePow]
    refine rmulp_in (t := t) (t' := t') (os := os) (o0 := o) (i := i) (N := N) hp hq h4 h2 (by omega) hi (by omega) bp bq (by omega) h3 (by simp -dsimp (disch := first | omega | assumption | apply agg_two | apply agg_nInt | apply agg_rInt | (simp only [J1,J2,J3,J4,J5,J6,J7,J8]; omega)) only [go_sem,↓reduceIte,reduceCtorEq,Nat.reduceEqDiff,Nat.reduceAdd,Nat.reduceSub,Nat.reduceMul,Nat.reduceLT,Nat.reduceLeDiff,Nat.reduceBEq,Nat.reduceBNe,Int.reduceLT,Int.reduceLE,Int.reduceEq,Int.reduceNeg,Int.reduceAdd,Int.reduceSub,Int.reduceMul,Int.reduceToNat,Int.reducePow,Nat.reducePow]) ?_
    intro e os' o' g0 g1 g5 g6 k0 k1 k2
    simp -dsimp (disch := first | omega | assumption | apply agg_two | apply agg_nInt | apply agg_rInt | (simp only [J1,J2,J3,J4,J5,J6,J7,J8]; omega)) only [i42, ↓i42d0t, i42d0, go_sem,↓reduceIte,reduceCtorEq,Nat.reduceEqDiff,Nat.reduceAdd,Nat.reduceSub,Nat.reduceMul,Nat.reduceLT,Nat.reduceLeDiff,Nat.reduceBEq,Nat.reduceBNe,Int.reduceLT,Int.reduceLE,Int.reduceEq,Int.reduceNeg,Int.reduceAdd,Int.reduceSub,Int.reduceMul,Int.reduceToNat,Int.reducePow,Nat.reducePow, g0, g1, g5, g6]
    exact next ⟨(i + 1, os', o'), rfl, ⟨by simp only; omega, k0, k1, k2⟩, by simp only; omega⟩
  · have : i = p.length := by omega
    subst this
    have hpm : ptrim o = pmul p q := (ptrim_trimd _).ext (pmul_trimd _ _) fun y => by rw [atZ_ptrim, h3, at_pmul]
    obtain ⟨z, hz, hr⟩ := RTrim_R .any h4 (by omega)
    rw [hpm] at hr
    have hl3 := h4.len
    have hcut : cutL os 0 N = os := by rw [cutL, List.drop_zero, List.take_of_length_le (by omega)]
    simp -dsimp only [i42b1]
    simp -dsimp (disch := first | omega | assumption | apply agg_two | apply agg_nInt | apply agg_rInt | (simp only [J1,J2,J3,J4,J5,J6,J7,J8]; omega)) only [i42, ↓i42d0t, i42d0, go_sem,↓reduceIte,reduceCtorEq,Nat.reduceEqDiff,Nat.reduceAdd,Nat.reduceSub,Nat.reduceMul,Nat.reduceLT,Nat.reduceLeDiff,Nat.reduceBEq,Nat.reduceBNe,Int.reduceLT,Int.reduceLE,Int.reduceEq,Int.reduceNeg,Int.reduceAdd,Int.reduceSub,Int.reduceMul,Int.reduceToNat,Int.reducePow,Nat.reducePow, hz, hcut, hl3]
    exact hr
end Go.Proofs.YtklelbidjcealaaGreat
namespace Go.Proofs.YtklelbidjcealaaGreat
open Go Go.Ab
theorem Bd64 {i : Nat} (h : i ≤ 2000000) : Bd 64 ((i : Nat) : Int) := by
  show ((i : Nat) : Int).natAbs < 2 ^ 64
  rw [show 2 ^ 64 = 18446744073709551616 from rfl]; omega
theorem RPDeriv_ok {x : FV} {p : List Int} {k : Nat} (hx : IsRP x p) (hs : Few p.length) (bp : PBd k p) (hk : Fair (k + 64)) : ∃ y', ret tab.get an 109 [x] = some y' ∧ IsRP y' (pderiv p) := by
  obtain ⟨z, hz, hr⟩ := RTrim_R (accT (rInts (rng (p.length - 1) fun i => ((i + 1 : Nat) : Int) * atZ p (i + 1)))) (rInts_All (rng (p.length - 1) fun i => ((i + 1 : Nat) : Int) * atZ p (i + 1))) (by rw [rng_len]; omega)
  rw [show ptrim (rng (p.length - 1) fun i => ((i + 1 : Nat) : Int) * atZ p (i + 1)) = pderiv p from rfl] at hr
  refine ⟨z, ?_, hr⟩
  obtain ⟨t, ps, rfl, hp⟩ := hx
  have n1 := hp.len
  generalize hg : (fun i => ((i + 1 : Nat) : Int) * atZ p (i + 1)) = g at *
  have hgi : ∀ i, ((i + 1 : Nat) : Int) * atZ p (i + 1) = g i := fun i => by rw [← hg]
  refine ret_eq (fn := i109) rfl rfl ?_
  simp -dsimp only [i109]
  simp -dsimp (disch := first | omega | assumption | apply agg_two | apply agg_nInt | apply agg_rInt | (simp only [J1,J2,J3,J4,J5,J6,J7,J8]; omega)) only [i109, ↓i109d0t, i109d0, go_sem,↓reduceIte,reduceCtorEq,Nat.reduceEqDiff,Nat.reduceAdd,Nat.reduceSub,Nat.reduceMul,Nat.reduceLT,Nat.reduceLeDiff,Nat.reduceBEq,Nat.reduceBNe,Int.reduceLT,Int.reduceLE,Int.reduceEq,Int.reduceNeg,Int.reduceAdd,Int.reduceSub,Int.reduceMul,Int.reduceToNat,Int.reducePow,Nat.reducePow]
  refine pW_loop (fun i : Nat => ⟨[(0, .fv (.sl t ps)), (3, accS 2 0 (rInts (rng i g))), (4, .fv (.int .i64 ((i + 1 : Nat) : Int)))], [], accL 2 (rInts (rng i g))⟩) (fun i => i ≤ p.length - 1) (fun i => p.length - i) 0 (by simp -dsimp (disch := first | omega | assumption | apply agg_two | apply agg_nInt | apply agg_rInt | (simp only [J1,J2,J3,J4,J5,J6,J7,J8]; omega)) only [go_sem,↓reduceIte,reduceCtorEq,Nat.reduceEqDiff,Nat.reduceAdd,Nat.reduceSub,Nat.reduceMul,Nat.reduceLT,Nat.reduceLeDiff,Nat.reduceBEq,Nat.reduceBNe,Int.reduceLT,Int.reduceLE,Int.reduceEq,Int.reduceNeg,Int.reduceAdd,Int.reduceSub,Int.reduceMul,Int.reduceToNat,Int.reducePow,Nat.reducePow]; rfl) (by omega) ?_
  intro i hi
  have hacc : (i = 0 ∨ 0 < i) := by omega
  obtain ⟨f1, f2⟩ := accR_next 0 i g
  have lr := rng_len i g
  by_cases hlt : i + 1 < p.length
  · have g1 := getF (ps := ps) (i := i + 1) (by omega)
    have x1 := hp.at' (i + 1) hlt
    have a1 := x1.agg
    have b1 := Bd64 (i := i + 1) (by omega)
    have r1 := ROf_ok (n := ((i + 1 : Nat) : Int)) (by omega) (by omega)
    have r3 := RMul_ok (rInt_R ((i + 1 : Nat) : Int)) x1 b1 (bp (i + 1)) (by omega)
    rw [hgi] at r3
    rcases hacc with rfl | hpos
    · simp only [Nat.zero_add, Int.natCast_one] at r1 r3
      simp -dsimp only [i109b0]
      simp -dsimp (disch := first | omega | assumption | apply agg_two | apply agg_nInt | apply agg_rInt | (simp only [J1,J2,J3,J4,J5,J6,J7,J8]; omega)) only [i109, ↓i109d0t, i109d0, go_sem,↓reduceIte,reduceCtorEq,Nat.reduceEqDiff,Nat.reduceAdd,Nat.reduceSub,Nat.reduceMul,Nat.reduceLT,Nat.reduceLeDiff,Nat.reduceBEq,Nat.reduceBNe,Int.reduceLT,Int.reduceLE,Int.reduceEq,Int.reduceNeg,Int.reduceAdd,Int.reduceSub,Int.reduceMul,Int.reduceToNat,Int.reducePow,Nat.reducePow, g1, r1, r3, rng_zero, List.map_nil]
      refine next ⟨1, ?_, by omega, by omega⟩
      rw [f1, f2]; rfl
    · obtain ⟨f3, f4⟩ := accR_pos (k := 0) (g := g) hpos
      simp -dsimp only [i109b0]
      simp -dsimp (disch := first | omega | assumption | apply agg_two | apply agg_nInt | apply agg_rInt | (simp only [J1,J2,J3,J4,J5,J6,J7,J8]; omega)) only [i109, ↓i109d0t, i109d0, go_sem,↓reduceIte,reduceCtorEq,Nat.reduceEqDiff,Nat.reduceAdd,Nat.reduceSub,Nat.reduceMul,Nat.reduceLT,Nat.reduceLeDiff,Nat.reduceBEq,Nat.reduceBNe,Int.reduceLT,Int.reduceLE,Int.reduceEq,Int.reduceNeg,Int.reduceAdd,Int.reduceSub,Int.reduceMul,Int.reduceToNat,Int.reducePow,Nat.reducePow, g1, r1, r3, f3, f4, lr]
      refine next ⟨i + 1, ?_, by omega, by omega⟩
      rw [f1, f2]
  · have him : i = p.length - 1 := by omega
    rcases hacc with h0 | hpos
    · have hz : ret tab.get an 80 [.sl .nil []] = some z := by rw [← him, h0] at hz; exact hz
      subst h0
      simp -dsimp only [i109b0]
      simp -dsimp (disch := first | omega | assumption | apply agg_two | apply agg_nInt | apply agg_rInt | (simp only [J1,J2,J3,J4,J5,J6,J7,J8]; omega)) only [i109, ↓i109d0t, i109d0, go_sem,↓reduceIte,reduceCtorEq,Nat.reduceEqDiff,Nat.reduceAdd,Nat.reduceSub,Nat.reduceMul,Nat.reduceLT,Nat.reduceLeDiff,Nat.reduceBEq,Nat.reduceBNe,Int.reduceLT,Int.reduceLE,Int.reduceEq,Int.reduceNeg,Int.reduceAdd,Int.reduceSub,Int.reduceMul,Int.reduceToNat,Int.reducePow,Nat.reducePow, hz, rng_zero, List.map_nil]
    · obtain ⟨f3, f4⟩ := accR_pos (k := 0) (g := g) hpos
      rw [← him, accR_T hpos] at hz
      simp -dsimp only [i109b0]
      simp -dsimp (disch := first | omega | assumption | apply agg_two | apply agg_nInt | apply agg_rInt | (simp only [J1,J2,J3,J4,J5,J6,J7,J8]; omega)) only [i109, ↓i109d0t, i109d0, go_sem,↓reduceIte,reduceCtorEq,Nat.reduceEqDiff,Nat.reduceAdd,Nat.reduceSub,Nat.reduceMul,Nat.reduceLT,Nat.reduceLeDiff,Nat.reduceBEq,Nat.reduceBNe,Int.reduceLT,Int.reduceLE,Int.reduceEq,Int.reduceNeg,Int.reduceAdd,Int.reduceSub,Int.reduceMul,Int.reduceToNat,Int.reducePow,Nat.reducePow, f3, f4, lr, hz]
theorem RCompose_ok {x y : FV} {p l : List Int} {K kl kp : Nat} (hx : IsRP x p) (hy : IsRP y l) (hl2 : l.length ≤ 2) (hs : Few p.length) (bl : PBd kl l) (bp : PBd kp p) (hK : kp + p.length * (kl + p.length + 1) ≤ K) (hk : Fair (K + kl + 1000010)) :
    ∃ y', ret tab.get an 107 [x, y] = some y' ∧ IsRP y' (phorn l p) := by
  obtain ⟨t, ps, rfl, hp⟩ := hx
  obtain ⟨t', ls, rfl, hy⟩ := hy
  have hyy : IsRP (.sl t' ls) l := ⟨t', ls, rfl, hy⟩
  have hB : ∀ n, n ≤ p.length → PBd K (phorn l (p.drop n)) := by
    intro n hn
    refine (phorn_bd (N := p.length) hl2 bl (bp.drop n) (by simp)).mono ?_
    refine Nat.le_trans (Nat.add_le_add_left (Nat.mul_le_mul_right _ (by simp)) _) hK
  have hL : ∀ n, (phorn l (p.drop n)).length ≤ p.length - n := fun n => by
    have h1 := phorn_len hl2 (p.drop n)
    rwa [List.length_drop] at h1
  have lP := hp.len
  have bK : kp ≤ K := by omega
  refine ret_of (fn := i107) rfl rfl ?_
  simp -dsimp only [i107]
  simp -dsimp (disch := first | omega | assumption | apply agg_two | apply agg_nInt | apply agg_rInt | (simp only [J1,J2,J3,J4,J5,J6,J7,J8]; omega)) only [i107, ↓i107d0t, i107d0, go_sem,↓reduceIte,reduceCtorEq,Nat.reduceEqDiff,Nat.reduceAdd,Nat.reduceSub,Nat.reduceMul,Nat.reduceLT,Nat.reduceLeDiff,Nat.reduceBEq,Nat.reduceBNe,Int.reduceLT,Int.reduceLE,Int.reduceEq,Int.reduceNeg,Int.reduceAdd,Int.reduceSub,Int.reduceMul,Int.reduceToNat,Int.reducePow,Nat.reducePow]
  refine pW_loop (fun a : Nat × FV => ⟨[(0, .fv (.sl t ps)), (1, .fv (.sl t' ls)), (5, .fv a.2), (6, .fv (.int .i64 ((a.1 : Int) - 1)))], [], []⟩) (fun a => a.1 ≤ p.length ∧ IsRP a.2 (phorn l (p.drop a.1))) (fun a => a.1) (p.length, .sl .nil []) (by simp -dsimp (disch := first | omega | assumption | apply agg_two | apply agg_nInt | apply agg_rInt | (simp only [J1,J2,J3,J4,J5,J6,J7,J8]; omega)) only [go_sem,↓reduceIte,reduceCtorEq,Nat.reduceEqDiff,Nat.reduceAdd,Nat.reduceSub,Nat.reduceMul,Nat.reduceLT,Nat.reduceLeDiff,Nat.reduceBEq,Nat.reduceBNe,Int.reduceLT,Int.reduceLE,Int.reduceEq,Int.reduceNeg,Int.reduceAdd,Int.reduceSub,Int.reduceMul,Int.reduceToNat,Int.reducePow,Nat.reducePow, lP]) ⟨Nat.le_refl _, by rw [List.drop_length]; exact rInts_isRP .nil []⟩ ?_
  rintro ⟨n, s⟩ ⟨hn, hsr⟩
  simp only at hn hsr
  have hs' := hsr
  obtain ⟨ts, ss, rfl, hss⟩ := hsr
  rcases Nat.eq_zero_or_pos n with rfl | hpos
  · simp -dsimp only [i107b0]
    simp -dsimp (disch := first | omega | assumption | apply agg_two | apply agg_nInt | apply agg_rInt | (simp only [J1,J2,J3,J4,J5,J6,J7,J8]; omega)) only [i107, ↓i107d0t, i107d0, go_sem,↓reduceIte,reduceCtorEq,Nat.reduceEqDiff,Nat.reduceAdd,Nat.reduceSub,Nat.reduceMul,Nat.reduceLT,Nat.reduceLeDiff,Nat.reduceBEq,Nat.reduceBNe,Int.reduceLT,Int.reduceLE,Int.reduceEq,Int.reduceNeg,Int.reduceAdd,Int.reduceSub,Int.reduceMul,Int.reduceToNat,Int.reducePow,Nat.reducePow]
    exact hs'
  · obtain ⟨m, rfl⟩ : ∃ m, n = m + 1 := ⟨n - 1, by omega⟩
    have g1 := getF (ps := ps) (i := m) (by omega)
    have x1 := hp.at' m (by omega)
    have a1 := x1.agg
    have b1 := hB (m + 1) hn
    have l3 := hL (m + 1)
    obtain ⟨y1, r1, z1⟩ := RPMul_ok hs' hyy (by omega) (by omega) b1 bl (by omega)
    obtain ⟨y2, r2, z2⟩ := RTrim_R .full (ps := [atF ps m]) (zs := [atZ p m]) ⟨rfl, fun i hi => by
      match i, hi with
      | 0, _ => exact x1⟩ (by simp)
    have l2 := pmul_len (phorn l (p.drop (m + 1))) l
    have b2 := (b1.mul bl).mono (k := K + kl + 1000000) (by omega)
    have b3 : PBd (K + kl + 1000000) (ptrim [atZ p m]) := (PBd.one (bp m)).trim.mono (by omega)
    have l4 := ptrim_len [atZ p m]
    obtain ⟨y3, r3, z3⟩ := RPAdd_ok z1 z2 (by omega) (by simp at l4; omega) b2 b3 (by omega)
    have e2 : padd (pmul (phorn l (p.drop (m + 1))) l) (ptrim [atZ p m]) = phorn l (p.drop m) := by
      rw [drop_cons (zs := p) (i := m) (by omega)]
      exact padd_ext (fun _ => rfl) (atZ_ptrim _)
    rw [e2] at z3
    obtain ⟨t1, s1, rfl, h1⟩ := z1
    obtain ⟨t2, s2, rfl, h2⟩ := z2
    have z3' := z3
    obtain ⟨t3, s3, rfl, h3⟩ := z3
    simp -dsimp only [i107b0]
    simp -dsimp (disch := first | omega | assumption | apply agg_two | apply agg_nInt | apply agg_rInt | (simp only [J1,J2,J3,J4,J5,J6,J7,J8]; omega)) only [i107, ↓i107d0t, i107d0, go_sem,↓reduceIte,reduceCtorEq,Nat.reduceEqDiff,Nat.reduceAdd,Nat.reduceSub,Nat.reduceMul,Nat.reduceLT,Nat.reduceLeDiff,Nat.reduceBEq,Nat.reduceBNe,Int.reduceLT,Int.reduceLE,Int.reduceEq,Int.reduceNeg,Int.reduceAdd,Int.reduceSub,Int.reduceMul,Int.reduceToNat,Int.reducePow,Nat.reducePow, g1, r1, r2, r3]
    exact next ⟨(m, .sl t3 s3), rfl, ⟨by simp only; omega, z3'⟩, by simp⟩
theorem RShift_ok {x y : FV} {p : List Int} {a : Int} {K ka kp : Nat} (hx : IsRP x p) (hy : IsR y a) (hs : Few p.length) (ha : Bd ka a) (h1a : 1 ≤ ka) (bp : PBd kp p) (hK : kp + p.length * (ka + p.length + 1) ≤ K) (hk : Fair (K + ka + 1000010)) :
    ∃ y', ret tab.get an 106 [x, y] = some y' ∧ IsRP y' (phorn [a, 1] p) := by
  have h1 := ROf_ok (n := 1) (by omega) (by omega)
  have bl : PBd ka [a, 1] := PBd.two ha (Bd.mono (j := 1) (show (1 : Int).natAbs < 2 ^ 1 by decide) h1a)
  have hl : IsRP (.sl .full [y, rInt 1]) [a, 1] := ⟨.full, _, rfl, rfl, fun i hi => by
    match i, hi with
    | 0, _ => exact hy
    | 1, _ => exact rInt_R 1⟩
  obtain ⟨y1, r1, z1⟩ := RCompose_ok hx hl (by simp) hs bl bp hK hk
  refine ⟨y1, ?_, z1⟩
  have ay := hy.agg
  have a1 := agg_rInt 1
  obtain ⟨t, ps, rfl, hp⟩ := hx
  obtain ⟨t1, s1, rfl, _⟩ := z1
  refine ret_eq (fn := i106) rfl rfl ?_
  simp -dsimp only [i106]
  simp -dsimp (disch := first | omega | assumption | apply agg_two | apply agg_nInt | apply agg_rInt | (simp only [J1,J2,J3,J4,J5,J6,J7,J8]; omega)) only [i106, ↓i106d0t, i106d0, go_sem,↓reduceIte,reduceCtorEq,Nat.reduceEqDiff,Nat.reduceAdd,Nat.reduceSub,Nat.reduceMul,Nat.reduceLT,Nat.reduceLeDiff,Nat.reduceBEq,Nat.reduceBNe,Int.reduceLT,Int.reduceLE,Int.reduceEq,Int.reduceNeg,Int.reduceAdd,Int.reduceSub,Int.reduceMul,Int.reduceToNat,Int.reducePow,Nat.reducePow, h1, r1]
theorem RPEq_ok {x y : FV} {p q : List Int} {k : Nat} (hx : IsRP x p) (hy : IsRP y q) (hs : Few p.length) (hs' : Few q.length) (bp : PBd k p) (bq : PBd k q) (hk : Fair k) : ret tab.get an 117 [x, y] = some (.bool (decide (p = q))) := by
  obtain ⟨t, ps, rfl, hp⟩ := hx
  obtain ⟨t', qs, rfl, hq⟩ := hy
  have n1 := hp.len
  have n2 := hq.len
  refine ret_eq (fn := i117) rfl rfl ?_
  simp -dsimp only [i117]
  by_cases hl : p.length = q.length
  · simp -dsimp (disch := first | omega | assumption | apply agg_two | apply agg_nInt | apply agg_rInt | (simp only [J1,J2,J3,J4,J5,J6,J7,J8]; omega)) only [i117, ↓i117d0t, i117d0, go_sem,↓reduceIte,reduceCtorEq,Nat.reduceEqDiff,Nat.reduceAdd,Nat.reduceSub,Nat.reduceMul,Nat.reduceLT,Nat.reduceLeDiff,Nat.reduceBEq,Nat.reduceBNe,Int.reduceLT,Int.reduceLE,Int.reduceEq,Int.reduceNeg,Int.reduceAdd,Int.reduceSub,Int.reduceMul,Int.reduceToNat,Int.reducePow,Nat.reducePow]
    refine pW_loop (fun i : Nat => ⟨[(0, .fv (.sl t ps)), (1, .fv (.sl t' qs)), (5, .fv (.int .i64 (i : Int)))], [], []⟩) (fun i => i ≤ p.length ∧ ∀ j, j < i → atZ p j = atZ q j) (fun i => p.length - i) 0 (by simp -dsimp (disch := first | omega | assumption | apply agg_two | apply agg_nInt | apply agg_rInt | (simp only [J1,J2,J3,J4,J5,J6,J7,J8]; omega)) only [go_sem,↓reduceIte,reduceCtorEq,Nat.reduceEqDiff,Nat.reduceAdd,Nat.reduceSub,Nat.reduceMul,Nat.reduceLT,Nat.reduceLeDiff,Nat.reduceBEq,Nat.reduceBNe,Int.reduceLT,Int.reduceLE,Int.reduceEq,Int.reduceNeg,Int.reduceAdd,Int.reduceSub,Int.reduceMul,Int.reduceToNat,Int.reducePow,Nat.reducePow]) ⟨by omega, fun j hj => by omega⟩ ?_
    intro i ⟨hi, hall⟩
    by_cases hlt : i < p.length
    · have g1 := getF (ps := ps) (i := i) (by omega)
      have g2 := getF (ps := qs) (i := i) (by omega)
      have x1 := hp.at' i (by omega)
      have x2 := hq.at' i (by omega)
      have a1 := x1.agg
      have a2 := x2.agg
      have hc := RCmp_ok x1 x2 (bp i) (bq i) hk
      by_cases he : atZ p i = atZ q i
      · have hz : c3 (atZ p i) (atZ q i) = 0 := by rw [he]; simp [c3]
        rw [hz] at hc
        simp -dsimp only [i117b0]
        simp -dsimp (disch := first | omega | assumption | apply agg_two | apply agg_nInt | apply agg_rInt | (simp only [J1,J2,J3,J4,J5,J6,J7,J8]; omega)) only [i117, ↓i117d0t, i117d0, go_sem,↓reduceIte,reduceCtorEq,Nat.reduceEqDiff,Nat.reduceAdd,Nat.reduceSub,Nat.reduceMul,Nat.reduceLT,Nat.reduceLeDiff,Nat.reduceBEq,Nat.reduceBNe,Int.reduceLT,Int.reduceLE,Int.reduceEq,Int.reduceNeg,Int.reduceAdd,Int.reduceSub,Int.reduceMul,Int.reduceToNat,Int.reducePow,Nat.reducePow, g1, g2, hc]
        refine next ⟨i + 1, rfl, ⟨by omega, fun j hj => ?_⟩, by omega⟩
        rcases Nat.lt_or_ge j i with h | h
        · exact hall j h
        · rw [show j = i by omega]; exact he
      · have hz : c3 (atZ p i) (atZ q i) ≠ 0 := by unfold c3; split; omega; split <;> omega
        have hne : ¬ p = q := fun h => he (by rw [h])
        simp -dsimp only [i117b0]
        simp -dsimp (disch := first | omega | assumption | apply agg_two | apply agg_nInt | apply agg_rInt | (simp only [J1,J2,J3,J4,J5,J6,J7,J8]; omega)) only [i117, ↓i117d0t, i117d0, go_sem,↓reduceIte,reduceCtorEq,Nat.reduceEqDiff,Nat.reduceAdd,Nat.reduceSub,Nat.reduceMul,Nat.reduceLT,Nat.reduceLeDiff,Nat.reduceBEq,Nat.reduceBNe,Int.reduceLT,Int.reduceLE,Int.reduceEq,Int.reduceNeg,Int.reduceAdd,Int.reduceSub,Int.reduceMul,Int.reduceToNat,Int.reducePow,Nat.reducePow, g1, g2, hc]
        rw [decide_eq_false hne]
    · have heq : p = q := atZ_ext hl fun j hj => hall j (by omega)
      simp -dsimp only [i117b0]
      simp -dsimp (disch := first | omega | assumption | apply agg_two | apply agg_nInt | apply agg_rInt | (simp only [J1,J2,J3,J4,J5,J6,J7,J8]; omega)) only [i117, ↓i117d0t, i117d0, go_sem,↓reduceIte,reduceCtorEq,Nat.reduceEqDiff,Nat.reduceAdd,Nat.reduceSub,Nat.reduceMul,Nat.reduceLT,Nat.reduceLeDiff,Nat.reduceBEq,Nat.reduceBNe,Int.reduceLT,Int.reduceLE,Int.reduceEq,Int.reduceNeg,Int.reduceAdd,Int.reduceSub,Int.reduceMul,Int.reduceToNat,Int.reducePow,Nat.reducePow]
      rw [decide_eq_true heq]
  · have hne : ¬ p = q := fun h => hl (by rw [h])
    simp -dsimp (disch := first | omega | assumption | apply agg_two | apply agg_nInt | apply agg_rInt | (simp only [J1,J2,J3,J4,J5,J6,J7,J8]; omega)) only [i117, ↓i117d0t, i117d0, go_sem,↓reduceIte,reduceCtorEq,Nat.reduceEqDiff,Nat.reduceAdd,Nat.reduceSub,Nat.reduceMul,Nat.reduceLT,Nat.reduceLeDiff,Nat.reduceBEq,Nat.reduceBNe,Int.reduceLT,Int.reduceLE,Int.reduceEq,Int.reduceNeg,Int.reduceAdd,Int.reduceSub,Int.reduceMul,Int.reduceToNat,Int.reducePow,Nat.reducePow]
    rw [decide_eq_false hne]
def NP (x : FV) (zs : List Int) : Prop := ∃ t ps, x = .sl t ps ∧ ps.length = zs.length ∧ ∀ i, i < zs.length → NI (atF ps i) (atZ zs i)
theorem nPoly_NP (zs : List Int) : NP (nPoly zs) zs := ⟨_, _, rfl, by simp, fun i hi => by rw [atF_map hi]; exact nInt_NI _⟩
theorem RPIs_ok {x y : FV} {p q : List Int} {k : Nat} (hx : NP x p) (hy : IsRP y q) (hs : Few p.length) (hs' : Few q.length) (bp : PBd k p) (bq : PBd k q) (hk : Fair k) : ret tab.get an 30 [x, y] = some (.bool (decide (p = q))) := by
  obtain ⟨t, ps, rfl, n1, hp⟩ := hx
  obtain ⟨t', qs, rfl, hq⟩ := hy
  have n2 := hq.len
  refine ret_eq (fn := i30) rfl rfl ?_
  simp -dsimp only [i30]
  by_cases hl : p.length = q.length
  · simp -dsimp (disch := first | omega | assumption | apply agg_two | apply agg_nInt | apply agg_rInt | (simp only [J1,J2,J3,J4,J5,J6,J7,J8]; omega)) only [i30, ↓i30d0t, i30d0, go_sem,↓reduceIte,reduceCtorEq,Nat.reduceEqDiff,Nat.reduceAdd,Nat.reduceSub,Nat.reduceMul,Nat.reduceLT,Nat.reduceLeDiff,Nat.reduceBEq,Nat.reduceBNe,Int.reduceLT,Int.reduceLE,Int.reduceEq,Int.reduceNeg,Int.reduceAdd,Int.reduceSub,Int.reduceMul,Int.reduceToNat,Int.reducePow,Nat.reducePow]
    refine pW_loop (fun i : Nat => ⟨[(0, .fv (.sl t ps)), (1, .fv (.sl t' qs)), (5, .fv (.int .i64 (i : Int)))], [], []⟩) (fun i => i ≤ p.length ∧ ∀ j, j < i → atZ p j = atZ q j) (fun i => p.length - i) 0 (by simp -dsimp (disch := first | omega | assumption | apply agg_two | apply agg_nInt | apply agg_rInt | (simp only [J1,J2,J3,J4,J5,J6,J7,J8]; omega)) only [go_sem,↓reduceIte,reduceCtorEq,Nat.reduceEqDiff,Nat.reduceAdd,Nat.reduceSub,Nat.reduceMul,Nat.reduceLT,Nat.reduceLeDiff,Nat.reduceBEq,Nat.reduceBNe,Int.reduceLT,Int.reduceLE,Int.reduceEq,Int.reduceNeg,Int.reduceAdd,Int.reduceSub,Int.reduceMul,Int.reduceToNat,Int.reducePow,Nat.reducePow]) ⟨by omega, fun j hj => by omega⟩ ?_
    intro i ⟨hi, hall⟩
    by_cases hlt : i < p.length
    · have g1 := getF (ps := ps) (i := i) (by omega)
      have g2 := getF (ps := qs) (i := i) (by omega)
      have x1 := hp i (by omega)
      have x2 := hq.at' i (by omega)
      have a1 := x1.agg
      have a2 := x2.agg
      have hc := RIs_ok x1 x2 (bp i) (bq i) hk
      by_cases he : atZ p i = atZ q i
      · rw [decide_eq_true he] at hc
        simp -dsimp only [i30b0]
        simp -dsimp (disch := first | omega | assumption | apply agg_two | apply agg_nInt | apply agg_rInt | (simp only [J1,J2,J3,J4,J5,J6,J7,J8]; omega)) only [i30, ↓i30d0t, i30d0, go_sem,↓reduceIte,reduceCtorEq,Nat.reduceEqDiff,Nat.reduceAdd,Nat.reduceSub,Nat.reduceMul,Nat.reduceLT,Nat.reduceLeDiff,Nat.reduceBEq,Nat.reduceBNe,Int.reduceLT,Int.reduceLE,Int.reduceEq,Int.reduceNeg,Int.reduceAdd,Int.reduceSub,Int.reduceMul,Int.reduceToNat,Int.reducePow,Nat.reducePow, g1, g2, hc]
        refine next ⟨i + 1, rfl, ⟨by omega, fun j hj => ?_⟩, by omega⟩
        rcases Nat.lt_or_ge j i with h | h
        · exact hall j h
        · rw [show j = i by omega]; exact he
      · rw [decide_eq_false he] at hc
        have hne : ¬ p = q := fun h => he (by rw [h])
        simp -dsimp only [i30b0]
        simp -dsimp (disch := first | omega | assumption | apply agg_two | apply agg_nInt | apply agg_rInt | (simp only [J1,J2,J3,J4,J5,J6,J7,J8]; omega)) only [i30, ↓i30d0t, i30d0, go_sem,↓reduceIte,reduceCtorEq,Nat.reduceEqDiff,Nat.reduceAdd,Nat.reduceSub,Nat.reduceMul,Nat.reduceLT,Nat.reduceLeDiff,Nat.reduceBEq,Nat.reduceBNe,Int.reduceLT,Int.reduceLE,Int.reduceEq,Int.reduceNeg,Int.reduceAdd,Int.reduceSub,Int.reduceMul,Int.reduceToNat,Int.reducePow,Nat.reducePow, g1, g2, hc]
        rw [decide_eq_false hne]
    · have heq : p = q := atZ_ext hl fun j hj => hall j (by omega)
      simp -dsimp only [i30b0]
      simp -dsimp (disch := first | omega | assumption | apply agg_two | apply agg_nInt | apply agg_rInt | (simp only [J1,J2,J3,J4,J5,J6,J7,J8]; omega)) only [i30, ↓i30d0t, i30d0, go_sem,↓reduceIte,reduceCtorEq,Nat.reduceEqDiff,Nat.reduceAdd,Nat.reduceSub,Nat.reduceMul,Nat.reduceLT,Nat.reduceLeDiff,Nat.reduceBEq,Nat.reduceBNe,Int.reduceLT,Int.reduceLE,Int.reduceEq,Int.reduceNeg,Int.reduceAdd,Int.reduceSub,Int.reduceMul,Int.reduceToNat,Int.reducePow,Nat.reducePow]
      rw [decide_eq_true heq]
  · have hne : ¬ p = q := fun h => hl (by rw [h])
    simp -dsimp (disch := first | omega | assumption | apply agg_two | apply agg_nInt | apply agg_rInt | (simp only [J1,J2,J3,J4,J5,J6,J7,J8]; omega)) only [i30, ↓i30d0t, i30d0, go_sem,↓reduceIte,reduceCtorEq,Nat.reduceEqDiff,Nat.reduceAdd,Nat.reduceSub,Nat.reduceMul,Nat.reduceLT,Nat.reduceLeDiff,Nat.reduceBEq,Nat.reduceBNe,Int.reduceLT,Int.reduceLE,Int.reduceEq,Int.reduceNeg,Int.reduceAdd,Int.reduceSub,Int.reduceMul,Int.reduceToNat,Int.reducePow,Nat.reducePow]
    rw [decide_eq_false hne]
end Go.Proofs.YtklelbidjcealaaGreat
namespace Go.Proofs.YtklelbidjcealaaGreat
open Go Go.Ab
theorem IsP.one {x : FV} {zs : List Int} (h : IsP x zs) : ∃ t ps, x = .sl t ps := by obtain ⟨t, ps, rfl, _⟩ := h; exact ⟨t, ps, rfl⟩
theorem ld_nPoly (p : List Int) : ldElem false 1 0 (nPoly p) = some (nPoly p) := rfl
theorem st_nPoly (p : List Int) (y : FV) : stElem 0 (nPoly p) y = if y.one = true then some y else none := by simp [nPoly, stElem]
theorem one_nPoly (p : List Int) : FV.one (nPoly p) = true := rfl
theorem cells_nPoly (p : List Int) : FV.cells (nPoly p) = [nPoly p] := rfl
theorem okPart_nPoly (p : List Int) : okPart (nPoly p) = true := rfl
end Go.Proofs.YtklelbidjcealaaGreat
namespace Go.Proofs.YtklelbidjcealaaGreat
open Go Go.Ab
def ruleV (alg : Int) (x : FV) : FV := .ptr (.agg (.int .i64 alg :: x.cells))
def mkRule (alg q : Int) : FV := .ptr (.agg [.int .i64 alg, .bool (decide (q < 0)), .sl (nTag q) (u32s (digs B32 q.natAbs))])
theorem cutR3 (a b c : FV) : cutL [a, b, c] 1 2 = [b, c] := rfl
theorem cutR1 (a b c : FV) : cutL [a, b, c] 0 1 = [a] := rfl
theorem New_ok {alg z : Int} {x : FV} {k : Nat} (hx : IsI x z) (hz : Bd k z) (hk : Fair k) (h1 : -9223372036854775808 ≤ alg) (h2 : alg ≤ 9223372036854775807) :
    ret tab.get an 44 [.int .i64 alg, x] = some (.tup (if alg = 1 ∨ alg = 2 then [mkRule alg 0, .int .i64 0] else if alg = 3 then if z = 0 then [.nilPtr, .int .i64 2] else [mkRule 3 z, .int .i64 0] else [.nilPtr, .int .i64 10])) := by
  have ax := hx.agg
  have r1 := Sign_ok hx
  have r2 := Add_ok hx IsI_zero hz (Bd.zero k) hk
  rw [Int.add_zero] at r2
  have e0 : mkRule 1 0 = .ptr (.agg [.int .i64 1, .bool false, .sl .nil []]) := by simp [mkRule, nTag, digs_zero, u32s]
  have e2 : mkRule 2 0 = .ptr (.agg [.int .i64 2, .bool false, .sl .nil []]) := by simp [mkRule, nTag, digs_zero, u32s]
  refine ret_eq (fn := i44) rfl rfl ?_
  simp -dsimp only [i44]
  by_cases c1 : alg = 1
  · subst c1
    simp -dsimp (disch := first | omega | assumption | apply agg_two | apply agg_nInt | apply agg_rInt | (simp only [J1,J2,J3,J4,J5,J6,J7,J8]; omega)) only [i44, go_sem,↓reduceIte,reduceCtorEq,Nat.reduceEqDiff,Nat.reduceAdd,Nat.reduceSub,Nat.reduceMul,Nat.reduceLT,Nat.reduceLeDiff,Nat.reduceBEq,Nat.reduceBNe,Int.reduceLT,Int.reduceLE,Int.reduceEq,Int.reduceNeg,Int.reduceAdd,Int.reduceSub,Int.reduceMul,Int.reduceToNat,Int.reducePow,Nat.reducePow, e0]
  · by_cases c2 : alg = 2
    · subst c2
      simp -dsimp (disch := first | omega | assumption | apply agg_two | apply agg_nInt | apply agg_rInt | (simp only [J1,J2,J3,J4,J5,J6,J7,J8]; omega)) only [i44, go_sem,↓reduceIte,reduceCtorEq,Nat.reduceEqDiff,Nat.reduceAdd,Nat.reduceSub,Nat.reduceMul,Nat.reduceLT,Nat.reduceLeDiff,Nat.reduceBEq,Nat.reduceBNe,Int.reduceLT,Int.reduceLE,Int.reduceEq,Int.reduceNeg,Int.reduceAdd,Int.reduceSub,Int.reduceMul,Int.reduceToNat,Int.reducePow,Nat.reducePow, e2]
    · by_cases c3 : alg = 3
      · subst c3
        by_cases c4 : z = 0
        · subst c4
          simp -dsimp (disch := first | omega | assumption | apply agg_two | apply agg_nInt | apply agg_rInt | (simp only [J1,J2,J3,J4,J5,J6,J7,J8]; omega)) only [i44, go_sem,↓reduceIte,reduceCtorEq,Nat.reduceEqDiff,Nat.reduceAdd,Nat.reduceSub,Nat.reduceMul,Nat.reduceLT,Nat.reduceLeDiff,Nat.reduceBEq,Nat.reduceBNe,Int.reduceLT,Int.reduceLE,Int.reduceEq,Int.reduceNeg,Int.reduceAdd,Int.reduceSub,Int.reduceMul,Int.reduceToNat,Int.reducePow,Nat.reducePow, r1, Int.sign_zero]
        · have c5 : ¬ z.sign = 0 := by rw [Int.sign_eq_zero_iff_zero]; exact c4
          unfold nInt at r2
          unfold mkRule
          simp -dsimp (disch := first | omega | assumption | apply agg_two | apply agg_nInt | apply agg_rInt | (simp only [J1,J2,J3,J4,J5,J6,J7,J8]; omega)) only [i44, go_sem,↓reduceIte,reduceCtorEq,Nat.reduceEqDiff,Nat.reduceAdd,Nat.reduceSub,Nat.reduceMul,Nat.reduceLT,Nat.reduceLeDiff,Nat.reduceBEq,Nat.reduceBNe,Int.reduceLT,Int.reduceLE,Int.reduceEq,Int.reduceNeg,Int.reduceAdd,Int.reduceSub,Int.reduceMul,Int.reduceToNat,Int.reducePow,Nat.reducePow, r1, r2, c5, c4]
      · have c12 : ¬ (alg = 1 ∨ alg = 2) := by omega
        simp -dsimp (disch := first | omega | assumption | apply agg_two | apply agg_nInt | apply agg_rInt | (simp only [J1,J2,J3,J4,J5,J6,J7,J8]; omega)) only [i44, go_sem,↓reduceIte,reduceCtorEq,Nat.reduceEqDiff,Nat.reduceAdd,Nat.reduceSub,Nat.reduceMul,Nat.reduceLT,Nat.reduceLeDiff,Nat.reduceBEq,Nat.reduceBNe,Int.reduceLT,Int.reduceLE,Int.reduceEq,Int.reduceNeg,Int.reduceAdd,Int.reduceSub,Int.reduceMul,Int.reduceToNat,Int.reducePow,Nat.reducePow, c1, c2, c3]
theorem Algebra_ok {alg : Int} {b : Bool} {t : Tag} {xs : List FV} : ret tab.get an 51 [.ptr (.agg [.int .i64 alg, .bool b, .sl t xs])] = some (.int .i64 alg) := by
  refine ret_eq (fn := i51) rfl rfl ?_
  simp -dsimp only [i51]
  simp -dsimp (disch := first | omega | assumption | apply agg_two | apply agg_nInt | apply agg_rInt | (simp only [J1,J2,J3,J4,J5,J6,J7,J8]; omega)) only [i51, go_sem,↓reduceIte,reduceCtorEq,Nat.reduceEqDiff,Nat.reduceAdd,Nat.reduceSub,Nat.reduceMul,Nat.reduceLT,Nat.reduceLeDiff,Nat.reduceBEq,Nat.reduceBNe,Int.reduceLT,Int.reduceLE,Int.reduceEq,Int.reduceNeg,Int.reduceAdd,Int.reduceSub,Int.reduceMul,Int.reduceToNat,Int.reducePow,Nat.reducePow]
theorem RuleQ_ok {alg q : Int} {k : Nat} (hq : Bd k q) (hk : Fair k) : ret tab.get an 53 [mkRule alg q] = some (nInt q) := by
  have r2 := Add_ok (nInt_I hq (by omega)) IsI_zero hq (Bd.zero k) hk
  rw [Int.add_zero] at r2
  have ag := agg_nInt q
  unfold nInt at r2
  unfold mkRule nInt
  refine ret_eq (fn := i53) rfl rfl ?_
  simp -dsimp only [i53]
  simp -dsimp (disch := first | omega | assumption | apply agg_two | apply agg_nInt | apply agg_rInt | (simp only [J1,J2,J3,J4,J5,J6,J7,J8]; omega)) only [i53, go_sem,↓reduceIte,reduceCtorEq,Nat.reduceEqDiff,Nat.reduceAdd,Nat.reduceSub,Nat.reduceMul,Nat.reduceLT,Nat.reduceLeDiff,Nat.reduceBEq,Nat.reduceBNe,Int.reduceLT,Int.reduceLE,Int.reduceEq,Int.reduceNeg,Int.reduceAdd,Int.reduceSub,Int.reduceMul,Int.reduceToNat,Int.reducePow,Nat.reducePow, r2, cutR3]
def strI (q : Int) (P : List Int) (i : Nat) : List Int := rng P.length fun j => if j < i then atZ P j * q ^ j else atZ P j
def pstr (q : Int) (p : List Int) : List Int := strI q (ptrim p) (ptrim p).length
theorem strI_zero (q : Int) (P : List Int) : strI q P 0 = P := atZ_ext (by simp [strI, rng_len]) fun i hi => by
  rw [strI, atZ_rng]; rw [strI, rng_len] at hi; simp [hi]
theorem strI_len (q : Int) (P : List Int) (i : Nat) : (strI q P i).length = P.length := rng_len ..
theorem strI_get {q : Int} {P : List Int} {i : Nat} (h : i < P.length) : (strI q P i)[i]? = some (atZ P i) := by
  rw [getZ (by rw [strI_len]; exact h), strI, atZ_rng]; simp [h]
theorem strI_set {q : Int} {P : List Int} {i : Nat} (h : i < P.length) : (strI q P i).set i (atZ P i * q ^ i) = strI q P (i + 1) := atZ_ext (by simp [strI_len]) fun j hj => by
  rw [List.length_set, strI_len] at hj
  rw [atZ_set (by rw [strI_len]; exact h), strI, strI, atZ_rng, atZ_rng, if_pos hj, if_pos hj]
  by_cases e : i = j
  · subst e; simp
  · rw [if_neg e]
    by_cases e2 : j < i
    · rw [if_pos e2, if_pos (by omega)]
    · rw [if_neg e2, if_neg (by omega)]
theorem at_pstr (q : Int) (p : List Int) (i : Nat) : atZ (pstr q p) i = atZ p i * q ^ i := by
  rw [pstr, strI, atZ_rng]
  by_cases h : i < (ptrim p).length
  · rw [if_pos h, if_pos h, atZ_ptrim]
  · rw [if_neg h, ← atZ_ptrim p, atZ_out (by omega), Int.zero_mul]
theorem pstr_trimd {q : Int} (hq : q ≠ 0) (p : List Int) : Trimd (pstr q p) := by
  rcases ptrim_trimd p with h | h
  · left; unfold pstr; rw [h]; rfl
  · right
    have e : (pstr q p).length = (ptrim p).length := by rw [pstr, strI_len]
    rw [e, at_pstr, ← atZ_ptrim p]
    exact Int.mul_ne_zero h (Int.pow_ne_zero hq)
theorem Bd.powI {k : Nat} {q : Int} (h : Bd k q) : ∀ i : Nat, Bd (i * k + 1) (q ^ i)
  | 0 => by rw [Int.pow_zero]; show (1 : Int).natAbs < _; rw [Nat.zero_mul]; decide
  | i + 1 => by rw [Int.pow_succ]; exact ((Bd.powI h i).mul h).mono (by rw [Nat.add_mul]; omega)
theorem stretch_ok {x : FV} {p : List Int} {alg q : Int} {kp kq : Nat} (hx : IsP x p) (hs : Few p.length) (bp : PBd kp p) (hq : Bd kq q) (q0 : q ≠ 0) (hk : Fair (kp + p.length * kq + kq + 2)) :
    ret tab.get an 105 [mkRule alg q, x] = some (nPoly (pstr q p)) := by
  obtain ⟨t, ps, rfl, hp⟩ := hx
  have r1 := NormL_ok t hp bp (by omega) (by omega)
  have r2 : ret tab.get an 87 [.int .i64 1] = some (nInt 1) := Of_ok (by omega) (by omega)
  have l1 := ptrim_len p
  have a1 := agg_nInt 1
  unfold rowS at r1
  rw [ptrim_idem] at r1
  unfold mkRule
  refine ret_eq (fn := i105) rfl rfl ?_
  simp -dsimp only [i105]
  by_cases h0 : ptrim p = []
  · rw [if_pos h0, h0] at r1
    have e : pstr q p = [] := by unfold pstr; rw [h0]; rfl
    rw [e, nPoly_nil]
    simp -dsimp (disch := first | omega | assumption | apply agg_two | apply agg_nInt | apply agg_rInt | (simp only [J1,J2,J3,J4,J5,J6,J7,J8]; omega)) only [i105, ↓i105d0t, i105d0, ↓i105d1t, i105d1, go_sem,↓reduceIte,reduceCtorEq,Nat.reduceEqDiff,Nat.reduceAdd,Nat.reduceSub,Nat.reduceMul,Nat.reduceLT,Nat.reduceLeDiff,Nat.reduceBEq,Nat.reduceBNe,Int.reduceLT,Int.reduceLE,Int.reduceEq,Int.reduceNeg,Int.reduceAdd,Int.reduceSub,Int.reduceMul,Int.reduceToNat,Int.reducePow,Nat.reducePow, r1, r2]
    refine pW_loop (fun _ : Nat => ⟨[(0, .fv (.ptr (.agg [.int .i64 alg, .bool (decide (q < 0)), .sl (nTag q) (u32s (digs B32 q.natAbs))]))), (5, .fv (.sl .nil [])), (6, .ptr (.l 0) 2 0 0), (12, .fv (.int .i64 0)), (13, .fv (.int .i64 0))], [], [.own 2 [nInt 1]]⟩) (fun i => True) (fun i => i) 0 (by simp -dsimp (disch := first | omega | assumption | apply agg_two | apply agg_nInt | apply agg_rInt | (simp only [J1,J2,J3,J4,J5,J6,J7,J8]; omega)) only [go_sem,↓reduceIte,reduceCtorEq,Nat.reduceEqDiff,Nat.reduceAdd,Nat.reduceSub,Nat.reduceMul,Nat.reduceLT,Nat.reduceLeDiff,Nat.reduceBEq,Nat.reduceBNe,Int.reduceLT,Int.reduceLE,Int.reduceEq,Int.reduceNeg,Int.reduceAdd,Int.reduceSub,Int.reduceMul,Int.reduceToNat,Int.reducePow,Nat.reducePow]) trivial ?_
    intro i _
    simp -dsimp only [i105b0]
    simp -dsimp (disch := first | omega | assumption | apply agg_two | apply agg_nInt | apply agg_rInt | (simp only [J1,J2,J3,J4,J5,J6,J7,J8]; omega)) only [i105, ↓i105d0t, i105d0, ↓i105d1t, i105d1, go_sem,↓reduceIte,reduceCtorEq,Nat.reduceEqDiff,Nat.reduceAdd,Nat.reduceSub,Nat.reduceMul,Nat.reduceLT,Nat.reduceLeDiff,Nat.reduceBEq,Nat.reduceBNe,Int.reduceLT,Int.reduceLE,Int.reduceEq,Int.reduceNeg,Int.reduceAdd,Int.reduceSub,Int.reduceMul,Int.reduceToNat,Int.reducePow,Nat.reducePow]
  · rw [if_neg h0] at r1
    simp -dsimp (disch := first | omega | assumption | apply agg_two | apply agg_nInt | apply agg_rInt | (simp only [J1,J2,J3,J4,J5,J6,J7,J8]; omega)) only [i105, ↓i105d0t, i105d0, ↓i105d1t, i105d1, go_sem,↓reduceIte,reduceCtorEq,Nat.reduceEqDiff,Nat.reduceAdd,Nat.reduceSub,Nat.reduceMul,Nat.reduceLT,Nat.reduceLeDiff,Nat.reduceBEq,Nat.reduceBNe,Int.reduceLT,Int.reduceLE,Int.reduceEq,Int.reduceNeg,Int.reduceAdd,Int.reduceSub,Int.reduceMul,Int.reduceToNat,Int.reducePow,Nat.reducePow, r1, r2]
    refine pW_loop (fun i : Nat => ⟨[(0, .fv (.ptr (.agg [.int .i64 alg, .bool (decide (q < 0)), .sl (nTag q) (u32s (digs B32 q.natAbs))]))), (5, .ref (.l 0) 2 0 (ptrim p).length true), (6, .ptr (.l 1) 2 0 0), (12, .fv (.int .i64 ((ptrim p).length : Int))), (13, .fv (.int .i64 (i : Int)))], [], [.own 2 (nInts (strI q (ptrim p) i)), .own 2 [nInt (q ^ i)]]⟩) (fun i => i ≤ (ptrim p).length) (fun i => (ptrim p).length - i) 0 (by simp -dsimp (disch := first | omega | assumption | apply agg_two | apply agg_nInt | apply agg_rInt | (simp only [J1,J2,J3,J4,J5,J6,J7,J8]; omega)) only [go_sem,↓reduceIte,reduceCtorEq,Nat.reduceEqDiff,Nat.reduceAdd,Nat.reduceSub,Nat.reduceMul,Nat.reduceLT,Nat.reduceLeDiff,Nat.reduceBEq,Nat.reduceBNe,Int.reduceLT,Int.reduceLE,Int.reduceEq,Int.reduceNeg,Int.reduceAdd,Int.reduceSub,Int.reduceMul,Int.reduceToNat,Int.reducePow,Nat.reducePow, strI_zero, Int.pow_zero]) (by omega) ?_
    intro i hi
    by_cases hlt : i < (ptrim p).length
    · have hm : i * kq ≤ p.length * kq := Nat.mul_le_mul_right _ (by omega)
      have g1 := strI_get (q := q) hlt
      have b1 := bp.trim i
      have b2 := hq.powI i
      have m1 := Mul_ok (nInt_I b1 (by omega)) (nInt_I b2 (by omega)) b1 b2 (by omega)
      have m2 := Mul_ok (nInt_I b2 (by omega)) (nInt_I hq (by omega)) b2 hq (by omega)
      rw [← Int.pow_succ] at m2
      have a1 := agg_nInt (atZ (ptrim p) i)
      have a2 := agg_nInt (q ^ i)
      have a3 := agg_nInt (q ^ (i + 1))
      have a4 := agg_nInt (atZ (ptrim p) i * q ^ i)
      have e3 := strI_set (q := q) hlt
      have eq : nInt q = .agg [.bool (decide (q < 0)), .sl (nTag q) (u32s (digs B32 q.natAbs))] := rfl
      have e4 := strI_len q (ptrim p) i
      rw [eq] at m2
      simp -dsimp only [i105b0]
      simp -dsimp (disch := first | omega | assumption | apply agg_two | apply agg_nInt | apply agg_rInt | (simp only [J1,J2,J3,J4,J5,J6,J7,J8]; omega)) only [i105, ↓i105d0t, i105d0, ↓i105d1t, i105d1, go_sem,↓reduceIte,reduceCtorEq,Nat.reduceEqDiff,Nat.reduceAdd,Nat.reduceSub,Nat.reduceMul,Nat.reduceLT,Nat.reduceLeDiff,Nat.reduceBEq,Nat.reduceBNe,Int.reduceLT,Int.reduceLE,Int.reduceEq,Int.reduceNeg,Int.reduceAdd,Int.reduceSub,Int.reduceMul,Int.reduceToNat,Int.reducePow,Nat.reducePow, g1, m1, m2, cutR3, nInts_set, e3, e4]
      exact next ⟨i + 1, rfl, by omega, by omega⟩
    · have : i = (ptrim p).length := by omega
      subst this
      have hp2 : pstr q p = strI q (ptrim p) (ptrim p).length := rfl
      have l2 : (pstr q p).length = (ptrim p).length := strI_len ..
      have hne : pstr q p ≠ [] := fun h => h0 (List.eq_nil_of_length_eq_zero (by rw [← l2, h]; rfl))
      have e5 : nPoly (pstr q p) = .sl .any (nInts (pstr q p)) := by rw [nPoly, nTagP, if_neg hne]
      rw [e5, ← hp2]
      simp -dsimp only [i105b0]
      simp -dsimp (disch := first | omega | assumption | apply agg_two | apply agg_nInt | apply agg_rInt | (simp only [J1,J2,J3,J4,J5,J6,J7,J8]; omega)) only [i105, ↓i105d0t, i105d0, ↓i105d1t, i105d1, go_sem,↓reduceIte,reduceCtorEq,Nat.reduceEqDiff,Nat.reduceAdd,Nat.reduceSub,Nat.reduceMul,Nat.reduceLT,Nat.reduceLeDiff,Nat.reduceBEq,Nat.reduceBNe,Int.reduceLT,Int.reduceLE,Int.reduceEq,Int.reduceNeg,Int.reduceAdd,Int.reduceSub,Int.reduceMul,Int.reduceToNat,Int.reducePow,Nat.reducePow, l2]
def sig (alg q : Int) (p : List Int) : List Int := if alg = 1 then phorn [1, 1] (ptrim p) else if alg = 2 then ptrim p else pstr q p
def del (alg : Int) (p : List Int) : List Int := if alg = 2 then pderiv p else []
theorem bd11 : Bd 1 1 := show (1 : Int).natAbs < 2 ^ 1 by decide
theorem Sigma_ok {x : FV} {p : List Int} {alg q : Int} {kp kq : Nat} (hx : IsP x p) (hs : p.length ≤ 1000) (bp : PBd kp p) (hq : Bd kq q) (q0 : alg = 3 → q ≠ 0) (ha : alg = 1 ∨ alg = 2 ∨ alg = 3) (hk : Fair (kp + p.length * kq + kq + 3000000)) :
    ret tab.get an 47 [mkRule alg q, x] = some (nPoly (sig alg q p)) := by
  have r1 : ret tab.get an 51 [mkRule alg q] = some (.int .i64 alg) := Algebra_ok
  have r2 : ret tab.get an 87 [.int .i64 1] = some (nInt 1) := Of_ok (by omega) (by omega)
  have hm : p.length * (1 + p.length + 1) ≤ 1000 * 1002 := Nat.mul_le_mul hs (by omega)
  obtain ⟨t, ps, rfl⟩ := hx.one
  rcases ha with rfl | rfl | rfl
  · have r3 := PShift_ok (a := 1) (ka := 1) (K := kp + 1002000) hx (nInt_I (k := 1) bd11 (by omega)) (by omega) bd11 (by omega) bp (by omega) (by omega)
    have e : sig 1 q p = phorn [1, 1] (ptrim p) := rfl
    rw [e]
    unfold mkRule at *
    refine ret_eq (fn := i47) rfl rfl ?_
    simp -dsimp only [i47]
    simp -dsimp (disch := first | omega | assumption | apply agg_two | apply agg_nInt | apply agg_rInt | (simp only [J1,J2,J3,J4,J5,J6,J7,J8]; omega)) only [i47, go_sem,↓reduceIte,reduceCtorEq,Nat.reduceEqDiff,Nat.reduceAdd,Nat.reduceSub,Nat.reduceMul,Nat.reduceLT,Nat.reduceLeDiff,Nat.reduceBEq,Nat.reduceBNe,Int.reduceLT,Int.reduceLE,Int.reduceEq,Int.reduceNeg,Int.reduceAdd,Int.reduceSub,Int.reduceMul,Int.reduceToNat,Int.reducePow,Nat.reducePow, r1, r2, r3]
  · have r3 := Norm_ok hx bp (by omega) (by omega)
    have e : sig 2 q p = ptrim p := rfl
    rw [e]
    unfold mkRule at *
    refine ret_eq (fn := i47) rfl rfl ?_
    simp -dsimp only [i47]
    simp -dsimp (disch := first | omega | assumption | apply agg_two | apply agg_nInt | apply agg_rInt | (simp only [J1,J2,J3,J4,J5,J6,J7,J8]; omega)) only [i47, go_sem,↓reduceIte,reduceCtorEq,Nat.reduceEqDiff,Nat.reduceAdd,Nat.reduceSub,Nat.reduceMul,Nat.reduceLT,Nat.reduceLeDiff,Nat.reduceBEq,Nat.reduceBNe,Int.reduceLT,Int.reduceLE,Int.reduceEq,Int.reduceNeg,Int.reduceAdd,Int.reduceSub,Int.reduceMul,Int.reduceToNat,Int.reducePow,Nat.reducePow, r1, r2, r3]
  · have r3 := stretch_ok (alg := 3) hx (by omega) bp hq (q0 rfl) (by omega)
    have e : sig 3 q p = pstr q p := rfl
    rw [e]
    unfold mkRule at *
    refine ret_eq (fn := i47) rfl rfl ?_
    simp -dsimp only [i47]
    simp -dsimp (disch := first | omega | assumption | apply agg_two | apply agg_nInt | apply agg_rInt | (simp only [J1,J2,J3,J4,J5,J6,J7,J8]; omega)) only [i47, go_sem,↓reduceIte,reduceCtorEq,Nat.reduceEqDiff,Nat.reduceAdd,Nat.reduceSub,Nat.reduceMul,Nat.reduceLT,Nat.reduceLeDiff,Nat.reduceBEq,Nat.reduceBNe,Int.reduceLT,Int.reduceLE,Int.reduceEq,Int.reduceNeg,Int.reduceAdd,Int.reduceSub,Int.reduceMul,Int.reduceToNat,Int.reducePow,Nat.reducePow, r1, r2, r3]
theorem Delta_ok {x : FV} {p : List Int} {alg q : Int} {kp : Nat} (hx : IsP x p) (hs : Few p.length) (bp : PBd kp p) (hk : Fair (kp + 64)) :
    ret tab.get an 49 [mkRule alg q, x] = some (nPoly (del alg p)) := by
  have r1 : ret tab.get an 51 [mkRule alg q] = some (.int .i64 alg) := Algebra_ok
  have r3 := PDeriv_ok hx hs bp hk
  obtain ⟨t, ps, rfl⟩ := hx.one
  unfold del
  by_cases e : alg = 2
  · subst e
    rw [if_pos rfl]
    unfold mkRule at *
    refine ret_eq (fn := i49) rfl rfl ?_
    simp -dsimp only [i49]
    simp -dsimp (disch := first | omega | assumption | apply agg_two | apply agg_nInt | apply agg_rInt | (simp only [J1,J2,J3,J4,J5,J6,J7,J8]; omega)) only [i49, go_sem,↓reduceIte,reduceCtorEq,Nat.reduceEqDiff,Nat.reduceAdd,Nat.reduceSub,Nat.reduceMul,Nat.reduceLT,Nat.reduceLeDiff,Nat.reduceBEq,Nat.reduceBNe,Int.reduceLT,Int.reduceLE,Int.reduceEq,Int.reduceNeg,Int.reduceAdd,Int.reduceSub,Int.reduceMul,Int.reduceToNat,Int.reducePow,Nat.reducePow, r1, r3]
  · rw [if_neg e, nPoly_nil]
    unfold mkRule at *
    refine ret_eq (fn := i49) rfl rfl ?_
    simp -dsimp only [i49]
    simp -dsimp (disch := first | omega | assumption | apply agg_two | apply agg_nInt | apply agg_rInt | (simp only [J1,J2,J3,J4,J5,J6,J7,J8]; omega)) only [i49, go_sem,↓reduceIte,reduceCtorEq,Nat.reduceEqDiff,Nat.reduceAdd,Nat.reduceSub,Nat.reduceMul,Nat.reduceLT,Nat.reduceLeDiff,Nat.reduceBEq,Nat.reduceBNe,Int.reduceLT,Int.reduceLE,Int.reduceEq,Int.reduceNeg,Int.reduceAdd,Int.reduceSub,Int.reduceMul,Int.reduceToNat,Int.reducePow,Nat.reducePow, r1, r3]
end Go.Proofs.YtklelbidjcealaaGreat
namespace Go.Proofs.YtklelbidjcealaaGreat
open Go Go.Ab
theorem i71d0u : annU i71d0 = some [(2,[0,1],some [],true,false),(2,[0,1],some [],true,false),(2,[0,1],some [],true,false),(2,[0,1],some [],true,false),(2,[0,1],some [],true,false),(2,[0,1],some [],false,false),(0,[0,1],some [],false,false),(0,[0,1],some [],false,false),(1,[],none,false,true),(1,[],none,false,true),(1,[],some [],false,false)]:=by kernel_rfl
theorem i81d0u : annU i81d0 = some [(2,[],some [],false,false),(2,[],some [],true,false),(2,[],some [],false,false),(2,[],some [],false,false),(2,[],some [],false,false),(2,[],some [],false,false),(1,[],some [],true,false),(3,[],some [],true,false),(1,[],some [2],false,true)]:=by kernel_rfl
theorem i92d0u : annU i92d0 = some [(2,[0],some [],true,false),(2,[0],some [],true,false),(2,[0],some [],true,false),(2,[0],some [],false,false),(2,[0],some [],true,false),(2,[0],some [],false,false),(0,[0],some [],false,false),(1,[],none,false,true),(1,[],some [],false,false),(1,[],some [],false,false)]:=by kernel_rfl
theorem i118d0u : annU i118d0 = some [(2,[],some [],false,false),(2,[],some [],false,false),(2,[],some [],true,false),(2,[],some [],false,false),(2,[],some [],true,false),(2,[],some [],false,false),(2,[],some [],false,false),(2,[],some [],true,false),(2,[],some [],false,false),(2,[],none,true,false),(2,[],some [],false,false),(1,[],none,false,true),(3,[],some [],false,false),(1,[],none,false,true)]:=by kernel_rfl
theorem i135d0u : annU i135d0 = some [(2,[0,1],some [],false,false),(2,[0,1],some [],false,false),(2,[0,1],some [],false,false),(2,[0,1],some [],false,false),(2,[0,1],some [],false,false),(2,[0,1],some [],true,false),(2,[0,1],some [],false,false),(2,[0,1],some [],false,false),(2,[0,1],some [],false,false),(2,[0,1],some [],false,false),(2,[0,1],some [],false,false),(2,[0,1],some [],true,false),(2,[0,1],some [],false,false),(2,[0,1],some [],false,false),(2,[0,1],some [],true,false),(2,[0,1],none,true,false),(2,[0,1],none,false,false),(0,[0,1],some [],false,false),(0,[0,1],some [],false,false),(1,[],none,false,true),(1,[],none,false,true),(1,[],some [],false,false)]:=by kernel_rfl
theorem i136d0u : annU i136d0 = some [(2,[0,1],some [],true,false),(2,[0,1],some [],true,false),(2,[0,1],some [],true,false),(2,[0,1],some [],true,false),(0,[0,1],some [],false,false),(0,[0,1],some [],false,false),(1,[],none,false,true),(1,[],none,false,true)]:=by kernel_rfl
theorem i136d1u : annU i136d1 = some [(2,[],some [],true,false),(2,[],some [5],true,false),(1,[],some [5],false,true),(1,[],some [6],false,true)]:=by kernel_rfl
theorem i141d2u : annU i141d2 = some [(2,[],some [],true,false),(2,[],some [4],true,false),(1,[],some [4],false,true),(1,[],some [5],false,true)]:=by kernel_rfl
theorem i167d0u : annU i167d0 = some [(2,[],some [],false,false),(1,[],some [],false,false),(2,[],some [],true,false),(2,[],some [],false,false),(1,[],none,false,true),(1,[],some [],false,false)]:=by kernel_rfl
theorem i170d0u : annU i170d0 = some [(2,[0,1],some [],false,false),(2,[0,1],some [],false,false),(2,[0,1],some [],false,false),(2,[0,1],some [],true,false),(2,[0,1],some [],true,false),(2,[0,1],some [],false,false),(2,[0,1],some [],false,false),(2,[0,1],some [],true,false),(2,[0,1],none,true,false),(0,[0,1],some [],false,false),(0,[0,1],some [],false,false),(1,[],none,false,true),(1,[],none,false,true)]:=by kernel_rfl
end Go.Proofs.YtklelbidjcealaaGreat
namespace Go.Proofs.YtklelbidjcealaaGreat
open Go Go.Ab
theorem cutL00 : cutL ([] : List FV) 0 0 = [] := rfl
theorem Cut1_ok {b : Bool} {t : Tag} {xs : List Nat} (hl : xs.length ≤ 9223372036854775807) : ∃ t', ret tab.get an 81 [.agg [.bool b, .sl t (u32s xs)]] = some (.agg [.bool b, .sl t' (u32s (xs.take 24))]) := by
  refine ⟨if xs = [] then .nil else .any, ?_⟩
  have e1 : (u32s xs).length = xs.length := by simp
  have e2 : ∀ n, (u32s xs).take n = u32s (xs.take n) := fun n => List.map_take.symm
  refine ret_eq (fn := i81) rfl rfl ?_
  simp -dsimp only [i81]
  by_cases h : xs.length > 24
  · have n1 : (xs.take 24).length = 24 := by rw [List.length_take]; omega
    have n2 : ¬ xs.take 24 = [] := fun h => by rw [h] at n1; cases n1
    have n3 : ¬ xs = [] := fun h' => by rw [h'] at h; simp at h
    rw [if_neg n3]
    simp -dsimp (disch := first | omega | assumption | apply agg_two | apply agg_nInt | apply agg_rInt | (simp only [J1,J2,J3,J4,J5,J6,J7,J8]; omega)) only [i81, go_sem,↓reduceIte,reduceCtorEq,Nat.reduceEqDiff,Nat.reduceAdd,Nat.reduceSub,Nat.reduceMul,Nat.reduceLT,Nat.reduceLeDiff,Nat.reduceBEq,Nat.reduceBNe,Int.reduceLT,Int.reduceLE,Int.reduceEq,Int.reduceNeg,Int.reduceAdd,Int.reduceSub,Int.reduceMul,Int.reduceToNat,Int.reducePow,Nat.reducePow, h]
    rw [i81d0t, callQ_f, pW_drawU i81d0u]
    simp -dsimp (disch := first | omega | assumption | apply agg_two | apply agg_nInt | apply agg_rInt | (simp only [J1,J2,J3,J4,J5,J6,J7,J8]; omega)) only [go_sem,↓reduceIte,reduceCtorEq,Nat.reduceEqDiff,Nat.reduceAdd,Nat.reduceSub,Nat.reduceMul,Nat.reduceLT,Nat.reduceLeDiff,Nat.reduceBEq,Nat.reduceBNe,Int.reduceLT,Int.reduceLE,Int.reduceEq,Int.reduceNeg,Int.reduceAdd,Int.reduceSub,Int.reduceMul,Int.reduceToNat,Int.reducePow,Nat.reducePow, go_sem, ↓i81d0, ↓sq, ↓sa, ↓se, i81, e2, n1, n2, List.all_cons, List.all_nil]
  · have n1 : (xs.take 24).length = xs.length := by rw [List.length_take]; omega
    have n0 : xs.take 24 = xs := List.take_of_length_le (by omega)
    rw [n0]
    by_cases n3 : xs = []
    · subst n3
      simp -dsimp (disch := first | omega | assumption | apply agg_two | apply agg_nInt | apply agg_rInt | (simp only [J1,J2,J3,J4,J5,J6,J7,J8]; omega)) only [i81, go_sem,↓reduceIte,reduceCtorEq,Nat.reduceEqDiff,Nat.reduceAdd,Nat.reduceSub,Nat.reduceMul,Nat.reduceLT,Nat.reduceLeDiff,Nat.reduceBEq,Nat.reduceBNe,Int.reduceLT,Int.reduceLE,Int.reduceEq,Int.reduceNeg,Int.reduceAdd,Int.reduceSub,Int.reduceMul,Int.reduceToNat,Int.reducePow,Nat.reducePow, h]
      rw [i81d0t, callQ_f, pW_drawU i81d0u]
      simp -dsimp (disch := first | omega | assumption | apply agg_two | apply agg_nInt | apply agg_rInt | (simp only [J1,J2,J3,J4,J5,J6,J7,J8]; omega)) only [go_sem,↓reduceIte,reduceCtorEq,Nat.reduceEqDiff,Nat.reduceAdd,Nat.reduceSub,Nat.reduceMul,Nat.reduceLT,Nat.reduceLeDiff,Nat.reduceBEq,Nat.reduceBNe,Int.reduceLT,Int.reduceLE,Int.reduceEq,Int.reduceNeg,Int.reduceAdd,Int.reduceSub,Int.reduceMul,Int.reduceToNat,Int.reducePow,Nat.reducePow, go_sem, ↓i81d0, ↓sq, ↓sa, ↓se, i81, e2, cutL00, List.all_cons, List.all_nil]
    · rw [if_neg n3]
      simp -dsimp (disch := first | omega | assumption | apply agg_two | apply agg_nInt | apply agg_rInt | (simp only [J1,J2,J3,J4,J5,J6,J7,J8]; omega)) only [i81, go_sem,↓reduceIte,reduceCtorEq,Nat.reduceEqDiff,Nat.reduceAdd,Nat.reduceSub,Nat.reduceMul,Nat.reduceLT,Nat.reduceLeDiff,Nat.reduceBEq,Nat.reduceBNe,Int.reduceLT,Int.reduceLE,Int.reduceEq,Int.reduceNeg,Int.reduceAdd,Int.reduceSub,Int.reduceMul,Int.reduceToNat,Int.reducePow,Nat.reducePow, h]
      rw [i81d0t, callQ_f, pW_drawU i81d0u]
      simp -dsimp (disch := first | omega | assumption | apply agg_two | apply agg_nInt | apply agg_rInt | (simp only [J1,J2,J3,J4,J5,J6,J7,J8]; omega)) only [go_sem,↓reduceIte,reduceCtorEq,Nat.reduceEqDiff,Nat.reduceAdd,Nat.reduceSub,Nat.reduceMul,Nat.reduceLT,Nat.reduceLeDiff,Nat.reduceBEq,Nat.reduceBNe,Int.reduceLT,Int.reduceLE,Int.reduceEq,Int.reduceNeg,Int.reduceAdd,Int.reduceSub,Int.reduceMul,Int.reduceToNat,Int.reducePow,Nat.reducePow, go_sem, ↓i81d0, ↓sq, ↓sa, ↓se, i81, e2, n3, List.all_cons, List.all_nil]
end Go.Proofs.YtklelbidjcealaaGreat
namespace Go.Ab
open Go.ChangeShapes
theorem heap_start (w : World) (ρ : Rho) : Heap w (fun _ => False) ρ [] [] := by
  have hd : ∀ i, ent ([] : List Ent) [] i = .dead := fun i => by cases i <;> simp [ent]
  refine ⟨fun i j hi => ?_, fun i hi => ?_, fun b h => h.elim, fun i sz xs h => ?_, fun i sz xs h => ?_⟩
  · rw [hd] at hi; simp [Ent.isOwn] at hi
  · rw [hd] at hi; simp [Ent.isOwn] at hi
  · rw [hd] at h; cases h
  · rw [hd] at h; cases h
theorem known_calls {P : Program} {fns : FuncId → Option IFn} {an : Ann} (ht : TabOK P fns) (hm : P.follows .mixedOrders = true) {f : FuncId} {xs : List FV} {b : Bool} {B' L' : List Ent}
    (h : Has fns an ⟨f, xs.map .fv, [], (.fv (.bool b), B', L')⟩) {W : World} {vs : Array Value} (hl : vs.size = xs.length) (hr : ∀ j v x, At vs j = some v → xs[j]? = some x → Rd W (fun _ => False) v x) :
    Calls P f vs W fun e W' => e = .returned (.bool b) ∧ Chg (fun _ => False) W W' := by
  obtain ⟨n, hn⟩ := h
  refine ((good_evF ht hm n).run _ _ _ _ _ _ hn W (fun _ => False) (fun _ => (0, 0)) vs (heap_start W _) (by simp [hl]) fun j v s hv hs => ?_).mono ?_
  · simp only [List.getElem?_map, Option.map_eq_some_iff] at hs
    obtain ⟨x, hx, rfl⟩ := hs
    exact Rd.congrA (fun b h => (Av_none _ _ b).1 h) (hr j v x hv hx)
  · rintro e W' ⟨v, ρ', rfl, hx, hs⟩
    refine ⟨?_, hx.chg.mono fun k _ ⟨i, hi, _⟩ => ?_⟩
    · rw [Rd.inv_bool hs]
    · have hd : ent ([] : List Ent) [] i = .dead := by cases i <;> simp [ent]
      rw [hd] at hi; simp [Ent.isOwn] at hi
theorem chg_kept {W W' : World} (h : Chg (fun _ => False) W W') (may : MemPlace → Prop) : W.keptBut W' may := by
  refine ⟨h.os, h.output, fun i hi => ?_⟩
  rw [h.block i hi (fun h => h)]
  cases he : W.heap[i]? with
  | none => rfl
  | some o => cases o <;> simp
theorem trodAll_bool {H : Type} {enc : TypeId × Value → H} {P : Program} {W : World} {b : Nat} {sp : Nat → Bool} {hd : Bool} {t : TypeId} (ht : P.underlying t = some .bool) (x : Bool) :
    DataW.TrodAll enc P W b sp hd [t] [.bool x] [.lit (.bool x)] [] :=
  ⟨[], [], ⟨1, by
    have hc : (Value.bool x).cells.toList = [.bool x] := rfl
    rw [hc]; simp [DataW.trod, ht]⟩, rfl, rfl⟩
theorem post_of_chg {H : Type} {enc : TypeId × Value → H} {P : Program} {f : Func} {s : ChangeSpec} {apart fresh handsOn again : Bool} {W W' : World} {args : Array Value} {ds gs : List (DataW H)} {before : List MemPlace} {t : TypeId}
    (hW : DataW.Whole enc P f.params.toList s.vars apart W args.toList ds gs before) (hc : Chg (fun _ => False) W W')
    (hrt : f.resultTypes = #[t]) (ht : P.underlying t = some .bool) (hres : (s.fn H (ds ++ gs)).results = [.lit (.bool true)]) (hv : s.vars = [])
    (hvs : (s.fn H (ds ++ gs)).vars = [])
    (hargs : ∀ sp : Nat → Bool, (∀ p ∈ before, sp p.block = true) → DataW.TrodAll enc P W' 0 sp true f.params.toList args.toList (s.fn H (ds ++ gs)).args before) :
    s.post enc P f apart fresh handsOn again W args (.bool true) W' := by
  have hold : ∀ p ∈ before, (fun b => decide (b < W.heap.size)) p.block = true := fun p hp => by simpa using hW.lt p hp
  have hlt := hW.lt
  have res : ∀ (b : Nat) (sp : Nat → Bool) (hd : Bool), DataW.TrodAll enc P W' b sp hd f.resultTypes.toList ((Value.bool true).resultList f.resultTypes.size) (s.fn H (ds ++ gs)).results [] := by
    intro b sp hd
    rw [hrt, hres]
    exact trodAll_bool ht true
  have vars : ∀ sp : Nat → Bool, DataW.TrodVars enc P W' sp s.vars (s.fn H (ds ++ gs)).vars [] := by
    intro sp
    rw [hv, hvs]; rfl
  refine ⟨ds, gs, before, [], before, [], hW, res _ _ _, hargs _ hold, vars _, World.keptBut_mono (fun p hp => ⟨hp, .inr (.inl hp)⟩) (chg_kept hc _), fun _ => ?_⟩
  obtain ⟨p, q, _, _, hp, hz, hn⟩ := hW
  refine ⟨fun j t' r h1 h2 => ?_, _, _, ([] ++ before) ++ [], ⟨[] ++ before, [], trodAll_append (hargs _ (fun _ _ => rfl)) (res _ _ _), vars _, rfl, ?_, ?_⟩, ?_⟩
  · rw [hrt] at h1 h2
    have hj : j = 0 := by
      cases j with
      | zero => rfl
      | succ j => simp at h1
    subst hj
    simp at h1
    subst h1
    have : (Value.bool true).resultList 1 = [.bool true] := rfl
    have h2' : ((Value.bool true).resultList 1)[0]? = some r := h2
    rw [this] at h2'
    simp at h2'
    subst h2'
    simp [Value.okWide, ht, Cell.okWide, Cell.ok]
  · intro b off hp'
    have hp2 : MemPlace.cell b off ∈ before := by simpa using hp'
    have hb : b < W.heap.size := hlt _ hp2
    have := hz b off hp2
    simp only [World.frozen?] at this ⊢
    rw [hc.block b hb (fun h => h)]; exact this
  · intro ha
    simpa using hn ha
  · intro p hp _
    simpa using hp
end Go.Ab
namespace Go.Ab
abbrev No : Nat → Prop := fun _ => False
section
variable {H : Type} {enc : TypeId × Value → H} {P : Program} {w : World} {sp : Nat → Bool} {hd : Bool}
def RdC (w : World) (cs : List Value) (x : FV) : Prop := x.cells.length = cs.length ∧ (∀ y ∈ x.cells, y.one = true) ∧ ∀ (j : Nat) (v : Value) (y : FV), cs[j]? = some v → x.cells[j]? = some y → Rd w No v y
theorem mapM_get {α β : Type} {f : α → Option β} : ∀ {l : List α} {ys : List β}, l.mapM f = some ys → ys.length = l.length ∧ ∀ (i : Nat) (x : α), l[i]? = some x → ∃ y, ys[i]? = some y ∧ f x = some y
  | [], ys, h => by simp at h; subst h; exact ⟨rfl, fun i x hx => by simp at hx⟩
  | a :: r, ys, h => by
    rw [List.mapM_cons] at h
    cases hf : f a with
    | none => rw [hf] at h; cases h
    | some b =>
      cases hr : r.mapM f with
      | none => rw [hf, hr] at h; cases h
      | some zs =>
        rw [hf, hr] at h
        injection h with h
        subst h
        obtain ⟨h1, h2⟩ := mapM_get hr
        refine ⟨by simp [h1], fun i x hx => ?_⟩
        cases i with
        | zero => simp at hx; subst hx; exact ⟨b, rfl, hf⟩
        | succ i => simp at hx; simpa using h2 i x hx
theorem exists_list {α : Type} {Q : Nat → α → Prop} : ∀ (n : Nat), (∀ i, i < n → ∃ x, Q i x) → ∃ xs : List α, xs.length = n ∧ ∀ i x, xs[i]? = some x → Q i x
  | 0, _ => ⟨[], rfl, fun i x h => by simp at h⟩
  | n + 1, h => by
    obtain ⟨xs, hl, hq⟩ := exists_list n fun i hi => h i (by omega)
    obtain ⟨x, hx⟩ := h n (by omega)
    refine ⟨xs ++ [x], by simp [hl], fun i y hy => ?_⟩
    rcases Nat.lt_trichotomy i n with c | c | c
    · rw [List.getElem?_append_left (by omega)] at hy; exact hq i y hy
    · subst c
      rw [List.getElem?_append_right (by omega), hl, Nat.sub_self] at hy
      simp at hy; subst hy; exact hx
    · rw [List.getElem?_eq_none (by simp; omega)] at hy; cases hy
theorem trod_int {k : IntKind} {t : TypeId} (ht : P.underlying t = some (.int k)) {n : Nat} {cs : List Value} {d : DataW H} {ps : List MemPlace} (h : DataW.trod enc P w 0 sp hd n t cs = some (d, ps)) :
    ∃ x, cs = [.int k x] ∧ (Lit.int k x).wf = true := by
  cases n with
  | zero => cases h
  | succ n =>
    simp only [DataW.trod, ht] at h
    split at h
    all_goals first | (cases h; done) | skip
    all_goals rename_i h1
    all_goals first | (cases h1; done) | skip
    split at h
    next hc =>
      obtain ⟨rfl, hw⟩ := hc
      injection h1 with h1; injection h1 with h1; subst h1
      exact ⟨_, rfl, hw⟩
    · cases h
theorem trod_bool {t : TypeId} (ht : P.underlying t = some .bool) {n : Nat} {cs : List Value} {d : DataW H} {ps : List MemPlace} (h : DataW.trod enc P w 0 sp hd n t cs = some (d, ps)) :
    ∃ b, cs = [.bool b] := by
  cases n with
  | zero => cases h
  | succ n =>
    simp only [DataW.trod, ht] at h
    split at h
    all_goals first | (cases h; done) | skip
    all_goals rename_i h1
    all_goals first | (cases h1; done) | skip
    exact ⟨_, rfl⟩
theorem trod_struct {t : TypeId} {fs : Array Field} (ht : P.underlying t = some (.struct fs)) {n : Nat} {cs : List Value} {d : DataW H} {ps : List MemPlace} (h : DataW.trod enc P w 0 sp hd n t cs = some (d, ps)) :
    cs.length = P.cellsOf t ∧ ∃ n', ∀ f ∈ fs.toList, ∃ d' p', DataW.trod enc P w 0 sp hd n' f.type ((cs.drop f.offset).take (P.cellsOf f.type)) = some (d', p') := by
  cases n with
  | zero => cases h
  | succ n =>
    simp only [DataW.trod, ht] at h
    split at h
    all_goals first | (cases h; done) | skip
    next hc =>
      refine ⟨hc, n, fun f hf => ?_⟩
      rw [Option.map_eq_some_iff] at h
      obtain ⟨xs, hx, _⟩ := h
      obtain ⟨i, hi⟩ := List.mem_iff_getElem?.1 hf
      obtain ⟨y, _, hy⟩ := (mapM_get hx).2 i f hi
      exact ⟨y.1, y.2, hy⟩
theorem cell_spot {w : World} {a : Addr} {v : Value} (h : w.cell? a = some v) : a = ⟨a.block, a.off, none⟩ := by
  obtain ⟨b, o, s⟩ := a
  cases s with
  | none => rfl
  | some x =>
    simp only [World.cell?] at h
    split at h
    · simp at h
    · cases h
theorem cell_addr {a : Addr} (h : a.spot = none) (n : Nat) : a.add n = ⟨a.block, a.off + n, none⟩ := by
  unfold Addr.add
  obtain ⟨b, o, s⟩ := a
  cases h
  split
  next hn => subst hn; rfl
  · rfl
theorem trod_slice {t e : TypeId} {sz : Nat} (ht : P.underlying t = some (.slice e)) (hz : P.cellsOf e = sz) (h0 : 0 < sz) (E : FV → Prop)
    (hE : ∀ n cs d ps, cs.length = sz → DataW.trod enc P w 0 sp hd n e cs = some (d, ps) → ∃ x, E x ∧ RdC w cs x) {n : Nat} {cs : List Value} {d : DataW H} {ps : List MemPlace} (h : DataW.trod enc P w 0 sp hd n t cs = some (d, ps)) :
    ∃ (v : Value) (xs : List FV), cs = [v] ∧ Rd w No v (.sl .any xs) ∧ (∀ x ∈ xs, E x) ∧ xs.length ≤ 9223372036854775807 := by
  cases n with
  | zero => cases h
  | succ n =>
    simp only [DataW.trod, ht] at h
    split at h
    all_goals first | (cases h; done) | skip
    all_goals rename_i h1
    all_goals first | (cases h1; done) | skip
    · exact ⟨_, [], rfl, Rd.slE _ _ _ trivial, fun x hx => (by cases hx), by simp⟩
    · rename_i a len cap
      injection h1 with h1; injection h1 with h1; subst h1
      split at h
      next hc =>
        obtain ⟨_, hlc, hcm⟩ := hc
        rw [Option.bind_eq_some_iff] at h
        obtain ⟨el, hel, _⟩ := h
        have hm := mapM_get hel
        rw [hz] at hm
        have each : ∀ i, i < len → ∃ x : FV, E x ∧ x.cells.length = sz ∧ (∀ y ∈ x.cells, y.one = true) ∧ ∀ j y, j < sz → x.cells[j]? = some y → ∃ v, w.cell? ((a.add (i * sz)).add j) = some v ∧ Rd w No v y := by
          intro i hi
          obtain ⟨y, _, hy⟩ := hm.2 i i (by rw [List.getElem?_range hi])
          rw [Option.bind_eq_some_iff] at hy
          obtain ⟨es, hes, hd'⟩ := hy
          simp only [World.cells?, Nat.zero_le, if_true] at hes
          obtain ⟨hl, hg⟩ := mapM_get hes
          rw [List.length_range] at hl
          obtain ⟨x, hx, r1, r2, r3⟩ := hE n es y.1 y.2 hl hd'
          refine ⟨x, hx, by omega, r2, fun j z hj hz' => ?_⟩
          obtain ⟨v, hv, hcv⟩ := hg j j (by rw [List.getElem?_range hj])
          exact ⟨v, hcv, r3 j v z hv hz'⟩
        obtain ⟨xs, hxl, hxs⟩ := exists_list len each
        have hlen : xs.length ≤ 9223372036854775807 := by
          have : cap ≤ 2 ^ 63 - 1 := hcm
          omega
        have hw : ∀ x ∈ xs, x.cells.length = sz ∧ ∀ y ∈ x.cells, y.one = true := fun x hx => by
          obtain ⟨i, hi⟩ := List.mem_iff_getElem?.1 hx
          have := hxs i x hi
          exact ⟨this.2.1, this.2.2.1⟩
        refine ⟨_, xs, rfl, ?_, fun x hx => ?_, hlen⟩
        · rcases Nat.eq_zero_or_pos len with h00 | hpos
          · subst h00
            have : xs = [] := List.eq_nil_of_length_eq_zero hxl
            subst this
            exact Rd.slE _ _ _ trivial
          · have hne : xs ≠ [] := fun h' => by rw [h'] at hxl; simp at hxl; omega
            have hsp : a.spot = none := by
              have hx0 : xs[0]? = some (xs[0]'(by omega)) := List.getElem?_eq_getElem (by omega)
              obtain ⟨_, l0, _, c0⟩ := hxs 0 _ hx0
              obtain ⟨v, hv, _⟩ := c0 0 ((xs[0]'(by omega)).cells[0]'(by omega)) h0 (List.getElem?_eq_getElem (by omega))
              have : (a.add (0 * sz)).add 0 = a := by rw [Nat.zero_mul]; rfl
              rw [this] at hv
              have := cell_spot hv
              rw [this]
            have haddr : ∀ i j, (a.add (i * sz)).add j = ⟨a.block, a.off + (i * sz + j), none⟩ := fun i j => by
              rw [cell_addr hsp, cell_addr rfl, Nat.add_assoc]
            have hfl := flat_length xs fun x hx => (hw x hx).1
            have key : ∀ j, j < (flat xs).length → ∃ v, w.cell? ⟨a.block, a.off + j, none⟩ = some v ∧ ∀ x, (flat xs)[j]? = some x → Rd w No v x := by
              intro j hj
              rw [hfl] at hj
              have hi : j / sz < len := by rw [hxl] at hj; exact Nat.div_lt_of_lt_mul (by rwa [Nat.mul_comm] at hj)
              have hr : j % sz < sz := Nat.mod_lt _ h0
              have hx0 : xs[j / sz]? = some (xs[j / sz]'(by omega)) := List.getElem?_eq_getElem (by omega)
              obtain ⟨_, l0, _, c0⟩ := hxs _ _ hx0
              obtain ⟨v, hv, hrd⟩ := c0 (j % sz) ((xs[j / sz]'(by omega)).cells[j % sz]'(by omega)) hr (List.getElem?_eq_getElem (by omega))
              have e1 : j / sz * sz + j % sz = j := Nat.div_add_mod' j sz
              rw [haddr, e1] at hv
              refine ⟨v, hv, fun x hx => ?_⟩
              have := getElem?_flat xs (j / sz) _ (fun x hx => (hw x hx).1) hx0 (j % sz) hr
              rw [e1, hx, List.getElem?_eq_getElem (by omega)] at this
              injection this with this
              rw [this]; exact hrd
            have ha : a = ⟨a.block, a.off, none⟩ := by obtain ⟨b, o, s⟩ := a; cases hsp; rfl
            have hlen2 : xs.length = len := hxl
            subst hlen2
            rw [ha]
            refine Rd.sl .any xs sz a.block a.off cap (fun j => (w.cell? ⟨a.block, a.off + j, none⟩).getD (.bool false)) h0 hne hlc hw (fun h => h) (fun j hj => ?_) (fun j x hx => ?_) trivial
            · obtain ⟨v, hv, _⟩ := key j hj; rw [hv]; rfl
            · obtain ⟨v, hv, hrd⟩ := key j (by rcases Nat.lt_or_ge j (flat xs).length with h | h; exact h; rw [List.getElem?_eq_none h] at hx; cases hx)
              rw [hv]; exact hrd x hx
        · obtain ⟨i, hi⟩ := List.mem_iff_getElem?.1 hx
          exact (hxs i x hi).1
      · cases h
end
end Go.Ab
