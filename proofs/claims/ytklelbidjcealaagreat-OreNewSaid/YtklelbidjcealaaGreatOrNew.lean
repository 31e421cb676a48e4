/- Whatever the input, the law OreNew of the package ashlarlaw8 returns true, and the input reads as it did. No further condition. -/
import Derived.Test.YtklelbidjcealaaGreatG6
import Derived.Test.YtklelbidjcealaaGreatRows
namespace Go.Proofs.YtklelbidjcealaaGreat
open Go Go.ChangeShapes Go.WideShapes Go.ChangeAt Go.RowKit Go.Ab
set_option maxRecDepth 100000 in
theorem new_lifted (os : Os) (started : os.Started) (H : Type) (enc : TypeId × Value → H) :
    ReturnsInHanded {} Tryz.checked os 10 .any (Rows.oreNewSpec.pre6 enc Tryz.prog Tryz.f10 Rows.oreNewRow.domain false) (Rows.oreNewSpec.post enc Tryz.prog Tryz.f10 false true false false) := by
  refine returnsInHanded_of_change (C := Tryz.checked) Tryz.own started (by kernel_rfl) Tryz.func10
    (ChangeSpec.witness6 (enc := enc) (C := Tryz.checked) false ⟨#[], #[.int .i64 0, .agg #[.bool false, .slice none 0 0], .slice none 0 0], []⟩ 8 (by kernel_rfl) (by kernel_rfl) (by kernel_rfl) (by kernel_rfl)) ?_
  intro W base args ds gs before hval hW hcnd _
  have hW' := hW
  have hlt := hW.lt
  obtain ⟨p, q, hA0, hV, rfl, hfz, hnd⟩ := hW
  have hA : DataW.TrodAll enc Tryz.prog W 0 (fun _ => true) true Tryz.f10.params.toList args.toList ds p := hA0
  have hp : Tryz.f10.params = #[3, 24, 54] := by kernel_rfl
  obtain ⟨rfl, rfl⟩ := trodVars_none hV
  have hAk := hA
  rw [hp] at hA
  obtain ⟨v0, v1, v2, d0, d1, d2, p0, p1, p2, rfl, rfl, rfl, h0, h1, h2⟩ := trodAll_three hA
  obtain ⟨x, r0, x1, x2⟩ := arg_i64 Tryz.ty_i64 (hval 0 3 v0 (by rw [hp]; rfl) rfl) h0
  obtain ⟨y, hy, r1⟩ := arg_Int Tryz.ty_Int (hval 1 24 v1 (by rw [hp]; rfl) rfl) h1
  obtain ⟨z, hz, r2⟩ := arg_Poly Tryz.ty_Poly (hval 2 54 v2 (by rw [hp]; rfl) rfl) h2
  have hr := OreNew_ok x1 x2 hy hz
  refine (ret_calls (tab.ok tab_ok) Tryz.mixed hr (W := W) (vs := #[v0, v1, v2]) rfl (fun j v f hj hx => ?_)).mono fun e W' ⟨he, hw⟩ => ?_
  · match j, hj, hx with
    | 0, hj, hx => simp [At] at hj hx; subst hj; subst hx; exact r0
    | 1, hj, hx => simp [At] at hj hx; subst hj; subst hx; exact r1
    | 2, hj, hx => simp [At] at hj hx; subst hj; subst hx; exact r2
    | j + 3, hj, hx => simp [At] at hj
  · subst he
    exact ⟨_, rfl, post_of_chg (t := 4) hW' hw (by kernel_rfl) (by kernel_rfl) rfl rfl rfl (fun sp hsp => by
      have e : p0 ++ p1 ++ p2 ++ ([] : List MemPlace) = p0 ++ p1 ++ p2 := List.append_nil _
      rw [e] at hlt hsp ⊢
      refine trodAll_stays (ds := [d0, d1, d2]) Tryz.laidOut hw (fun t ht => Tryz.rd t ?_) hAk hlt hsp
      rw [hp] at ht
      simp at ht
      rcases ht with rfl | rfl | rfl <;> simp)⟩
theorem new_holds : Rows.OreNewSaid :=
  OpenClaim.holds_of_wide 10 Tryz.f10 rfl rfl rfl rfl rfl rfl rfl ⟨rfl, rfl, rfl, rfl, rfl⟩ rfl rfl rfl rfl rfl (by kernel_rfl) Tryz.func10 (by kernel_rfl)
    (of_decide_eq_true (by kernel_rfl)) (by unfold Func.isWrapper; first | (rw [if_pos (by decide +kernel)]; kernel_rfl) | (rw [if_neg (by decide +kernel)]; exact ⟨rfl, rfl⟩))
    (fun os started H enc _ => new_lifted os started H enc)
end Go.Proofs.YtklelbidjcealaaGreat
