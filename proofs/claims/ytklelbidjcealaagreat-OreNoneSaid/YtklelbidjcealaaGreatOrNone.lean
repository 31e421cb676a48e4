/- Whatever happens, the law OreNone of the package ashlarlaw8 returns true: it takes no arguments. No further condition. -/
import Derived.Test.YtklelbidjcealaaGreatOrKn1
import Derived.Test.YtklelbidjcealaaGreatAb25
import Derived.Test.YtklelbidjcealaaGreatRows
namespace Go.Proofs.YtklelbidjcealaaGreat
open Go.ChangeShapes Go.WideShapes Go.ChangeAt Go.RowKit Go.Ab

theorem Tryz.own : ownKnob Tryz.prog.godebug = none := by kernel_rfl
theorem Tryz.mixed : Tryz.prog.follows .mixedOrders = true := by kernel_rfl

set_option maxRecDepth 100000 in
theorem none_lifted (os : Os) (started : os.Started) (H : Type) (enc : TypeId × Value → H) :
    ReturnsInHanded {} Tryz.checked os 13 .any (Rows.oreNoneSpec.pre6 enc Tryz.prog Tryz.f13 Rows.oreNoneRow.domain false) (Rows.oreNoneSpec.post enc Tryz.prog Tryz.f13 false true false false) := by
  refine returnsInHanded_of_change (C := Tryz.checked) Tryz.own started (by kernel_rfl) Tryz.func13
    (ChangeSpec.witness6 (enc := enc) (C := Tryz.checked) false ⟨#[], #[], []⟩ 8 (by kernel_rfl) (by kernel_rfl) (by kernel_rfl) (by kernel_rfl)) ?_
  intro W base args ds gs before hval0 hW hcnd _
  have hW' := hW
  obtain ⟨p, q, hA0, hV, rfl, hfz, hnd⟩ := hW
  have hA : DataW.TrodAll enc Tryz.prog W 0 (fun _ => true) true Tryz.f13.params.toList args.toList ds p := hA0
  have hp : Tryz.f13.params.toList = [] := by kernel_rfl
  rw [hp] at hA
  obtain ⟨ha, rfl, rfl⟩ := trodAll_nil hA
  obtain ⟨rfl, rfl⟩ := trodVars_none hV
  have ha' : args = #[] := by
    apply Array.toList_inj.1; exact ha
  subst ha'
  have h274 : Has tab.get an ⟨13, ([] : List FV).map .fv, [], (.fv (.bool true), [], [])⟩ := x274
  refine (known_calls (tab.ok tab_ok) Tryz.mixed h274 (W := W) (vs := #[]) rfl (fun j v x _ hx => by simp at hx)).mono fun e W' ⟨he, hw⟩ => ?_
  subst he
  exact ⟨_, rfl, post_of_chg (t := 4) hW' hw (by kernel_rfl) (by kernel_rfl) rfl rfl rfl (fun sp _ => by
    have hp' : Tryz.checked.prog.funcs[13]? = some Tryz.f13 := Tryz.func13
    rw [hp]; rfl)⟩

theorem none_holds : Rows.OreNoneSaid :=
  OpenClaim.holds_of_wide 13 Tryz.f13 rfl rfl rfl rfl rfl rfl rfl ⟨rfl, rfl, rfl, rfl, rfl⟩ rfl rfl rfl rfl rfl (by kernel_rfl) Tryz.func13 (by kernel_rfl)
    (of_decide_eq_true (by kernel_rfl)) (by unfold Func.isWrapper; first | (rw [if_pos (by decide +kernel)]; kernel_rfl) | (rw [if_neg (by decide +kernel)]; exact ⟨rfl, rfl⟩))
    (fun os started H enc _ => none_lifted os started H enc)
end Go.Proofs.YtklelbidjcealaaGreat
