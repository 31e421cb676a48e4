/- Whatever happens, the law EuclidNone of the package ashlarlaw10 returns true: it takes no arguments. No further condition. -/
import Derived.Test.YtpfbgpclhkjgaaaGreatEuKn5
import Derived.Test.YtpfbgpclhkjgaaaGreatAb25
import Derived.Test.YtpfbgpclhkjgaaaGreatRows
namespace Go.Proofs.YtpfbgpclhkjgaaaGreat
open Go.ChangeShapes Go.WideShapes Go.ChangeAt Go.RowKit Go.Ab

theorem Tryz.own : ownKnob Tryz.prog.godebug = none := by kernel_rfl
theorem Tryz.mixed : Tryz.prog.follows .mixedOrders = true := by kernel_rfl

set_option maxRecDepth 100000 in
theorem none_lifted (os : Os) (started : os.Started) (H : Type) (enc : TypeId × Value → H) :
    ReturnsInHanded {} Tryz.checked os 8 .any (Rows.euclidNoneSpec.pre6 enc Tryz.prog Tryz.f8 Rows.euclidNoneRow.domain false) (Rows.euclidNoneSpec.post enc Tryz.prog Tryz.f8 false true false false) := by
  refine returnsInHanded_of_change (C := Tryz.checked) Tryz.own started (by kernel_rfl) Tryz.func8
    (ChangeSpec.witness6 (enc := enc) (C := Tryz.checked) false ⟨#[], #[], []⟩ 8 (by kernel_rfl) (by kernel_rfl) (by kernel_rfl) (by kernel_rfl)) ?_
  intro W base args ds gs before hval0 hW hcnd _
  have hW' := hW
  obtain ⟨p, q, hA0, hV, rfl, hfz, hnd⟩ := hW
  have hA : DataW.TrodAll enc Tryz.prog W 0 (fun _ => true) true Tryz.f8.params.toList args.toList ds p := hA0
  have hp : Tryz.f8.params.toList = [] := by kernel_rfl
  rw [hp] at hA
  obtain ⟨ha, rfl, rfl⟩ := trodAll_nil hA
  obtain ⟨rfl, rfl⟩ := trodVars_none hV
  have ha' : args = #[] := by
    apply Array.toList_inj.1; exact ha
  subst ha'
  have h375 : Has tab.get an ⟨8, ([] : List FV).map .fv, [], (.fv (.bool true), [], [.own 8 [(.agg [(.sl .nil []), (.sl .nil []), (.sl .nil []), (.sl .nil []), (.sl .nil []), (.sl .nil []), (.sl .nil []), (.sl .nil [])])], .own 3 [(.agg [(.sl .nil []), (.sl .nil []), (.sl .nil [])])]])⟩ := x375
  refine (known_calls (tab.ok tab_ok) Tryz.mixed h375 (W := W) (vs := #[]) rfl (fun j v x _ hx => by simp at hx)).mono fun e W' ⟨he, hw⟩ => ?_
  subst he
  exact ⟨_, rfl, post_of_chg (t := 4) hW' hw (by kernel_rfl) (by kernel_rfl) rfl rfl rfl (fun sp _ => by
    have hp' : Tryz.checked.prog.funcs[8]? = some Tryz.f8 := Tryz.func8
    rw [hp]; rfl)⟩

theorem none_holds : Rows.EuclidNoneSaid :=
  OpenClaim.holds_of_wide 8 Tryz.f8 rfl rfl rfl rfl rfl rfl rfl ⟨rfl, rfl, rfl, rfl, rfl⟩ rfl rfl rfl rfl rfl (by kernel_rfl) Tryz.func8 (by kernel_rfl)
    (of_decide_eq_true (by kernel_rfl)) (by unfold Func.isWrapper; first | (rw [if_pos (by decide +kernel)]; kernel_rfl) | (rw [if_neg (by decide +kernel)]; exact ⟨rfl, rfl⟩))
    (fun os started H enc _ => none_lifted os started H enc)
end Go.Proofs.YtpfbgpclhkjgaaaGreat
