/-
  PROVED: the given statement LinkPlaysSaid: for every input the law LinkPlays answers true and leaves its arguments as they were.
  No condition.
-/
import Derived.Test.YtehhnoanbdjgbaaLinkL
import Derived.Test.YtehhnoanbdjgbaaLinkOpen
namespace Go.Proofs.Ytehhnoanbdjgbaa
open Go.RowKit Go.ChangeShapes Go.WideShapes Go.ChangeAt Go.Deep
open Go.ChangeMaps (open_string)

set_option maxRecDepth 100000 in
theorem linkPlays_lifted (os : Os) (started : os.Started) (H : Type) (enc : TypeId × Value → H) :
    ReturnsInHanded {} Try.checked os 5 .any (Rows.linkPlaysSpec.pre6 enc Try.prog Try.f5 Rows.linkPlaysRow.domain false) (Rows.linkPlaysSpec.post enc Try.prog Try.f5 false true false false) := by
  refine returnsInHanded_of_change (C := Try.checked) Try.own started (by kernel_rfl) Try.func5
    (ChangeSpec.witness6 (enc := enc) (C := Try.checked) false ⟨#[], #[.slice none 0 0], []⟩ 8 (by kernel_rfl) (by kernel_rfl) (by kernel_rfl) (by kernel_rfl)) ?_
  intro W base args ds gs before hval0 hW _ _
  have hval : ∀ (j : Nat) t v, Try.f5.params[j]? = some t → args[j]? = some v → Value.okWide Try.prog W .any base t v := hval0
  have hW' := hW
  obtain ⟨p, q, hA0, _, rfl, _, _⟩ := hW
  have hA : DataW.TrodAll enc Try.prog W 0 (fun _ => true) true Try.f5.params.toList args.toList ds p := hA0
  rw [Try.params5] at hA hval
  obtain ⟨v0, d0, rfl, rfl, h0⟩ := trodAll_one hA
  obtain ⟨an0, nn0, cn0, hv0⟩ := okWide_slice Try.underlying22 (hval 0 22 v0 rfl rfl)
  obtain ⟨ao0, c0, l0, rfl, hf00, hw00⟩ := open_acts ⟨an0, nn0, cn0, hv0⟩ h0
  refine (link_plays ao0 c0 l0 hf00 W hw00).mono fun e W' ⟨he, hc⟩ => ⟨_, he, ?_⟩
  exact law_post (P := Try.prog) hW' Try.laidOut rfl (fun ds hd => by match ds, hd with | [a], _ => rfl) (fun t ht => by revert t; exact of_decide_eq_true (by kernel_rfl)) rfl Try.underlying4 hc.frame0

theorem linkPlays_holds : Rows.LinkPlaysSaid :=
  OpenClaim.holds_of_wide 5 Try.f5 rfl rfl rfl rfl rfl rfl rfl ⟨rfl, rfl, rfl, rfl, rfl⟩ rfl rfl rfl rfl rfl (by kernel_rfl) Try.func5 (by kernel_rfl)
    (of_decide_eq_true (by kernel_rfl)) (by unfold Func.isWrapper; first | (rw [if_pos (by decide +kernel)]; kernel_rfl) | (rw [if_neg (by decide +kernel)]; exact ⟨rfl, rfl⟩))
    (fun os started H enc _ => linkPlays_lifted os started H enc)

end Go.Proofs.Ytehhnoanbdjgbaa
