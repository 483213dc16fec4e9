/-
  PROVED: the given statement GlobMatchesSaid: for every input the law GlobMatches answers true and leaves its arguments as they were.
  No condition.
-/
import Derived.Test.YtnbeamggbehclaaGlobRf
import Derived.Test.YtnbeamggbehclaaGlobOpenP
namespace Go.Proofs.Ytnbeamggbehclaa
open Go.RowKit Go.ChangeShapes Go.WideShapes Go.ChangeAt Go.Deep
open Go.ChangeMaps (open_string)

set_option maxRecDepth 100000 in
theorem globMatches_lifted (os : Os) (started : os.Started) (H : Type) (enc : TypeId × Value → H) :
    ReturnsInHanded {} Try.checked os 3 .any (Rows.globMatchesSpec.pre6 enc Try.prog Try.f3 Rows.globMatchesRow.domain false) (Rows.globMatchesSpec.post enc Try.prog Try.f3 false true false false) := by
  refine returnsInHanded_of_change (C := Try.checked) Try.own started (by kernel_rfl) Try.func3
    (ChangeSpec.witness6 (enc := enc) (C := Try.checked) false ⟨#[], #[.string ByteArray.empty, .slice none 0 0], []⟩ 8 (by kernel_rfl) (by kernel_rfl) (by kernel_rfl) (by kernel_rfl)) ?_
  intro W base args ds gs before hval0 hW _ _
  have hval : ∀ (j : Nat) t v, Try.f3.params[j]? = some t → args[j]? = some v → Value.okWide Try.prog W .any base t v := hval0
  have hW' := hW
  obtain ⟨p, q, hA0, _, rfl, _, _⟩ := hW
  have hA : DataW.TrodAll enc Try.prog W 0 (fun _ => true) true Try.f3.params.toList args.toList ds p := hA0
  rw [Try.params3] at hA hval
  obtain ⟨v0, v1, d0, d1, p0, p1, rfl, rfl, rfl, h0, h1⟩ := trodAll_two hA
  obtain ⟨s0, rfl, _, _, hs0⟩ := open_string Try.underlying9 (hval 0 9 v0 rfl rfl) h0
  obtain ⟨an1, nn1, cn1, hv1⟩ := okWide_slice Try.underlying22 (hval 1 22 v1 rfl rfl)
  obtain ⟨ao1, c1, l1, rfl, hf10, hw10⟩ := open_paths ⟨an1, nn1, cn1, hv1⟩ h1
  refine (law_matches s0 hs0 ao1 c1 l1 hf10 W hw10).mono fun e W' ⟨he, hc⟩ => ⟨_, he, ?_⟩
  exact law_post (P := Try.prog) hW' Try.laidOut rfl (fun ds hd => by match ds, hd with | [a, b], _ => rfl) (fun t ht => by revert t; exact of_decide_eq_true (by kernel_rfl)) rfl Try.underlying4 hc.frame0

theorem globMatches_holds : Rows.GlobMatchesSaid :=
  OpenClaim.holds_of_wide 3 Try.f3 rfl rfl rfl rfl rfl rfl rfl ⟨rfl, rfl, rfl, rfl, rfl⟩ rfl rfl rfl rfl rfl (by kernel_rfl) Try.func3 (by kernel_rfl)
    (of_decide_eq_true (by kernel_rfl)) (by unfold Func.isWrapper; first | (rw [if_pos (by decide +kernel)]; kernel_rfl) | (rw [if_neg (by decide +kernel)]; exact ⟨rfl, rfl⟩))
    (fun os started H enc _ => globMatches_lifted os started H enc)

end Go.Proofs.Ytnbeamggbehclaa
