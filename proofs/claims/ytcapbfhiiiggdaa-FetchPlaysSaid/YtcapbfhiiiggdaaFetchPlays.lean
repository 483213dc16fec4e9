/-
  PROVED: the given statement FetchPlaysSaid: for every input the law FetchPlays answers true and leaves its arguments as they were.
  No condition.
-/
import Derived.Test.YtcapbfhiiiggdaaFetchRe
import Derived.Test.YtcapbfhiiiggdaaFetchOpen
namespace Go.Proofs.Ytcapbfhiiiggdaa
open Go.RowKit Go.ChangeShapes Go.WideShapes Go.ChangeAt Go.Deep
open Go.ChangeMaps (open_string)

set_option maxRecDepth 100000 in
theorem fetchPlays_lifted (os : Os) (started : os.Started) (H : Type) (enc : TypeId × Value → H) :
    ReturnsInHanded {} Try.checked os 5 .any (Rows.fetchPlaysSpec.pre6 enc Try.prog Try.f5 Rows.fetchPlaysRow.domain false) (Rows.fetchPlaysSpec.post enc Try.prog Try.f5 false true false false) := by
  refine returnsInHanded_of_change (C := Try.checked) Try.own started (by kernel_rfl) Try.func5
    (ChangeSpec.witness6 (enc := enc) (C := Try.checked) false ⟨#[], #[.slice none 0 0, .slice none 0 0, .slice none 0 0], []⟩ 8 (by kernel_rfl) (by kernel_rfl) (by kernel_rfl) (by kernel_rfl)) ?_
  intro W base args ds gs before hval0 hW _ _
  have hval : ∀ (j : Nat) t v, Try.f5.params[j]? = some t → args[j]? = some v → Value.okWide Try.prog W .any base t v := hval0
  have hW' := hW
  obtain ⟨p, q, hA0, _, rfl, _, _⟩ := hW
  have hA : DataW.TrodAll enc Try.prog W 0 (fun _ => true) true Try.f5.params.toList args.toList ds p := hA0
  rw [Try.params5] at hA hval
  obtain ⟨v0, v1, v2, d0, d1, d2, p0, p1, p2, rfl, rfl, rfl, h0, h1, h2⟩ := trodAll_three hA
  obtain ⟨an0, nn0, cn0, hv0⟩ := okWide_slice Try.underlying24 (hval 0 24 v0 rfl rfl)
  obtain ⟨ao0, c0, l0, rfl, hf00, hf01, hf02, hf03, hf04, hw00⟩ := open_numbers ⟨an0, nn0, cn0, hv0⟩ h0
  obtain ⟨an1, nn1, cn1, hv1⟩ := okWide_slice Try.underlying24 (hval 1 24 v1 rfl rfl)
  obtain ⟨ao1, c1, l1, rfl, hf10, hf11, hf12, hf13, hf14, hw10⟩ := open_numbers ⟨an1, nn1, cn1, hv1⟩ h1
  obtain ⟨an2, nn2, cn2, hv2⟩ := okWide_slice Try.underlying42 (hval 2 42 v2 rfl rfl)
  obtain ⟨ao2, c2, l2, rfl, hf20, hw20⟩ := open_actsP ⟨an2, nn2, cn2, hv2⟩ h2
  refine (fetch_plays_row ao0 c0 l0 hf00 hf01 hf02 hf03 hf04 ao1 c1 l1 hf10 hf11 hf12 hf13 hf14 ao2 c2 l2 hf20 W hw00 hw10 hw20).mono fun e W' ⟨he, hc⟩ => ⟨_, he, ?_⟩
  exact law_post (P := Try.prog) hW' Try.laidOut rfl (fun ds hd => by match ds, hd with | [a, b, c], _ => rfl) (fun t ht => by revert t; exact of_decide_eq_true (by kernel_rfl)) rfl Try.underlying4 hc.frame0

theorem fetchPlays_holds : Rows.FetchPlaysSaid :=
  OpenClaim.holds_of_wide 5 Try.f5 rfl rfl rfl rfl rfl rfl rfl ⟨rfl, rfl, rfl, rfl, rfl⟩ rfl rfl rfl rfl rfl (by kernel_rfl) Try.func5 (by kernel_rfl)
    (of_decide_eq_true (by kernel_rfl)) (by unfold Func.isWrapper; first | (rw [if_pos (by decide +kernel)]; kernel_rfl) | (rw [if_neg (by decide +kernel)]; exact ⟨rfl, rfl⟩))
    (fun os started H enc _ => fetchPlays_lifted os started H enc)

end Go.Proofs.Ytcapbfhiiiggdaa
