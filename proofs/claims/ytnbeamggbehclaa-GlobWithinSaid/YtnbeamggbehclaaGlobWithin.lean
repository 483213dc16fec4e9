/-
  PROVED: the given statement GlobWithinSaid: for every input the law GlobWithin answers true and leaves its arguments as they were.
  No condition.
-/
import Derived.Test.YtnbeamggbehclaaGlobP
import Derived.Test.YtnbeamggbehclaaGlobOpen
namespace Go.Proofs.Ytnbeamggbehclaa
open Go.RowKit Go.ChangeShapes Go.WideShapes Go.ChangeAt Go.Deep
open Go.ChangeMaps (open_string)

set_option maxRecDepth 100000 in
theorem globWithin_lifted (os : Os) (started : os.Started) (H : Type) (enc : TypeId × Value → H) :
    ReturnsInHanded {} Try.checked os 4 .any (Rows.globWithinSpec.pre6 enc Try.prog Try.f4 Rows.globWithinRow.domain false) (Rows.globWithinSpec.post enc Try.prog Try.f4 false true false false) := by
  refine returnsInHanded_of_change_sized (C := Try.checked) Try.own started (by kernel_rfl) Try.func4
    (ChangeSpec.witness6 (enc := enc) (C := Try.checked) false ⟨#[], #[.string ByteArray.empty, .string ByteArray.empty, .string ByteArray.empty, .string ByteArray.empty], []⟩ 8 (by kernel_rfl) (by kernel_rfl) (by kernel_rfl) (by kernel_rfl)) ?_
  intro W base args ds gs before hval0 hW _ hsz _
  have hval : ∀ (j : Nat) t v, Try.f4.params[j]? = some t → args[j]? = some v → Value.okWide Try.prog W .any base t v := hval0
  have hW' := hW
  obtain ⟨p, q, hA0, _, rfl, _, _⟩ := hW
  have hA : DataW.TrodAll enc Try.prog W 0 (fun _ => true) true Try.f4.params.toList args.toList ds p := hA0
  rw [Try.params4] at hA hval
  obtain ⟨v0, v1, v2, v3, d0, d1, d2, d3, p0, p1, p2, p3, rfl, rfl, rfl, h0, h1, h2, h3⟩ := trodAll_four hA
  obtain ⟨s0, rfl, hd0, _, hs0⟩ := open_string Try.underlying9 (hval 0 9 v0 rfl rfl) h0
  have hz0 : s0.size ≤ reachBytes := sized_string hsz (j := 0) (t := 9) (bytes := s0.data.toList) rfl (by rw [hd0]; rfl)
  obtain ⟨s1, rfl, hd1, _, hs1⟩ := open_string Try.underlying9 (hval 1 9 v1 rfl rfl) h1
  have hz1 : s1.size ≤ reachBytes := sized_string hsz (j := 1) (t := 9) (bytes := s1.data.toList) rfl (by rw [hd1]; rfl)
  obtain ⟨s2, rfl, hd2, _, hs2⟩ := open_string Try.underlying9 (hval 2 9 v2 rfl rfl) h2
  have hz2 : s2.size ≤ reachBytes := sized_string hsz (j := 2) (t := 9) (bytes := s2.data.toList) rfl (by rw [hd2]; rfl)
  obtain ⟨s3, rfl, hd3, _, hs3⟩ := open_string Try.underlying9 (hval 3 9 v3 rfl rfl) h3
  have hz3 : s3.size ≤ reachBytes := sized_string hsz (j := 3) (t := 9) (bytes := s3.data.toList) rfl (by rw [hd3]; rfl)
  refine (law_within s0 hz0 s1 hz1 s2 hz2 s3 hz3 W ).mono fun e W' ⟨he, hc⟩ => ⟨_, he, ?_⟩
  exact law_post (P := Try.prog) hW' Try.laidOut rfl (fun ds hd => by match ds, hd with | [a, b, c, d], _ => rfl) (fun t ht => by revert t; exact of_decide_eq_true (by kernel_rfl)) rfl Try.underlying4 hc.frame0

theorem globWithin_holds : Rows.GlobWithinSaid :=
  OpenClaim.holds_of_wide 4 Try.f4 rfl rfl rfl rfl rfl rfl rfl ⟨rfl, rfl, rfl, rfl, rfl⟩ rfl rfl rfl rfl rfl (by kernel_rfl) Try.func4 (by kernel_rfl)
    (of_decide_eq_true (by kernel_rfl)) (by unfold Func.isWrapper; first | (rw [if_pos (by decide +kernel)]; kernel_rfl) | (rw [if_neg (by decide +kernel)]; exact ⟨rfl, rfl⟩))
    (fun os started H enc _ => globWithin_lifted os started H enc)

end Go.Proofs.Ytnbeamggbehclaa
