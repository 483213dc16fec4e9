/-
  PROVED: the given statement CopierBuildsCardSaid (and with it CopierBuildsSaid): for every input the law CopierBuilds answers true and leaves its arguments as they were.
  No condition.
-/
import Derived.Test.YtfdhpjflkimihaaDoorCvd
import Derived.Test.YtfdhpjflkimihaaDoorBkJd
import Derived.Test.YtfdhpjflkimihaaDoorCards
namespace Go.Proofs.YtfdhpjflkimihaaDoor
open Go.RowKit Go.ChangeShapes Go.WideShapes Go.ChangeAt Go.Deep
open Go.ChangeMaps (open_string)

set_option maxRecDepth 100000 in
theorem copierBuilds_lifted (os : Os) (started : os.Started) (H : Type) (enc : TypeId × Value → H) :
    ReturnsInHanded {} Tryd.checked os 12 .any (fun w args => (Rows.copierBuildsSpec.pre enc Tryd.prog Tryd.f12 [] false w args ∧ laidMetH Tryd.prog laidL w) ∧ sizedMet enc Tryd.prog Tryd.f12 (OpenSpec.ofChange Rows.copierBuildsSpec) false w args) (Rows.copierBuildsSpec.post enc Tryd.prog Tryd.f12 false true false false) := by
  refine returnsInHanded_of_change_and (C := Tryd.checked) (X := fun w _ => laidMetH Tryd.prog laidL w) (fun _ _ _ hh h => h.of_heap hh) Tryd.own started (by kernel_rfl) Tryd.func12
    (ChangeSpec.witness_shaped (enc := enc) (C := Tryd.checked) (os := os) (X := fun w _ => laidMetH Tryd.prog laidL w) false (World.doorLaid Tryd.prog 400 os) #[.agg recZ, .slice none 0 0, .slice none 0 0, .slice none 0 0, .slice none 0 0] 8 rfl (World.shaped_of_RefB (by kernel_rfl) (by kernel_rfl)) (by kernel_rfl) (by kernel_rfl) (by kernel_rfl) (door_met os _)) ?_
  intro W base args ds gs before hval0 hW _ hsz hL _
  have hval : ∀ (j : Nat) t v, Tryd.f12.params[j]? = some t → args[j]? = some v → Value.okWide Tryd.prog W .any base t v := hval0
  have hW' := hW
  obtain ⟨p, q, hA0, _, rfl, _, _⟩ := hW
  have hA : DataW.TrodAll enc Tryd.prog W 0 (fun _ => true) true Tryd.f12.params.toList args.toList ds p := hA0
  rw [Tryd.params12] at hA hval
  obtain ⟨v0, v1, v2, v3, v4, d0, d1, d2, d3, d4, p0, p1, p2, p3, p4, rfl, rfl, rfl, h0, h1, h2, h3, h4⟩ := trodAll_five hA
  obtain ⟨RC0, r0, ra0, rc0, rfl, hr0⟩ := open_rec (hval 0 77 v0 rfl rfl) h0
  obtain ⟨an1, nn1, cn1, hv1⟩ := okWide_slice Tryd.underlying81 (hval 1 81 v1 rfl rfl)
  obtain ⟨ao1, c1, l1, rfl, hw10, hw11⟩ := open_steps ⟨an1, nn1, cn1, hv1⟩ h1
  obtain ⟨an2, nn2, cn2, hv2⟩ := okWide_slice Tryd.underlying71 (hval 2 71 v2 rfl rfl)
  obtain ⟨ao2, c2, l2, rfl, hw20, hw21⟩ := open_filesZ ⟨an2, nn2, cn2, hv2⟩ h2 (small_arg hsz (j := 2) rfl rfl)
  obtain ⟨an3, nn3, cn3, hv3⟩ := okWide_slice Tryd.underlying25 (hval 3 25 v3 rfl rfl)
  obtain ⟨ao3, c3, l3, rfl, hw30, hw31, hw32, hw33⟩ := open_bytesZ ⟨an3, nn3, cn3, hv3⟩ h3 (small_arg hsz (j := 3) rfl rfl)
  obtain ⟨an4, nn4, cn4, hv4⟩ := okWide_slice Tryd.underlying87 (hval 4 87 v4 rfl rfl)
  obtain ⟨ao4, c4, l4, rfl, hw40, hw41⟩ := open_gotsZ ⟨an4, nn4, cn4, hv4⟩ h4 (small_arg hsz (j := 4) rfl rfl)
  refine (copier_builds RC0 r0 ra0 rc0 ao1 c1 l1  ao2 c2 l2 ao3 c3 l3 ao4 c4 l4 W (of_laid hL) hr0 hw10 hw11 hw20 hw21 hw30 hw31 hw32 hw33 hw40 hw41).mono fun e W' ⟨he, hc⟩ => ⟨_, he, ?_⟩
  exact law_post (P := Tryd.prog) hW' Tryd.laidOut rfl (fun ds hd => by match ds, hd with | [a, b, c, d, e], _ => rfl) (fun t ht => by revert t; exact of_decide_eq_true (by kernel_rfl)) rfl Tryd.underlying4 hc.frame0

theorem copierBuilds_holds : Rows.CopierBuildsSaid :=
  OpenClaim.holds_of_wide 12 Tryd.f12 rfl rfl rfl rfl rfl rfl rfl ⟨rfl, rfl, rfl, rfl, rfl⟩ rfl rfl rfl rfl rfl (by kernel_rfl) Tryd.func12 (by kernel_rfl)
    (of_decide_eq_true (by kernel_rfl)) (by unfold Func.isWrapper; first | (rw [if_pos (by decide +kernel)]; kernel_rfl) | (rw [if_neg (by decide +kernel)]; exact ⟨rfl, rfl⟩))
    (fun os started H enc _ => copierBuilds_lifted os started H enc)

theorem copierBuilds_card : Rows.CopierBuildsCardSaid :=
  Claim7.holds_tied_plain_at .later [] [.data, .data] true (true, "62660ce4aab7672ce840b0d3b67c0c9d78e403fd7109de7ffcb739dcbdb4a35d") false
    copierBuilds_holds (fun _ h => by cases h) (by kernel_rfl) (fun _ h => by cases h) copierBuilds_row_tie rfl ⟨rfl, rfl⟩ (by kernel_rfl) rfl
    (fun f fn hf hfn => by
      obtain rfl : f = 12 := Option.some.inj ((show Tryd.prog.funcNamed "caravan/caravanlaw21.CopierBuilds" = some 12 by kernel_rfl).symm.trans hf) |>.symm
      obtain rfl : fn = Tryd.f12 := (Option.some.inj (Tryd.func12.symm.trans hfn)).symm
      exact ⟨by kernel_rfl, fun j t ht => by
        have hall : (Tryd.f12.params.toList.all fun u => !Tryd.prog.wantsStandIn u) = true := by kernel_rfl
        exact (show Tryd.prog.wantsStandIn t = false by simpa using List.all_eq_true.1 hall t (by simpa using Array.mem_of_getElem? ht))⟩)
    (by kernel_rfl)

end Go.Proofs.YtfdhpjflkimihaaDoor
