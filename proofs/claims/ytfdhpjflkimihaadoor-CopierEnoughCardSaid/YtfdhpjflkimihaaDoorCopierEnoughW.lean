/-
  PROVED: the given statement CopierEnoughCardSaid (and with it CopierEnoughSaid): for every input the law CopierEnough answers true and leaves its arguments as they were.
  No condition.
-/
import Derived.Test.YtfdhpjflkimihaaDoorCwc
import Derived.Test.YtfdhpjflkimihaaDoorCards
namespace Go.Proofs.YtfdhpjflkimihaaDoor
open Go.RowKit Go.ChangeShapes Go.WideShapes Go.ChangeAt Go.Deep
open Go.ChangeMaps (open_string)

set_option maxRecDepth 100000 in
theorem copierEnough_lifted (os : Os) (started : os.Started) (H : Type) (enc : TypeId × Value → H) :
    ReturnsInHanded {} Tryd.checked os 14 .any (fun w args => (Rows.copierEnoughSpec.pre enc Tryd.prog Tryd.f14 [] false w args ∧ laidMetH Tryd.prog laidL w) ∧ sizedMet enc Tryd.prog Tryd.f14 (OpenSpec.ofChange Rows.copierEnoughSpec) false w args) (Rows.copierEnoughSpec.post enc Tryd.prog Tryd.f14 false true false false) := by
  refine returnsInHanded_of_change_and (C := Tryd.checked) (X := fun w _ => laidMetH Tryd.prog laidL w) (fun _ _ _ hh h => h.of_heap hh) Tryd.own started (by kernel_rfl) Tryd.func14
    (ChangeSpec.witness_shaped (enc := enc) (C := Tryd.checked) (os := os) (X := fun w _ => laidMetH Tryd.prog laidL w) false (World.doorLaid Tryd.prog 400 os) #[.slice none 0 0, .slice none 0 0, .slice none 0 0] 8 rfl (World.shaped_of_RefB (by kernel_rfl) (by kernel_rfl)) (by kernel_rfl) (by kernel_rfl) (by kernel_rfl) (door_met os _)) ?_
  intro W base args ds gs before hval0 hW _ _ hL _
  have hval : ∀ (j : Nat) t v, Tryd.f14.params[j]? = some t → args[j]? = some v → Value.okWide Tryd.prog W .any base t v := hval0
  have hW' := hW
  obtain ⟨p, q, hA0, _, rfl, _, _⟩ := hW
  have hA : DataW.TrodAll enc Tryd.prog W 0 (fun _ => true) true Tryd.f14.params.toList args.toList ds p := hA0
  rw [Tryd.params14] at hA hval
  obtain ⟨v0, v1, v2, d0, d1, d2, p0, p1, p2, rfl, rfl, rfl, h0, h1, h2⟩ := trodAll_three hA
  obtain ⟨an0, nn0, cn0, hv0⟩ := okWide_slice Tryd.underlying25 (hval 0 25 v0 rfl rfl)
  obtain ⟨ao0, c0, l0, rfl, hw00, hw01, hw02, hw03⟩ := open_bytesD ⟨an0, nn0, cn0, hv0⟩ h0
  obtain ⟨an1, nn1, cn1, hv1⟩ := okWide_slice Tryd.underlying71 (hval 1 71 v1 rfl rfl)
  obtain ⟨ao1, c1, l1, rfl, hw10⟩ := open_files ⟨an1, nn1, cn1, hv1⟩ h1
  obtain ⟨an2, nn2, cn2, hv2⟩ := okWide_slice Tryd.underlying25 (hval 2 25 v2 rfl rfl)
  obtain ⟨ao2, c2, l2, rfl, hw20, hw21, hw22, hw23⟩ := open_bytesD ⟨an2, nn2, cn2, hv2⟩ h2
  refine (copier_enough ao0 c0 l0  ao1 c1 l1  ao2 c2 l2  W (of_laid hL) hw00 hw01 hw02 hw03 hw10 hw20 hw21 hw22 hw23).mono fun e W' ⟨he, hc⟩ => ⟨_, he, ?_⟩
  exact law_post (P := Tryd.prog) hW' Tryd.laidOut rfl (fun ds hd => by match ds, hd with | [a, b, c], _ => rfl) (fun t ht => by revert t; exact of_decide_eq_true (by kernel_rfl)) rfl Tryd.underlying4 hc.frame0

theorem copierEnough_holds : Rows.CopierEnoughSaid :=
  OpenClaim.holds_of_wide 14 Tryd.f14 rfl rfl rfl rfl rfl rfl rfl ⟨rfl, rfl, rfl, rfl, rfl⟩ rfl rfl rfl rfl rfl (by kernel_rfl) Tryd.func14 (by kernel_rfl)
    (of_decide_eq_true (by kernel_rfl)) (by unfold Func.isWrapper; first | (rw [if_pos (by decide +kernel)]; kernel_rfl) | (rw [if_neg (by decide +kernel)]; exact ⟨rfl, rfl⟩))
    (fun os started H enc _ => copierEnough_lifted os started H enc)

theorem copierEnough_card : Rows.CopierEnoughCardSaid :=
  Claim7.holds_tied_plain_at .later [] [.data, .data] true (true, "62660ce4aab7672ce840b0d3b67c0c9d78e403fd7109de7ffcb739dcbdb4a35d") false
    copierEnough_holds (fun _ h => by cases h) (by kernel_rfl) (fun _ h => by cases h) copierEnough_row_tie rfl ⟨rfl, rfl⟩ (by kernel_rfl) rfl
    (fun f fn hf hfn => by
      obtain rfl : f = 14 := Option.some.inj ((show Tryd.prog.funcNamed "caravan/caravanlaw21.CopierEnough" = some 14 by kernel_rfl).symm.trans hf) |>.symm
      obtain rfl : fn = Tryd.f14 := (Option.some.inj (Tryd.func14.symm.trans hfn)).symm
      exact ⟨by kernel_rfl, fun j t ht => by
        have hall : (Tryd.f14.params.toList.all fun u => !Tryd.prog.wantsStandIn u) = true := by kernel_rfl
        exact (show Tryd.prog.wantsStandIn t = false by simpa using List.all_eq_true.1 hall t (by simpa using Array.mem_of_getElem? ht))⟩)
    (by kernel_rfl)

end Go.Proofs.YtfdhpjflkimihaaDoor
