/-
  PROVED: the given statement CopierKnownCardSaid (and with it CopierKnownSaid): for every input the law CopierKnown answers true and leaves its arguments as they were.
  No condition.
-/
import Derived.Test.YtfdhpjflkimihaaDoorCyc
import Derived.Test.YtfdhpjflkimihaaDoorBkJd
import Derived.Test.YtfdhpjflkimihaaDoorCards
namespace Go.Proofs.YtfdhpjflkimihaaDoor
open Go.RowKit Go.ChangeShapes Go.WideShapes Go.ChangeAt Go.Deep
open Go.ChangeMaps (open_string)

set_option maxRecDepth 100000 in
theorem copierKnown_lifted (os : Os) (started : os.Started) (H : Type) (enc : TypeId × Value → H) :
    ReturnsInHanded {} Tryd.checked os 13 .any (fun w args => (Rows.copierKnownSpec.pre enc Tryd.prog Tryd.f13 [] false w args ∧ laidMetH Tryd.prog laidL w) ∧ sizedMet enc Tryd.prog Tryd.f13 (OpenSpec.ofChange Rows.copierKnownSpec) false w args) (Rows.copierKnownSpec.post enc Tryd.prog Tryd.f13 false true false false) := by
  refine returnsInHanded_of_change_and (C := Tryd.checked) (X := fun w _ => laidMetH Tryd.prog laidL w) (fun _ _ _ hh h => h.of_heap hh) Tryd.own started (by kernel_rfl) Tryd.func13
    (ChangeSpec.witness_shaped (enc := enc) (C := Tryd.checked) (os := os) (X := fun w _ => laidMetH Tryd.prog laidL w) false (World.doorLaid Tryd.prog 400 os) #[] 8 rfl (World.shaped_of_RefB (by kernel_rfl) (by kernel_rfl)) (by kernel_rfl) (by kernel_rfl) (by kernel_rfl) (door_met os _)) ?_
  intro W base args ds gs before _ hW _ _ hL _
  have hW' := hW
  obtain ⟨p, q, hA0, _, rfl, _, _⟩ := hW
  have hA : DataW.TrodAll enc Tryd.prog W 0 (fun _ => true) true Tryd.f13.params.toList args.toList ds p := hA0
  rw [Tryd.params13] at hA
  obtain ⟨rfl, rfl, rfl⟩ := trodAll_none hA
  refine (copier_known  W (of_laid hL) ).mono fun e W' ⟨he, hc⟩ => ⟨_, he, ?_⟩
  exact law_post (P := Tryd.prog) hW' Tryd.laidOut rfl (fun ds hd => by match ds, hd with | [], _ => rfl) (fun t ht => by revert t; exact of_decide_eq_true (by kernel_rfl)) rfl Tryd.underlying4 hc.frame0

theorem copierKnown_holds : Rows.CopierKnownSaid :=
  OpenClaim.holds_of_wide 13 Tryd.f13 rfl rfl rfl rfl rfl rfl rfl ⟨rfl, rfl, rfl, rfl, rfl⟩ rfl rfl rfl rfl rfl (by kernel_rfl) Tryd.func13 (by kernel_rfl)
    (of_decide_eq_true (by kernel_rfl)) (by unfold Func.isWrapper; first | (rw [if_pos (by decide +kernel)]; kernel_rfl) | (rw [if_neg (by decide +kernel)]; exact ⟨rfl, rfl⟩))
    (fun os started H enc _ => copierKnown_lifted os started H enc)

theorem copierKnown_card : Rows.CopierKnownCardSaid :=
  Claim7.holds_tied_plain_at .later [] [.data, .data] true (true, "62660ce4aab7672ce840b0d3b67c0c9d78e403fd7109de7ffcb739dcbdb4a35d") false
    copierKnown_holds (fun _ h => by cases h) (by kernel_rfl) (fun _ h => by cases h) copierKnown_row_tie rfl ⟨rfl, rfl⟩ (by kernel_rfl) rfl
    (fun f fn hf hfn => by
      obtain rfl : f = 13 := Option.some.inj ((show Tryd.prog.funcNamed "caravan/caravanlaw21.CopierKnown" = some 13 by kernel_rfl).symm.trans hf) |>.symm
      obtain rfl : fn = Tryd.f13 := (Option.some.inj (Tryd.func13.symm.trans hfn)).symm
      exact ⟨by kernel_rfl, fun j t ht => by
        have hall : (Tryd.f13.params.toList.all fun u => !Tryd.prog.wantsStandIn u) = true := by kernel_rfl
        exact (show Tryd.prog.wantsStandIn t = false by simpa using List.all_eq_true.1 hall t (by simpa using Array.mem_of_getElem? ht))⟩)
    (by kernel_rfl)

end Go.Proofs.YtfdhpjflkimihaaDoor
