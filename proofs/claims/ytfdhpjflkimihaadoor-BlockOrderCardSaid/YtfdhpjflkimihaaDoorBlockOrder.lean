/-
  PROVED: the given statement BlockOrderCardSaid (and with it BlockOrderSaid): for every input the law BlockOrder answers true and leaves its arguments as they were.
  No condition.
-/
import Derived.Test.YtfdhpjflkimihaaDoorBkOc
import Derived.Test.YtfdhpjflkimihaaDoorBkJd
import Derived.Test.YtfdhpjflkimihaaDoorCards
namespace Go.Proofs.YtfdhpjflkimihaaDoor
open Go.RowKit Go.ChangeShapes Go.WideShapes Go.ChangeAt Go.Deep
open Go.ChangeMaps (open_string)

set_option maxRecDepth 100000 in
theorem blockOrder_lifted (os : Os) (started : os.Started) (H : Type) (enc : TypeId × Value → H) :
    ReturnsInHanded {} Tryd.checked os 9 .any (fun w args => (Rows.blockOrderSpec.pre enc Tryd.prog Tryd.f9 [] false w args ∧ laidMetH Tryd.prog laidL w) ∧ sizedMet enc Tryd.prog Tryd.f9 (OpenSpec.ofChange Rows.blockOrderSpec) false w args) (Rows.blockOrderSpec.post enc Tryd.prog Tryd.f9 false true false false) := by
  refine returnsInHanded_of_change_and (C := Tryd.checked) (X := fun w _ => laidMetH Tryd.prog laidL w) (fun _ _ _ hh h => h.of_heap hh) Tryd.own started (by kernel_rfl) Tryd.func9
    (ChangeSpec.witness_shaped (enc := enc) (C := Tryd.checked) (os := os) (X := fun w _ => laidMetH Tryd.prog laidL w) false (World.doorLaid Tryd.prog 400 os) #[.slice none 0 0] 8 rfl (World.shaped_of_RefB (by kernel_rfl) (by kernel_rfl)) (by kernel_rfl) (by kernel_rfl) (by kernel_rfl) (door_met os _)) ?_
  intro W base args ds gs before hval0 hW _ _ hL _
  have hval : ∀ (j : Nat) t v, Tryd.f9.params[j]? = some t → args[j]? = some v → Value.okWide Tryd.prog W .any base t v := hval0
  have hW' := hW
  obtain ⟨p, q, hA0, _, rfl, _, _⟩ := hW
  have hA : DataW.TrodAll enc Tryd.prog W 0 (fun _ => true) true Tryd.f9.params.toList args.toList ds p := hA0
  rw [Tryd.params9] at hA hval
  obtain ⟨v0, d0, rfl, rfl, h0⟩ := trodAll_one hA
  obtain ⟨an0, nn0, cn0, hv0⟩ := okWide_slice Tryd.underlying42 (hval 0 42 v0 rfl rfl)
  obtain ⟨ao0, c0, l0, rfl, hf00, hf01, hf02, hf03, hw00⟩ := open_acts ⟨an0, nn0, cn0, hv0⟩ h0
  refine (block_order ao0 c0 l0 hf00 hf01 hf02 hf03 W (of_laid hL) hw00).mono fun e W' ⟨he, hc⟩ => ⟨_, he, ?_⟩
  exact law_post (P := Tryd.prog) hW' Tryd.laidOut rfl (fun ds hd => by match ds, hd with | [a], _ => rfl) (fun t ht => by revert t; exact of_decide_eq_true (by kernel_rfl)) rfl Tryd.underlying4 hc.frame0

theorem blockOrder_holds : Rows.BlockOrderSaid :=
  OpenClaim.holds_of_wide 9 Tryd.f9 rfl rfl rfl rfl rfl rfl rfl ⟨rfl, rfl, rfl, rfl, rfl⟩ rfl rfl rfl rfl rfl (by kernel_rfl) Tryd.func9 (by kernel_rfl)
    (of_decide_eq_true (by kernel_rfl)) (by unfold Func.isWrapper; first | (rw [if_pos (by decide +kernel)]; kernel_rfl) | (rw [if_neg (by decide +kernel)]; exact ⟨rfl, rfl⟩))
    (fun os started H enc _ => blockOrder_lifted os started H enc)

theorem blockOrder_card : Rows.BlockOrderCardSaid :=
  Claim7.holds_tied_plain_at .later [] [.data, .data] true (true, "62660ce4aab7672ce840b0d3b67c0c9d78e403fd7109de7ffcb739dcbdb4a35d") false
    blockOrder_holds (fun _ h => by cases h) (by kernel_rfl) (fun _ h => by cases h) blockOrder_row_tie rfl ⟨rfl, rfl⟩ (by kernel_rfl) rfl
    (fun f fn hf hfn => by
      obtain rfl : f = 9 := Option.some.inj ((show Tryd.prog.funcNamed "caravan/caravanlaw05.BlockOrder" = some 9 by kernel_rfl).symm.trans hf) |>.symm
      obtain rfl : fn = Tryd.f9 := (Option.some.inj (Tryd.func9.symm.trans hfn)).symm
      exact ⟨by kernel_rfl, fun j t ht => by
        have hall : (Tryd.f9.params.toList.all fun u => !Tryd.prog.wantsStandIn u) = true := by kernel_rfl
        exact (show Tryd.prog.wantsStandIn t = false by simpa using List.all_eq_true.1 hall t (by simpa using Array.mem_of_getElem? ht))⟩)
    (by kernel_rfl)

end Go.Proofs.YtfdhpjflkimihaaDoor
