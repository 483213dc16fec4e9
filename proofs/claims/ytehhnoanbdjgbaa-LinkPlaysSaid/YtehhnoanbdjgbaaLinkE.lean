/- The law's story, and the chapter's examples, of the package link. No conditions. -/
import Derived.Test.YtehhnoanbdjgbaaLinkD
import Derived.Test.YtehhnoanbdjgbaaRowKit
namespace Go.Proofs.Ytehhnoanbdjgbaa
open Go.RowKit


set_option maxHeartbeats 1000000 in
theorem link_works (w : World) : Calls Try.prog 13 #[] w (Holds w) := by
  have kc := fun (w : World) (C : Array Value) (n c : Nat) => Lib.run_convert_bytes_const (P := Try.prog) w 27 5 C n c Try.underlying27 Try.underlying5
  go_enter Try.func13, Try.ntmps13
  go_wp2_with fail
  refine (link_made w).mono ?_
  rintro r w1 ⟨rfl, L1, S1⟩
  go_wp2_with fail
  refine (link_send_x _ _ _ 1 [97, 98, 99] (0, ⟨[], [97, 98, 99], 0⟩) rfl _ _ 3 _ (L1.stay (Chg.alloc [] _ _)).1 (by simp [LinkS.ok]) (src_lit [97, 98, 99] _ _ rfl) (by simp) rfl).mono ?_
  rintro r w2 ⟨rfl, F2, L2, S2⟩
  go_wp2_with fail
  refine (link_deliver_x _ _ _ 2 2 (([97, 98], 0), ⟨[], [99], 0⟩) rfl (by decide) _ L2 (by simp [LinkS.ok])).mono ?_
  rintro r w3 ⟨a1, n1, c1, F3, rfl, rfl, hc1, own1, L3, S3, new1⟩
  go_wp2_with fail
  refine (link_deliver_x _ _ _ 2 2 (([99], 0), ⟨[], [], 0⟩) rfl (by decide) _ L3 (by simp [LinkS.ok])).mono ?_
  rintro r w4 ⟨a2, n2, c2, F4, rfl, rfl, hc2, own2, L4, S4, new2⟩
  have r1 : Src w4 a1 (bvs [97, 98]) := (ownsRow_src own1).chg S4.chg (fun a ha => (new1 a ha).2.1)
  have r2 : Src w4 a2 (bvs [99]) := ownsRow_src own2
  go_wp2_with (first | (refine wpList_str_of_bytes _ rfl 27 9 (.tmp 25) rfl 5 Try.underlying27 Try.underlying5 Try.underlying9 _ _ _ rfl ⟨#[97, 98]⟩ rfl r1 ?_) | (refine wpList_str_of_bytes _ rfl 27 9 (.tmp 34) rfl 5 Try.underlying27 Try.underlying5 Try.underlying9 _ _ _ rfl ⟨#[99]⟩ rfl r2 ?_))
  go_ret
  exact ⟨rfl, ((((S1.trans (L1.stay (Chg.alloc [] _ _)).2).trans S2).trans S3).trans S4).chg⟩

end Go.Proofs.Ytehhnoanbdjgbaa
