/- The law's text, and its story, of sha. No conditions beyond those that each statement types. -/
import Derived.Test.YtccicfmaapaifaaDoorShaL
import Derived.Test.YtccicfmaapaifaaDoorShaI
import Derived.Test.YtccicfmaapaifaaDoorRowKit
namespace Go.Proofs.YtccicfmaapaifaaDoor
open Go.RowKit

theorem chg_below {w w' : World} (h : Below w.heap.size w w') : Chg [] w w' := ⟨h.os, h.tape, h.output, h.size, fun k hk _ => h.block k hk⟩

set_option maxRecDepth 100000 in
set_option maxHeartbeats 1000000 in
theorem sha_law_text (s : ByteArray) (w : World) (hL : Laid w) (hs : s.size ≤ 1000000) :
    Calls Tryd.prog 13 #[.string s] w fun e w' => e = .returned (.string ⟨(textTo (digest s.data.toList) 32).toArray⟩) ∧ Chg [] w w' := by
  go_enter Tryd.func13, Tryd.ntmps13
  go_wp2_with (refine wpList_bytes_of_str _ rfl 9 39 _ rfl 5 Tryd.underlying9 Tryd.underlying39 Tryd.underlying5 s rfl s.size rfl s.data.toList rfl ?_)
  intro g c w2 hc M
  have hlen : s.data.toList.length = s.size := rfl
  have k1 := sha_digest s.data.toList (some ⟨g, 0, none⟩) c w2 (hL.chg M.chg (by simp)) M.src (by rw [hlen]; exact hc) (by rw [hlen]; exact hs) (fun a ha => by cases ha; exact M.new.2)
  rw [hlen] at k1
  clear hlen
  go_wp2_with fail
  refine k1.mono ?_
  clear k1
  rintro r w3 ⟨rfl, C3⟩
  have k2 : Calls Tryd.prog 11 #[hashV (digest s.data.toList)] w3 fun e w' => e = .returned (.string ⟨(textTo (digest s.data.toList) 32).toArray⟩) ∧ Below w3.heap.size w3 w' := sha_text _ w3
  go_wp2_with fail
  refine k2.mono ?_
  rintro r w4 ⟨rfl, C4⟩
  go_wp2_with fail
  go_ret
  exact ⟨rfl, (M.chg.trans C3 (by simp)).trans (chg_below C4) (by simp)⟩
end Go.Proofs.YtccicfmaapaifaaDoor
