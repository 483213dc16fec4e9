/- What the law BlockSizes does: true, and it leaves what was there. No conditions beyond those that each statement types. -/
import Derived.Test.YtfdhpjflkimihaaDoorBkY
import Derived.Test.YtfdhpjflkimihaaDoorBkZa
namespace Go.Proofs.YtfdhpjflkimihaaDoor
open Go.RowKit

set_option maxRecDepth 100000 in
set_option maxHeartbeats 4000000 in
theorem block_sizes (n : Int) (hn : -9223372036854775808 ≤ n ∧ n ≤ 9223372036854775807) (w : World) (hL : Laid w) : Calls Tryd.prog 3 #[.int .i64 n] w (Holds w) := by
  have K1 := Lib.hid (blk_size n w)
  have K2 := Lib.hid (ref_size n w)
  have K3 := Lib.hid (fun w => blk_count n w)
  have K4 := Lib.hid (fun w => ref_count n hn.2 w)
  have K5 := Lib.hid (fun w' (C : Chg [] w w') => law_awake w' (hL.chg C (by simp)))
  clear hn hL
  generalize bszZ n = B at *
  generalize cntZ n = N at *
  go_enter Tryd.func3, Tryd.ntmps3
  go_wp2_with fail
  refine K1.out.mono ?_
  rintro e w1 ⟨rfl, rfl⟩
  go_wp2_with fail
  refine K2.out.mono ?_
  rintro e w2 ⟨rfl, C2⟩
  have HC2 := Lib.hid C2
  clear C2
  go_wp2_with fail
  refine (K3.out _).mono ?_
  rintro e w1 ⟨rfl, rfl⟩
  go_wp2_with fail
  refine (K4.out _).mono ?_
  rintro e w2 ⟨rfl, C3⟩
  have HC3 := Lib.hid (HC2.out.trans C3 (by simp))
  clear C3 HC2
  go_wp2_with fail
  refine (K5.out _ HC3.out).mono ?_
  rintro e w2 ⟨rfl, C4⟩
  have HC4 := Lib.hid (HC3.out.trans C4 (by simp))
  go_wp2_with fail
  go_ret
  exact ⟨rfl, HC4.out⟩
end Go.Proofs.YtfdhpjflkimihaaDoor
