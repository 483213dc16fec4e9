/- What the law GlobParses does: true, and it leaves what was there. No conditions beyond those that each statement types. -/
import Derived.Test.YtnbeamggbehclaaGlobYa
import Derived.Test.YtnbeamggbehclaaGlobO
import Derived.Test.YtnbeamggbehclaaRowKit
namespace Go.Proofs.Ytnbeamggbehclaa
open Go.RowKit

set_option maxRecDepth 100000 in
set_option maxHeartbeats 8000000 in
theorem law_parses (s : ByteArray) (_ : s.size ≤ 9223372036854775807) (W : World) : Calls Try.prog 7 #[.string s] W (Holds W) := by
  have KP := glob_parse s W
  have KR : ∀ w, Calls Try.prog 10 #[.string s] w (RParsed w (parse s.data.toList)) := fun w => by have := ref_parse s.data.toList w; rwa [bs_of] at this
  cases hp : parse s.data.toList with
  | long =>
    rw [hp] at KP KR
    have HP := Lib.hid KP
    have HR := Lib.hid KR
    clear KP KR hp
    go_enter Try.func7, Try.ntmps7
    go_wp2_with fail
    refine HP.out.mono ?_
    rintro e w1 ⟨C1, rfl⟩
    go_wp2_with fail
    refine (HR.out w1).mono ?_
    rintro e w2 ⟨C2, rfl⟩
    have C3 := (C1.trans C2 (by simp)).trans (Chg.alloc [] w2 (.cells (patC mk0 false none 0 0) 29)) (by simp)
    go_upto_region 3 with (refine wpList_store_y 29 (.tmp 5) (.tmp 15) rfl rfl (.pointer (some ⟨w2.heap.size, 0, none⟩)) (.agg (patC mk0 false none 0 0)) _ (run_storeAt_new w2 _ #[.bool false, .bool false, .bool false, .bool false, .slice none 0 0] (patC mk0 false none 0 0) Try.infoPat rfl (patC_one ..)) rfl rfl ?_)
    generalize w2.alloc (.cells (patC mk0 false none 0 0) 29) = w3 at *
    go_wp2_with fail
    refine (glob_awake _).mono ?_
    rintro e w4 ⟨rfl, C4⟩
    go_wp2_with fail
    go_ret
    exact ⟨rfl, C3.trans C4 (by simp)⟩
  | form =>
    rw [hp] at KP KR
    have HP := Lib.hid KP
    have HR := Lib.hid KR
    clear KP KR hp
    go_enter Try.func7, Try.ntmps7
    go_wp2_with fail
    refine HP.out.mono ?_
    rintro e w1 ⟨C1, rfl⟩
    go_wp2_with fail
    refine (HR.out w1).mono ?_
    rintro e w2 ⟨C2, rfl⟩
    have C3 := (C1.trans C2 (by simp)).trans (Chg.alloc [] w2 (.cells (patC mk0 false none 0 0) 29)) (by simp)
    go_upto_region 3 with (refine wpList_store_y 29 (.tmp 5) (.tmp 15) rfl rfl (.pointer (some ⟨w2.heap.size, 0, none⟩)) (.agg (patC mk0 false none 0 0)) _ (run_storeAt_new w2 _ #[.bool false, .bool false, .bool false, .bool false, .slice none 0 0] (patC mk0 false none 0 0) Try.infoPat rfl (patC_one ..)) rfl rfl ?_)
    generalize w2.alloc (.cells (patC mk0 false none 0 0) 29) = w3 at *
    go_wp2_with fail
    refine (glob_awake _).mono ?_
    rintro e w4 ⟨rfl, C4⟩
    go_wp2_with fail
    go_ret
    exact ⟨rfl, C3.trans C4 (by simp)⟩
  | pat m root els =>
    rw [hp] at KP KR
    have HP := Lib.hid KP
    have HR := Lib.hid KR
    clear KP KR hp
    go_enter Try.func7, Try.ntmps7
    go_wp2_with fail
    refine HP.out.mono ?_
    rintro e w1 ⟨C1, b, rfl, hP⟩
    go_wp2_with fail
    refine (HR.out w1).mono ?_
    rintro e w2 ⟨C2, a, n, c, es, rfl, hE, hes⟩
    have CA := Chg.alloc [] w2 (.cells (patC m root a n c) 29)
    have C3 := (C1.trans C2 (by simp)).trans CA (by simp)
    have hP3 := (hP.chg C2).chg CA
    have hx := heap_alloc_new w2 (.cells (patC m root a n c) 29)
    go_upto_region 3 with (refine wpList_store_y 29 (.tmp 5) (.tmp 15) rfl rfl (.pointer (some ⟨w2.heap.size, 0, none⟩)) (.agg (patC m root a n c)) _ (run_storeAt_new w2 _ #[.bool false, .bool false, .bool false, .bool false, .slice none 0 0] (patC m root a n c) Try.infoPat rfl (patC_one ..)) rfl rfl ?_)
    obtain ⟨g, hg⟩ : ∃ g, w2.heap.size = g := ⟨_, rfl⟩
    rw [hg] at hx
    generalize w2.alloc (.cells (patC m root a n c) 29) = w3 at *
    (try rw [hg])
    have c0 : w3.cell? ⟨g, 0, none⟩ = some (.bool m.neg) := by rw [cell_of_row _ _ _ _ _ _ hx]; rfl
    have c1 : w3.cell? ⟨g, 1, none⟩ = some (.bool m.fold) := by rw [cell_of_row _ _ _ _ _ _ hx]; rfl
    have c2 : w3.cell? ⟨g, 2, none⟩ = some (.bool m.del) := by rw [cell_of_row _ _ _ _ _ _ hx]; rfl
    have c3 : w3.cell? ⟨g, 3, none⟩ = some (.bool root) := by rw [cell_of_row _ _ _ _ _ _ hx]; rfl
    have HP3 : Hid (PatIs w3.drew b s m root els) := Lib.hid (hP3.chg (Chg.drewN [] w3 1))
    have hss : (s.toList == s.toList) = true := by simp
    clear hE hes hx hg hP C1 C2 CA hP3
    go_upto_region 7 with (fail)
    refine wp_region_still_tail 37 (by kernel_rfl) (by kernel_rfl) ?_
    simp only [List.take_succ_cons, List.take_zero, List.drop_succ_cons, List.drop_zero]
    repeat still_step
    still_call (pat_Negated HP3.out)
    repeat still_step
    still_call (pat_Deletable HP3.out)
    repeat still_step
    still_call (pat_Folded HP3.out)
    repeat still_step
    still_call (pat_Rooted HP3.out)
    repeat still_step
    still_call (pat_Text HP3.out)
    repeat still_step
    refine wpStill_nil ?_
    change wpList _ _ _ _ _ w3.drew
    go_wp2_with fail
    refine (glob_awake _).mono ?_
    rintro e w4 ⟨rfl, C4⟩
    go_wp2_with fail
    go_ret
    exact ⟨rfl, (C3.trans (Chg.drewN [] w3 1) (by simp)).trans C4 (by simp)⟩
end Go.Proofs.Ytnbeamggbehclaa
