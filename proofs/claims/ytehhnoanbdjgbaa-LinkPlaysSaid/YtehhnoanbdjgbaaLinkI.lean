/- The law LinkKnown: links that are none, and the chapter's examples. No conditions beyond those that each statement types. -/
import Derived.Test.YtehhnoanbdjgbaaLinkE
import Derived.Test.YtehhnoanbdjgbaaLinkG
namespace Go.Proofs.Ytehhnoanbdjgbaa
open Go.RowKit

theorem link_deliver_nil (w : World) :
    Calls Try.prog 11 #[.pointer none, .int .i64 1, .int .i64 1] w fun r w' => r = .returned (.tuple #[.slice none 0 0, .int .i64 1]) ∧ Chg [] w w' := by
  go_enter Try.func11, Try.ntmps11
  go_wp2_with fail
  refine (link_is_nil _).mono ?_
  rintro r w' ⟨rfl, rfl⟩
  go_wp2_with fail
  go_ret2
  exact ⟨rfl, Chg.refl _ _⟩

theorem link_send_nil (w : World) :
    Calls Try.prog 10 #[.pointer none, .int .i64 1, .slice none 0 0] w fun r w' => r = .returned (.int .i64 1) ∧ Chg [] w w' := by
  go_enter Try.func10, Try.ntmps10
  go_wp2_with fail
  refine (link_is_nil _).mono ?_
  rintro r w' ⟨rfl, rfl⟩
  go_wp2_with fail
  go_ret
  exact ⟨rfl, (Chg.alloc _ _ _).trans (Chg.alloc [] _ _) (by simp)⟩

theorem link_reset_nil (w : World) :
    Calls Try.prog 17 #[.pointer none] w fun r w' => r = .returned (.int .i64 1) ∧ Chg [] w w' := by
  go_enter Try.func17, Try.ntmps17
  go_wp2_with fail
  refine (link_is_nil _).mono ?_
  rintro r w' ⟨rfl, rfl⟩
  go_wp2_with fail
  go_ret
  exact ⟨rfl, Chg.refl _ _⟩

theorem link_left_nil (w : World) :
    Calls Try.prog 12 #[.pointer none, .int .i64 1] w fun r w' => r = .returned (.int .i64 0) ∧ Chg [] w w' := by
  go_enter Try.func12, Try.ntmps12
  go_wp2_with fail
  refine (link_is_nil _).mono ?_
  rintro r w' ⟨rfl, rfl⟩
  go_wp2_with fail
  go_ret
  exact ⟨rfl, Chg.refl _ _⟩

theorem link_epoch_nil (w : World) :
    Calls Try.prog 16 #[.pointer none] w fun r w' => r = .returned (.int .i64 0) ∧ Chg [] w w' := by
  go_enter Try.func16, Try.ntmps16
  go_wp2_with fail
  refine (link_is_nil _).mono ?_
  rintro r w' ⟨rfl, rfl⟩
  go_wp2_with fail
  go_ret
  exact ⟨rfl, Chg.refl _ _⟩

theorem link_reset_not (b : Nat) (w : World) (h : w.cell? ⟨b, 3, none⟩ = some (.bool false)) :
    Calls Try.prog 17 #[.pointer (some ⟨b, 0, none⟩)] w fun r w' => r = .returned (.int .i64 1) ∧ w = w' := by
  go_enter Try.func17, Try.ntmps17
  go_wp2_with fail
  refine (link_is b false _ (by go_simp)).mono ?_
  rintro r w' ⟨rfl, rfl⟩
  go_wp2_with fail
  go_ret
  exact ⟨rfl, rfl⟩

theorem link_copy_not (b : Nat) (w : World) (h : w.cell? ⟨b, 3, none⟩ = some (.bool false)) :
    Calls Try.prog 18 #[.pointer (some ⟨b, 0, none⟩)] w fun r w' => r = .returned (.pointer none) ∧ w = w' := by
  go_enter Try.func18, Try.ntmps18
  go_wp2_with fail
  refine (link_is b false _ (by go_simp)).mono ?_
  rintro r w' ⟨rfl, rfl⟩
  go_wp2_with fail
  go_ret
  exact ⟨rfl, rfl⟩

/-- What is read of new memory, and lies apart from a link, stays so. -/
structure Keep (w : World) (F : List Nat) (ao : Option Addr) (xs : List Value) : Prop where
  src : Src w ao xs
  off : ∀ a, ao = some a → a.block ∉ F ∧ a.block < w.heap.size
theorem Keep.step {w w' : World} {F F' : List Nat} {ao : Option Addr} {xs : List Value} (h : Keep w F ao xs) (s : Step F F' w w') : Keep w' F' ao xs :=
  ⟨h.src.chg s.chg (fun a ha => (h.off a ha).1), fun a ha => ⟨fun hm => by
    rcases (s.foot _ hm).1 with h1 | h1
    · exact (h.off a ha).1 h1
    · have := (h.off a ha).2; omega, Nat.lt_of_lt_of_le (h.off a ha).2 s.chg.size⟩⟩

set_option maxRecDepth 100000 in
set_option maxHeartbeats 4000000 in
theorem link_known (w : World) : Calls Try.prog 8 #[] w (Holds w) := by
  have kc := fun (w : World) (C : Array Value) (n c : Nat) => Lib.run_convert_bytes_const (P := Try.prog) w 27 5 C n c Try.underlying27 Try.underlying5
  obtain ⟨i0, hi, hz0, hz1, hz2⟩ := info_parts Try.info5
  go_enter Try.func8, Try.ntmps8
  go_wp2_with fail
  refine (link_made w).mono ?_
  rintro r w1 ⟨rfl, L1, T1⟩
  go_wp2_with fail
  refine (link_send_x _ _ _ 1 [97, 98, 99] (0, ⟨[], [97, 98, 99], 0⟩) rfl _ _ 3 _ (L1.stay (Chg.alloc [] _ _)).1 (by simp [LinkS.ok]) (src_lit [97, 98, 99] _ _ rfl) (by simp) rfl).mono ?_
  rintro r w2 ⟨rfl, F2, L2, S2⟩
  have Q2 := (L1.stay (Chg.alloc [] w1 (Obj.cells (bvs [97, 98, 99]).toArray 5 (3, 4)))).2.trans S2
  have T2 := T1.trans Q2
  go_wp2_with fail
  refine (link_send_x _ _ _ 1 [100, 101] (0, ⟨[], [97, 98, 99, 100, 101], 0⟩) rfl _ _ 2 _ (L2.stay (Chg.alloc [] _ _)).1 (by simp [LinkS.ok]) (src_lit [100, 101] _ _ rfl) (by simp) rfl).mono ?_
  rintro r w3 ⟨rfl, F3, L3, S3⟩
  have Q3 := (L2.stay (Chg.alloc [] w2 (Obj.cells (bvs [100, 101]).toArray 5 (2, 3)))).2.trans S3
  have T3 := T2.trans Q3
  go_wp2_with fail
  refine (link_left _ _ _ 2 _ L3).mono ?_
  rintro r w' ⟨rfl, rfl⟩
  go_wp2_with fail
  refine (link_left _ _ _ 1 _ L3).mono ?_
  rintro r w' ⟨rfl, rfl⟩
  go_wp2_with fail
  refine (link_deliver_x _ _ _ 2 4 (([97, 98, 99, 100], 0), ⟨[], [101], 0⟩) rfl (by decide) _ L3 (by simp [LinkS.ok])).mono ?_
  rintro r w4 ⟨a4, n4, c4, F4, rfl, rfl, hc4, own4, L4, S4, new4⟩
  have T4 := T3.trans S4
  have K4 : Keep w4 F4 a4 (bvs [97, 98, 99, 100]) := ⟨ownsRow_src own4, fun a ha => (new4 a ha).2⟩
  go_wp2_with fail
  refine (link_deliver_x _ _ _ 2 4 (([101], 0), ⟨[], [], 0⟩) rfl (by decide) _ L4 (by simp [LinkS.ok])).mono ?_
  rintro r w5 ⟨a5, n5, c5, F5, rfl, rfl, hc5, own5, L5, S5, new5⟩
  have T5 := T4.trans S5
  have K5 : Keep w5 F5 a5 (bvs [101]) := ⟨ownsRow_src own5, fun a ha => (new5 a ha).2⟩
  go_wp2_with fail
  refine (link_deliver_x _ _ _ 2 4 (([], 0), ⟨[], [], 0⟩) rfl (by decide) _ L5 (by simp [LinkS.ok])).mono ?_
  rintro r w6 ⟨a6, n6, c6, F6, rfl, rfl, hc6, own6, L6, S6, new6⟩
  have T6 := T5.trans S6
  go_wp2_with fail
  refine (link_send_x _ _ _ 2 [120] (0, ⟨[120], [], 0⟩) rfl _ _ 1 _ (L6.stay (Chg.alloc [] _ _)).1 (by simp [LinkS.ok]) (src_lit [120] _ _ rfl) (by simp) rfl).mono ?_
  rintro r w7 ⟨rfl, F7, L7, S7⟩
  have Q7 := (L6.stay (Chg.alloc [] w6 (Obj.cells (bvs [120]).toArray 5 (1, 2)))).2.trans S7
  have T7 := T6.trans Q7
  go_wp2_with fail
  refine (link_reset _ _ _ _ L7 (by simp) (by simp)).mono ?_
  rintro r w8 ⟨rfl, L8, S8⟩
  have T8 := T7.trans S8
  have K4z := ((((K4.step S5).step S6).step Q7).step S8).src
  have K5z := (((K5.step S6).step Q7).step S8).src
  clear K4 K5
  go_wp2_with (first | (refine wpList_str_of_bytes _ rfl 27 9 (.tmp 66) rfl 5 Try.underlying27 Try.underlying5 Try.underlying9 _ _ _ rfl ⟨#[97, 98, 99, 100]⟩ rfl K4z ?_) | (refine wpList_str_of_bytes _ rfl 27 9 (.tmp 70) rfl 5 Try.underlying27 Try.underlying5 Try.underlying9 _ _ _ rfl ⟨#[101]⟩ rfl K5z ?_))
  refine (link_left _ _ _ 1 _ L8).mono ?_
  rintro r w' ⟨rfl, rfl⟩
  go_wp2_with fail
  refine (link_epoch _ _ _ _ L8).mono ?_
  rintro r w' ⟨rfl, rfl⟩
  go_wp2_with fail
  refine (link_send_x _ _ _ 3 [120] (2, ⟨[], [], 1⟩) rfl _ _ 1 _ (L8.stay (Chg.alloc [] _ _)).1 (by simp [LinkS.ok]) (src_lit [120] _ _ rfl) (by simp) rfl).mono ?_
  rintro r w9 ⟨rfl, F9, L9, S9⟩
  have Q9 := (L8.stay (Chg.alloc [] w8 (Obj.cells (bvs [120]).toArray 5 (1, 2)))).2.trans S9
  have T9 := T8.trans Q9
  go_wp2_with fail
  refine (link_deliver_x _ _ _ 1 (-1) (([], 2), ⟨[], [], 1⟩) rfl (by decide) _ L9 (by simp [LinkS.ok])).mono ?_
  rintro r w10 ⟨a10, n10, c10, F10, rfl, rfl, hc10, own10, L10, S10, new10⟩
  have T10 := T9.trans S10
  obtain ⟨M, hM⟩ : ∃ M : Nat, M = 262145 := ⟨_, rfl⟩
  have HM := Lib.hid hM
  clear hM
  go_wp2_with (at_make; refine wpList_make_full _ rfl _ _ 27 rfl 0 5 i0 _ 1 Try.underlying27 hi hz0 hz1 .i64 .i64 262145 262145 M rfl rfl (by have := HM.out; omega) (by have := HM.out; omega) (by have := HM.out; rw [hz2]; omega) (by have := HM.out; unfold maxLen; omega) (Nat.zero_le _) ?_)
  intro w11 o11 g11
  have o11' : w11.ownsRow 0 5 1 (Value.slice (some ⟨w10.heap.size, 0, none⟩) M M) M (bvs (List.replicate M 0)) := by
    rw [← zeros_bvs]
    simpa using o11
  clear o11
  have L11 := L10.stay (Chg.grown g11 (by simp))
  go_wp2_with fail
  refine (link_send_x _ _ _ 1 (List.replicate M 0) (7, ⟨[], [], 1⟩) (by have := HM.out; simp [LinkS.send]; omega) _ M M _ L11.1 (by simp [LinkS.ok]) (ownsRow_src o11') (by simp) (by simp)).mono ?_
  rintro r w12 ⟨rfl, F12, L12, S12⟩
  have T12 := (T10.trans L11.2).trans S12
  go_wp2_with fail
  have hnb := heap_alloc_new w12 (Obj.cells #[.slice none 0 0, .slice none 0 0, .int .i64 0, .bool false] 48)
  have c13 : (w12.alloc (Obj.cells #[.slice none 0 0, .slice none 0 0, .int .i64 0, .bool false] 48)).cell? ⟨w12.heap.size, 3, none⟩ = some (.bool false) := by rw [cell_of_row _ _ 3 _ _ _ hnb]; rfl
  have U13 : Chg [] w (w12.alloc (Obj.cells #[.slice none 0 0, .slice none 0 0, .int .i64 0, .bool false] 48)) := T12.chg.trans (Chg.alloc [] _ _) (by simp)
  generalize (w12.alloc (Obj.cells #[.slice none 0 0, .slice none 0 0, .int .i64 0, .bool false] 48)) = w13 at *
  refine (link_deliver_nil _).mono ?_
  rintro r w14 ⟨rfl, V14⟩
  have U14 := U13.trans V14 (by simp)
  have c14 := V14.cell_some c13 (by simp)
  go_wp2_with fail
  refine (link_send_nil _).mono ?_
  rintro r w15 ⟨rfl, V15⟩
  have U15 := U14.trans V15 (by simp)
  have c15 := V15.cell_some c14 (by simp)
  go_wp2_with fail
  refine (link_reset_nil _).mono ?_
  rintro r w16 ⟨rfl, V16⟩
  have U16 := U15.trans V16 (by simp)
  have c16 := V16.cell_some c15 (by simp)
  go_wp2_with fail
  refine (link_left_nil _).mono ?_
  rintro r w17 ⟨rfl, V17⟩
  have U17 := U16.trans V17 (by simp)
  have c17 := V17.cell_some c16 (by simp)
  go_wp2_with fail
  refine (link_epoch_nil _).mono ?_
  rintro r w18 ⟨rfl, V18⟩
  have U18 := U17.trans V18 (by simp)
  have c18 := V18.cell_some c17 (by simp)
  go_wp2_with fail
  refine (link_copy_nil _).mono ?_
  rintro r w' ⟨rfl, rfl⟩
  go_wp2_with fail
  refine (link_reset_not _ _ c18).mono ?_
  rintro r w' ⟨rfl, rfl⟩
  go_wp2_with fail
  refine (link_copy_not _ _ c18).mono ?_
  rintro r w' ⟨rfl, rfl⟩
  go_wp2_with fail
  refine (link_works _).mono ?_
  rintro r wz ⟨rfl, Vz⟩
  go_wp2_with fail
  go_ret
  exact ⟨rfl, U18.trans Vz (by simp)⟩

end Go.Proofs.Ytehhnoanbdjgbaa
