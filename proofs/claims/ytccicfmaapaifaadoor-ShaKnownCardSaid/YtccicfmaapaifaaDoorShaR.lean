/- What the law ShaKnown does: true, and it leaves what was there. No conditions beyond those that each statement types. -/
import Derived.Test.YtccicfmaapaifaaDoorShaQ
namespace Go.Proofs.YtccicfmaapaifaaDoor
open Go.RowKit

theorem law_text_long (w : World) (hL : Laid w) : Calls Tryd.prog 13 #[.string ⟨#[97, 98, 99, 100, 98, 99, 100, 101, 99, 100, 101, 102, 100, 101, 102, 103, 101, 102, 103, 104, 102, 103, 104, 105, 103, 104, 105, 106, 104, 105, 106, 107, 105, 106, 107, 108, 106, 107, 108, 109, 107, 108, 109, 110, 108, 109, 110, 111, 109, 110, 111, 112, 110, 111, 112, 113]⟩] w fun e w' => e = .returned (.string ⟨#[50, 52, 56, 100, 54, 97, 54, 49, 100, 50, 48, 54, 51, 56, 98, 56, 101, 53, 99, 48, 50, 54, 57, 51, 48, 99, 51, 101, 54, 48, 51, 57, 97, 51, 51, 99, 101, 52, 53, 57, 54, 52, 102, 102, 50, 49, 54, 55, 102, 54, 101, 99, 101, 100, 100, 52, 49, 57, 100, 98, 48, 54, 99, 49]⟩) ∧ Chg [] w w' := by
  refine (sha_law_text ⟨#[97, 98, 99, 100, 98, 99, 100, 101, 99, 100, 101, 102, 100, 101, 102, 103, 101, 102, 103, 104, 102, 103, 104, 105, 103, 104, 105, 106, 104, 105, 106, 107, 105, 106, 107, 108, 106, 107, 108, 109, 107, 108, 109, 110, 108, 109, 110, 111, 109, 110, 111, 112, 110, 111, 112, 113]⟩ w hL (by decide)).mono ?_
  rintro e w' ⟨rfl, hc⟩
  refine ⟨?_, hc⟩
  have : textTo (digest (⟨#[97, 98, 99, 100, 98, 99, 100, 101, 99, 100, 101, 102, 100, 101, 102, 103, 101, 102, 103, 104, 102, 103, 104, 105, 103, 104, 105, 106, 104, 105, 106, 107, 105, 106, 107, 108, 106, 107, 108, 109, 107, 108, 109, 110, 108, 109, 110, 111, 109, 110, 111, 112, 110, 111, 112, 113]⟩ : ByteArray).data.toList) 32 = _ := text_long
  rw [this]
theorem text_of_abc (w : World) : Calls Tryd.prog 11 #[hashV (digest m_abc)] w fun e w' => e = .returned (.string ⟨#[98, 97, 55, 56, 49, 54, 98, 102, 56, 102, 48, 49, 99, 102, 101, 97, 52, 49, 52, 49, 52, 48, 100, 101, 53, 100, 97, 101, 50, 50, 50, 51, 98, 48, 48, 51, 54, 49, 97, 51, 57, 54, 49, 55, 55, 97, 57, 99, 98, 52, 49, 48, 102, 102, 54, 49, 102, 50, 48, 48, 49, 53, 97, 100]⟩) ∧ Chg [] w w' := by
  refine (sha_text (digest m_abc) w).mono ?_
  rintro e w' ⟨rfl, hc⟩
  exact ⟨by rw [text_abc], chg_below hc⟩
/-- Refused texts. -/
theorem of_refused (s : ByteArray) (w : World) (hm : s.size ≤ 9223372036854775807) (h : ofOk s.data.toList = false) :
    Calls Tryd.prog 9 #[.string s] w fun e w' => e = .returned (.tuple #[hashV (fun _ => 0), .bool false]) ∧ Chg [] w w' := by
  have k := sha_of s w hm
  rw [ofV_no _ h, h] at k
  exact k
theorem zeroStateV : ∃ Z : Array Value, (∀ w, (Instr.build 34 #[]).run Tryd.prog w = .ok (.agg Z) w) ∧ Z[73]? = some (.bool false) :=
  ⟨((List.range 74).map fun i => (if i < 8 then .int .u32 0 else if i < 72 then .int .u8 0 else if i = 72 then .int .i64 0 else .bool false)).toArray, fun _ => by kernel_rfl, by kernel_rfl⟩

theorem src_lit (l : List UInt8) (w : World) (t : TypeId) (fr : Nat × Nat) : Src (w.alloc (.cells (bvs l).toArray t fr)) (some ⟨w.heap.size, 0, none⟩) (bvs l) := by
  refine ⟨fun e => (by cases e), fun a e j u hu => ?_⟩
  cases e
  rw [addr_add0, cell_of_row _ _ _ _ _ _ (heap_alloc_new w _)]
  simpa using hu
theorem sum_none_nil (w : World) : Calls Tryd.prog 17 #[.pointer none] w fun e w' => e = .returned (hashV (fun _ => 0)) ∧ Chg [] w w' := sha_sum_none none w (sha_is_nil _)
theorem sum_none_zero (b : Nat) (w : World) (c : w.cell? ⟨b, 73, none⟩ = some (.bool false)) : Calls Tryd.prog 17 #[.pointer (some ⟨b, 0, none⟩)] w fun e w' => e = .returned (hashV (fun _ => 0)) ∧ Chg [] w w' :=
  sha_sum_none (some ⟨b, 0, none⟩) w (sha_is_zero b _ ((Chg.alloc [] w (.cells (hashC (fun _ => 0)) 23)).cell_some c (by simp)))

set_option maxRecDepth 100000 in
set_option maxHeartbeats 8000000 in
theorem sha_known (W : World) (hL : Laid W) : Calls Tryd.prog 5 #[] W (Holds W) := by
  obtain ⟨Z, hZ, hz, hsz, hz1⟩ := zeroHash
  obtain ⟨E, hE, hE73⟩ := zeroStateV
  have HE := Lib.hid hE
  have kc := fun (w : World) (C : Array Value) (n c : Nat) => Lib.run_convert_bytes_const (P := Tryd.prog) w 39 5 C n c Tryd.underlying39 Tryd.underlying5
  have HZ0 : Hid (hashV (fun _ => 0) = .agg Z) := Lib.hid (by rw [hashV, hZ])
  have REF : Hid (∀ (s : ByteArray) (w : World), s.size ≤ 9223372036854775807 → ofOk s.data.toList = false → Calls Tryd.prog 9 #[.string s] w fun e w' => e = .returned (.tuple #[.agg Z, .bool false]) ∧ Chg [] w w') := Lib.hid (fun s w h1 h2 => by
    have := of_refused s w h1 h2
    rw [HZ0.out] at this
    exact this)
  have HEZ : Hid (∀ w, (binOp .eql 23 (.agg Z) (.agg Z)).run Tryd.prog w = .ok (.bool true) w) := Lib.hid (fun w => by
    have := run_eq_hash (fun _ => 0) (fun _ => 0) w
    rw [sameHash_self, HZ0.out] at this
    exact this)
  have HBZ : Hid (∀ w : World, (Instr.build 23 #[]).run Tryd.prog w = .ok (.agg Z) w) := Lib.hid (by
    rw [hZ]
    exact fun _ => by kernel_rfl)
  have N1 := Lib.hid (fun w => new_hash w Z Z hsz hsz hz1)
  clear hZ hz1 hE
  go_enter Tryd.func5, Tryd.ntmps5
  go_wp2_with fail
  refine (REF.out _ _ (by decide +kernel) (by kernel_rfl)).mono ?_
  rintro e w1 ⟨rfl, C1⟩
  go_upto_region 2 with (refine wpList_store_x _ rfl 23 (.tmp 1) (.tmp 13) rfl _ (N1.out _) ?_)
  have T1 := C1.trans (Chg.alloc [] w1 (.cells Z 23)) (by simp)
  generalize w1.alloc (.cells Z 23) = w2 at *
  clear C1
  go_wp2_with fail
  refine (REF.out _ _ (by decide +kernel) (by kernel_rfl)).mono ?_
  rintro e w3 ⟨rfl, C3⟩
  go_upto_region 3 with (refine wpList_store_x _ rfl 23 (.tmp 3) (.tmp 19) rfl _ (N1.out _) ?_)
  have T3 := (T1.trans C3 (by simp)).trans (Chg.alloc [] w3 (.cells Z 23)) (by simp)
  generalize w3.alloc (.cells Z 23) = w4 at *
  clear C3 T1
  go_wp2_with fail
  refine (REF.out _ _ (by decide +kernel) (by kernel_rfl)).mono ?_
  rintro e w5 ⟨rfl, C5⟩
  go_upto_region 4 with (refine wpList_store_x _ rfl 23 (.tmp 5) (.tmp 23) rfl _ (N1.out _) ?_)
  have T5 := (T3.trans C5 (by simp)).trans (Chg.alloc [] w5 (.cells Z 23)) (by simp)
  generalize w5.alloc (.cells Z 23) = w6 at *
  clear C5 T3
  go_upto_region 6 with (refine wpList_build_x _ rfl 34 #[] rfl (.agg E) #[] (by simp) (HE.out _) ?_)
  have hnx := heap_alloc_new w6 (.cells E 34)
  have T7 := T5.trans (Chg.alloc [] w6 (.cells E 34)) (by simp)
  generalize w6.alloc (.cells E 34) = w7 at *
  obtain ⟨ez, hez⟩ : ∃ ez, w6.heap.size = ez := ⟨_, rfl⟩
  rw [hez] at hnx ⊢
  have z7 : w7.cell? ⟨ez, 73, none⟩ = some (.bool false) := by rw [cell_of_row _ _ _ _ _ _ hnx]; exact hE73
  clear hnx hez T5 hE73
  go_wp2_with fail
  refine (sha_awake _ (hL.chg T7 (by simp))).mono ?_
  rintro e w8 ⟨rfl, C8⟩
  have T8 := T7.trans C8 (by simp)
  have z8 := C8.cell_some z7 (by simp)
  clear C8 T7 z7
  go_wp2_with fail
  refine (law_text_long _ (hL.chg T8 (by simp))).mono ?_
  rintro e w9 ⟨rfl, C9⟩
  have T9 := T8.trans C9 (by simp)
  have z9 := C9.cell_some z8 (by simp)
  clear C9 T8 z8
  go_wp2_with fail
  refine (sha_new _ (hL.chg T9 (by simp))).mono ?_
  rintro e w10 ⟨b, rfl, hb, S10, C10⟩
  have T10 := T9.trans C10 (by simp)
  have z10 := C10.cell_some z9 (by simp)
  have hWs := T9.size
  have hLs := hL.size
  have hbz : b ≠ ez := by have := World.block_lt_of_cell? _ _ z9; simp at this; omega
  clear C10 T9 z9
  go_upto_region 10 with (fail)
  have h1b : 1 < b := by omega
  have CA := Chg.alloc [] w10 (.cells #[.int .u8 97, .int .u8 98] 5 (2, 3))
  refine (sha_write b ss0 (some ⟨w10.heap.size, 0, none⟩) 2 [97, 98] _ (S10.chg CA (by simp)) (hL.chg (T10.trans CA (by simp)) (by simp)) h1b (src_lit [97, 98] w10 5 (2, 3)) (fun a ha => by cases ha; have := S10.lt; simp; omega) (by decide) (by decide)).mono ?_
  rintro e w11 ⟨rfl, S11, C11⟩
  have T11 := (T10.trans CA (by simp)).trans C11 (fun k hk => by simp at hk; right; omega)
  have z11 := C11.cell_some (CA.cell_some z10 (by simp)) (by simp; omega)
  have hn2 : (ss0.eat [97, 98]).n = 2 := rfl
  have heat : (ss0.eat [97, 98]).eat [99] = ss0.eat m_abc := (ss0.eat_append [97, 98] [99]).symm
  generalize ss0.eat [97, 98] = s1 at *
  clear CA S10 C11 T10 z10
  go_wp2_with fail
  have kl := sha_len b s1 w11 S11
  rw [hn2] at kl
  refine kl.mono ?_
  rintro e w' ⟨rfl, rfl⟩
  clear kl
  go_wp2_with fail
  refine (sha_sum b s1 _ S11 (hL.chg T11 (by simp)) (by rw [hn2]; decide)).mono ?_
  rintro e w12 ⟨rfl, C12⟩
  have T12 := T11.trans C12 (by simp)
  have z12 := C12.cell_some z11 (by simp)
  have S12 := S11.chg C12 (by simp)
  obtain ⟨X, hX⟩ : ∃ X, hashV s1.sum.hash = X := ⟨_, rfl⟩
  rw [hX]
  clear hX T11 z11 S11 C12
  go_wp2_with fail
  have CA := Chg.alloc [] w12 (.cells #[.int .u8 99] 5 (1, 2))
  refine (sha_write b s1 (some ⟨w12.heap.size, 0, none⟩) 1 [99] _ (S12.chg CA (by simp)) (hL.chg (T12.trans CA (by simp)) (by simp)) h1b (src_lit [99] w12 5 (1, 2)) (fun a ha => by cases ha; have := S12.lt; simp; omega) (by decide) (by rw [hn2]; decide)).mono ?_
  rintro e w13 ⟨rfl, S13, C13⟩
  rw [heat] at S13
  have T13 := (T12.trans CA (by simp)).trans C13 (fun k hk => by simp at hk; right; omega)
  have z13 := C13.cell_some (CA.cell_some z12 (by simp)) (by simp; omega)
  clear T12 z12 S12 CA C13 heat hn2
  have hn3 : (ss0.eat m_abc).n = 3 := rfl
  have hdig : (ss0.eat m_abc).sum.hash = digest m_abc := rfl
  generalize ss0.eat m_abc = s3 at *
  go_wp2_with fail
  refine (sha_sum b s3 _ S13 (hL.chg T13 (by simp)) (by rw [hn3]; decide)).mono ?_
  rintro e w14 ⟨rfl, C14⟩
  rw [hdig]
  have T14 := T13.trans C14 (by simp)
  have z14 := C14.cell_some z13 (by simp)
  have S14 := S13.chg C14 (by simp)
  clear T13 z13 S13 C14 hdig
  have TXT : Hid (∀ w, Calls Tryd.prog 11 #[hashV (digest m_abc)] w fun e w' => e = .returned (.string ⟨#[98, 97, 55, 56, 49, 54, 98, 102, 56, 102, 48, 49, 99, 102, 101, 97, 52, 49, 52, 49, 52, 48, 100, 101, 53, 100, 97, 101, 50, 50, 50, 51, 98, 48, 48, 51, 54, 49, 97, 51, 57, 54, 49, 55, 55, 97, 57, 99, 98, 52, 49, 48, 102, 102, 54, 49, 102, 50, 48, 48, 49, 53, 97, 100]⟩) ∧ Chg [] w w') := Lib.hid text_of_abc
  generalize hashV (digest m_abc) = D3 at *
  go_wp2_with fail
  refine (TXT.out _).mono ?_
  rintro e w15 ⟨rfl, C15⟩
  have T15 := T14.trans C15 (by simp)
  have z15 := C15.cell_some z14 (by simp)
  have S15 := S14.chg C15 (by simp)
  clear T14 z14 S14 C15
  go_wp2_with fail
  have kl := sha_len b s3 w15 S15
  rw [hn3] at kl
  refine kl.mono ?_
  rintro e w' ⟨rfl, rfl⟩
  clear kl S15
  go_wp2_with fail
  refine (sha_write_nil _ _).mono ?_
  rintro e w' ⟨rfl, rfl⟩
  go_wp2_with fail
  have CA := Chg.alloc [] w15 (.cells #[.int .u8 97] 5 (1, 2))
  have T16 := T15.trans CA (by simp)
  have z16 := CA.cell_some z15 (by simp)
  refine (sha_write_zero ez _ _ z16).mono ?_
  rintro e w' ⟨rfl, rfl⟩
  generalize w15.alloc (.cells #[.int .u8 97] 5 (1, 2)) = w16 at *
  clear CA T15 z15
  go_wp2_with fail
  have kz := sum_none_nil w16
  rw [HZ0.out] at kz
  refine kz.mono ?_
  rintro e w17 ⟨rfl, C17⟩
  have T17 := T16.trans C17 (by simp)
  have z17 := C17.cell_some z16 (by simp)
  clear kz T16 z16 C17
  go_wp2_with (first | (refine wpList_build_x _ rfl 23 #[] rfl (.agg Z) #[] (by simp) (HBZ.out _) ?_) | (refine wpList_eql_x rfl 23 _ _ _ rfl true (.agg Z) (.agg Z) rfl rfl (hash_guard _ _ _ _ _) (HEZ.out _) ?_))
  have kz := sum_none_zero ez w17 z17
  rw [HZ0.out] at kz
  refine kz.mono ?_
  rintro e w18 ⟨rfl, C18⟩
  have T18 := T17.trans C18 (by simp)
  have z18 := C18.cell_some z17 (by simp)
  clear kz T17 z17 C18
  go_wp2_with (first | (refine wpList_build_x _ rfl 23 #[] rfl (.agg Z) #[] (by simp) (HBZ.out _) ?_) | (refine wpList_eql_x rfl 23 _ _ _ rfl true (.agg Z) (.agg Z) rfl rfl (hash_guard _ _ _ _ _) (HEZ.out _) ?_))
  refine (sha_len_nil _).mono ?_
  rintro e w' ⟨rfl, rfl⟩
  go_wp2_with fail
  refine (sha_len_zero ez _ z18).mono ?_
  rintro e w' ⟨rfl, rfl⟩
  go_wp2_with fail
  go_ret
  exact ⟨rfl, T18⟩
end Go.Proofs.YtccicfmaapaifaaDoor
