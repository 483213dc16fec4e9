/- Fetches that are none. No conditions beyond those that each statement types. -/
import Derived.Test.YtcapbfhiiiggdaaFetchL
namespace Go.Proofs.Ytcapbfhiiiggdaa
open Go.RowKit

theorem fetch_ask_nil (w : World) :
    Calls Try.prog 10 #[.pointer none] w fun e w' => e = .returned (.tuple #[.int .i64 0, .int .i64 0, .bool false]) ∧ w = w' := by
  go_enter Try.func10, Try.ntmps10
  go_wp2_with fail
  refine (fetch_is_nil _).mono ?_
  rintro r w' ⟨rfl, rfl⟩
  go_wp2_with fail
  go_ret3
  exact ⟨rfl, rfl⟩

theorem fetch_left_nil (w : World) :
    Calls Try.prog 15 #[.pointer none] w fun e w' => e = .returned (.slice none 0 0) ∧ w = w' := by
  have k : Calls Try.prog 33 #[.pointer none, .func (.func 34) #[] #[]] w fun e w' => e = .returned (.slice none 0 0) ∧ w = w' := by
    go_enter Try.func33, Try.ntmps33
    go_wp2_with fail
    refine (fetch_is_nil _).mono ?_
    rintro r w' ⟨rfl, rfl⟩
    go_wp2_with fail
    go_ret
    exact ⟨rfl, rfl⟩
  go_enter Try.func15, Try.ntmps15
  go_wp2_with fail
  refine k.mono ?_
  rintro r w' ⟨rfl, rfl⟩
  go_wp2_with fail
  go_ret
  exact ⟨rfl, rfl⟩

theorem fetch_failed_empty (b : Nat) (n dev : Int) (w : World) (c : w.cell? ⟨b, 625, none⟩ = some (.bool false)) :
    Calls Try.prog 14 #[.pointer (some ⟨b, 0, none⟩), .int .i64 n, .int .i64 dev] w fun e w' => e = .returned (.int .i64 1) ∧ w = w' := by
  have k : Calls Try.prog 32 #[.pointer (some ⟨b, 0, none⟩), .int .i64 n, .int .i64 dev] w fun e w' => e = .returned (.tuple #[.pointer none, .int .i64 1]) ∧ w = w' := by
    go_enter Try.func32, Try.ntmps32
    go_wp2_with fail
    refine (fetch_is_empty b _ c).mono ?_
    rintro r w' ⟨rfl, rfl⟩
    go_wp2_with fail
    go_ret2
    exact ⟨rfl, rfl⟩
  go_enter Try.func14, Try.ntmps14
  go_wp2_with fail
  refine k.mono ?_
  rintro r w' ⟨rfl, rfl⟩
  go_wp2_with fail
  go_ret
  exact ⟨rfl, rfl⟩

theorem fetch_stuck_empty (b : Nat) (w : World) (c : w.cell? ⟨b, 625, none⟩ = some (.bool false)) :
    Calls Try.prog 16 #[.pointer (some ⟨b, 0, none⟩)] w fun e w' => e = .returned (.slice none 0 0) ∧ Chg [] w w' := by
  have k : ∀ (g : Nat) (w : World), w.cell? ⟨b, 625, none⟩ = some (.bool false) → Calls Try.prog 33 #[.pointer (some ⟨b, 0, none⟩), .func (.func 35) #[] #[.pointer (some ⟨g, 0, none⟩)]] w fun e w' => e = .returned (.slice none 0 0) ∧ w = w' := by
    intro g w c
    go_enter Try.func33, Try.ntmps33
    go_wp2_with fail
    refine (fetch_is_empty b _ c).mono ?_
    rintro r w' ⟨rfl, rfl⟩
    go_wp2_with fail
    go_ret
    exact ⟨rfl, rfl⟩
  have CA := Chg.alloc [] w (Obj.cells #[.pointer (some ⟨b, 0, none⟩)] 26)
  go_enter Try.func16, Try.ntmps16
  go_wp2_with fail
  refine (k w.heap.size _ (CA.cell_some c (by simp))).mono ?_
  rintro r w' ⟨rfl, rfl⟩
  go_wp2_with fail
  go_ret
  exact ⟨rfl, CA⟩

/-- The chapter's story, state by state. -/
def kn0 : FS := FS.made [0, 1, 2] [3, 5]
def kn1 : FS := kn0.ask
def kn2 : FS := kn1.ask
def kn3 : FS := kn2.ask
def kn4 : FS := kn3.failed 0 3
def kn5 : FS := kn4.ask
def kn6 : FS := kn5.done 1 5
def kn7 : FS := kn6.failed 0 5
def kn8 : FS := kn7.lost 3
def kn9 : FS := kn8.ask
def kn10 : FS := kn9.found 3
def kn11 : FS := kn10.ask
def knAt : Nat → FS
  | 0 => kn0
  | 1 => kn1
  | 2 => kn2
  | _ => kn3
def knDev : Nat → Int
  | 1 => 5
  | _ => 3
theorem kn_ask (k : Nat) (hk : k < 3) : (knAt k).asksN = .tuple #[.int .i64 k, .int .i64 (knDev k), .bool true] ∧ (knAt k).ask = knAt (k + 1) := by
  match k, hk with
  | 0, _ => exact ⟨by kernel_rfl, rfl⟩
  | 1, _ => exact ⟨by kernel_rfl, rfl⟩
  | 2, _ => exact ⟨by kernel_rfl, rfl⟩
theorem kn3_ask : kn3.asksN = .tuple #[.int .i64 0, .int .i64 0, .bool false] ∧ kn3.ask = kn3 := by
  have h : kn3.next = none := by kernel_rfl
  exact ⟨by simp [FS.asksN, h], by simp [FS.ask, h]⟩
theorem kn3_code : kn3.code 0 3 = 0 := by kernel_rfl
theorem kn4_asks : kn4.asksN = .tuple #[.int .i64 0, .int .i64 5, .bool true] := by kernel_rfl
theorem kn5_code : kn5.code 1 5 = 0 := by kernel_rfl
theorem kn6_code : kn6.code 1 5 = 5 ∧ kn6.done 1 5 = kn6 := by
  have h : ¬ kn6.isAsked 1 5 := of_decide_eq_false (by kernel_rfl)
  exact ⟨by simp [FS.code, h], by simp [FS.done, h]⟩
theorem kn6_code2 : kn6.code 0 5 = 0 := by kernel_rfl
theorem kn7_stuck : nums kn7.stuckB 32 = [0] := by kernel_rfl
theorem kn7_ask : kn7.asksN = .tuple #[.int .i64 0, .int .i64 0, .bool false] ∧ kn7.ask = kn7 := by
  have h : kn7.next = none := by kernel_rfl
  exact ⟨by simp [FS.asksN, h], by simp [FS.ask, h]⟩
theorem kn7_left : nums kn7.leftB 32 = [0, 2] := by kernel_rfl
theorem kn7_lost : kn7.lostCode 3 = 0 := by kernel_rfl
theorem kn8_stuck : nums kn8.stuckB 32 = [0] := by kernel_rfl
theorem kn8_asks : kn8.asksN = .tuple #[.int .i64 2, .int .i64 5, .bool true] := by kernel_rfl
theorem kn9_found : kn9.foundCode 3 = 0 := by kernel_rfl
theorem kn10_asks : kn10.asksN = .tuple #[.int .i64 0, .int .i64 3, .bool true] := by kernel_rfl
theorem kn11_found0 : kn11.foundCode 0 = 2 ∧ kn11.found 0 = kn11 := ⟨by kernel_rfl, by simp [FS.found, isDev]⟩
theorem kn11_found17 : kn11.foundCode 17 = 2 ∧ kn11.found 17 = kn11 := ⟨by kernel_rfl, by simp [FS.found, isDev]⟩
theorem kn11_lost17 : kn11.lostCode 17 = 5 ∧ kn11.lost 17 = kn11 := ⟨by kernel_rfl, by simp [FS.lost, isDev]⟩
theorem kn11_done1 : kn11.code (-1) 3 = 5 ∧ kn11.done (-1) 3 = kn11 := by
  have h : ¬ kn11.isAsked (-1) 3 := fun h => by have := h.1; omega
  exact ⟨by simp [FS.code, h], by simp [FS.done, h]⟩
theorem kn11_done99 : kn11.code 99 3 = 5 ∧ kn11.done 99 3 = kn11 := by
  have h : ¬ kn11.isAsked 99 3 := fun h => by have := h.2.1; omega
  exact ⟨by simp [FS.code, h], by simp [FS.done, h]⟩
theorem kn3_ok : kn3.Ok := by
  have : ∀ n, n < 32 → (kn3.is n == 2) = true → (decide (1 ≤ kn3.of n) && decide (kn3.of n ≤ 16)) = true := by decide +kernel
  intro n hn h2
  have := this n hn (by simpa using h2)
  simpa using this
theorem kn6_ok : kn6.Ok := by
  have : ∀ n, n < 32 → (kn6.is n == 2) = true → (decide (1 ≤ kn6.of n) && decide (kn6.of n ≤ 16)) = true := by decide +kernel
  intro n hn h2
  have := this n hn (by simpa using h2)
  simpa using this
end Go.Proofs.Ytcapbfhiiiggdaa
