/- What Text of the package sha does to memory. No conditions beyond those that each statement types. -/
import Derived.Test.YtccicfmaapaifaaDoorShaF
namespace Go.Proofs.YtccicfmaapaifaaDoor
open Go.RowKit

/-- Digits, and the text of a digest. -/
def digL : List UInt8 := [48, 49, 50, 51, 52, 53, 54, 55, 56, 57, 97, 98, 99, 100, 101, 102]
def dig (k : Nat) : UInt8 := digL.getD k 0
def textTo (f : Nat → UInt8) : Nat → List UInt8
  | 0 => []
  | k + 1 => textTo f k ++ [dig ((f k).toNat / 16)] ++ [dig ((f k).toNat % 16)]
theorem textTo_length (f : Nat → UInt8) (k : Nat) : (textTo f k).length = 2 * k := by
  induction k with
  | zero => rfl
  | succ k ih => simp [textTo, ih]; omega

theorem dig_index (k : Nat) (hk : k < 16) (w : World) : (Instr.index 9 (.string ⟨#[48, 49, 50, 51, 52, 53, 54, 55, 56, 57, 97, 98, 99, 100, 101, 102]⟩) (.int .u8 k)).run Tryd.prog w = .ok (bv (dig k)) w := by
  have h : k = 0 ∨ k = 1 ∨ k = 2 ∨ k = 3 ∨ k = 4 ∨ k = 5 ∨ k = 6 ∨ k = 7 ∨ k = 8 ∨ k = 9 ∨ k = 10 ∨ k = 11 ∨ k = 12 ∨ k = 13 ∨ k = 14 ∨ k = 15 := by omega
  rcases h with rfl | rfl | rfl | rfl | rfl | rfl | rfl | rfl | rfl | rfl | rfl | rfl | rfl | rfl | rfl | rfl <;> (show _ = _; kernel_rfl)

theorem and15 (x : UInt8) : bits .and .u8 (x.toNat : Int) 15 = ((x.toNat % 16 : Nat) : Int) := by
  have h : ∀ n : Fin 256, bits .and .u8 (n.val : Int) 15 = ((n.val % 16 : Nat) : Int) := by decide +kernel
  exact h ⟨x.toNat, x.toNat_lt⟩

theorem hash_index (f : Nat → UInt8) (k : Nat) (hk : k < 32) (w : World) : (Instr.index 23 (.agg (cut (fun i => bv (f i)) 0 32)) (.int .i64 k)).run Tryd.prog w = .ok (bv (f k)) w := by
  have := run_index_cut1 (P := Tryd.prog) w 23 _ 32 32 0 (fun i => bv (f i)) _ Tryd.underlying23 Tryd.underlying5 rfl (by kernel_rfl) k hk hk
  rw [this, Nat.zero_add]

set_option maxRecDepth 100000 in
set_option maxHeartbeats 2000000 in
theorem sha_text (f : Nat → UInt8) (w : World) :
    Calls Tryd.prog 11 #[.agg (cut (fun i => bv (f i)) 0 32)] w fun e w' => e = .returned (.string ⟨(textTo f 32).toArray⟩) ∧ Below w.heap.size w w' := by
  have hix := hash_index f
  have hsz : (cut (fun i => bv (f i)) 0 32).size = 32 := cut_size _ _ _
  generalize cut (fun i => bv (f i)) 0 32 = F at *
  have HIX := Lib.hid hix
  clear hix
  have hnx := heap_alloc_new w (.cells F 23)
  have CA := (Below.refl w.heap.size w).alloc (Nat.le_refl _) (.cells F 23)
  have hld : (Instr.loadAt 23 (.pointer (some ⟨w.heap.size, 0, none⟩))).run Tryd.prog ((w.alloc (.cells F 23)).alloc (.cells #[.pointer none, .slice none 0 0] 50)) = .ok (.agg F) ((w.alloc (.cells F 23)).alloc (.cells #[.pointer none, .slice none 0 0] 50)) := by
    simp only [Instr.loadAt, Instr.sureAddr, Sem.run_bind, Sem.run_pure, Result.andThen]
    exact run_loadVar_row _ _ _ _ F _ _ (by rw [Below.heap_alloc _ _ _ (by simp)]; exact hnx) Tryd.underlying23 rfl (by rw [hsz]; kernel_rfl)
  go_enter Tryd.func11, Tryd.ntmps11
  go_wp2_with (refine wpList_load_x _ rfl 23 _ rfl (.agg F) hld ?_)
  have hb0 := heap_alloc_new (w.alloc (.cells F 23)) (.cells #[.pointer none, .slice none 0 0] 50)
  rw [World.size_alloc] at hb0
  have CB : Below w.heap.size w ((w.alloc (.cells F 23)).alloc (.cells #[.pointer none, .slice none 0 0] 50)) := CA.alloc (by simp) _
  generalize (w.alloc (.cells F 23)).alloc (.cells #[.pointer none, .slice none 0 0] 50) = w2 at *
  obtain ⟨B, hB⟩ : ∃ B, w.heap.size = B := ⟨_, rfl⟩
  rw [hB] at hb0 CB ⊢
  have I0 : Lib.IsBuilder 50 5 B (B + 1) [] w2 := .inl ⟨by omega, _, hb0, World.ownsRow_nil _ _ _ _, by simp [Value.ownBlock]⟩
  clear hnx CA hld hb0 hsz
  have HB := Lib.hid hB
  clear hB
  go_loopw [7] (fun i wr => ∃ k : Nat, i = .int .i64 k ∧ k ≤ 32 ∧ Lib.IsBuilder 50 5 B (B + 1) (bvs (textTo f k)) wr ∧ Below B w wr) (fun i _ => 32 - (intOf i).toNat)
  case atStart => exact ⟨0, rfl, by omega, I0, CB⟩
  case round =>
    obtain ⟨k, rfl, hk, I, C⟩ := hrel
    clear I0 CB
    have hBs : B ≤ wr.heap.size := by have := C.size; rw [HB.out] at this; exact this
    by_cases hlt : k < 32
    · have hlt' : (k : Int) < 32 := by omega
      have hl := textTo_length f k
      have HT := Lib.hid (show textTo f (k + 1) = textTo f k ++ [dig ((f k).toNat / 16)] ++ [dig ((f k).toNat % 16)] from rfl)
      have h256 := (f k).toNat_lt
      have hq : (f k).toNat / 16 < 16 := by omega
      have hr : (f k).toNat % 16 < 16 := by omega
      have hand := and15 (f k)
      have hdv : ((f k).toNat : Int) / 16 = (((f k).toNat / 16 : Nat) : Int) := by simp
      have hk1 := HIX.out k hlt
      unfold bv at hk1
      have d1 := dig_index _ hq
      have d2 := dig_index _ hr
      generalize (f k).toNat / 16 = q at *
      generalize (f k).toNat % 16 = r at *
      have D1 := Lib.hid d1
      have D2 := Lib.hid d2
      have K1 := Lib.hid hk1
      clear d1 d2 hk1
      go_wp2_with (first | (refine wpList_index_x _ rfl 23 _ _ rfl _ (K1.out _) ?_) | (refine wpList_index_x _ rfl 9 _ _ rfl _ (D1.out _) ?_))
      refine (write_byte B (B + 1) (bvs (textTo f k)) (dig q).toNat wr I (by rw [bvs_length]; omega) hBs).mono ?_
      rintro e w3 ⟨rfl, I3, C3⟩
      have D3 := C.trans C3
      have hBs3 : B ≤ w3.heap.size := by have := C3.size; omega
      clear I C C3
      go_wp2_with (first | (refine wpList_index_x _ rfl 9 _ _ rfl _ (D2.out _) ?_))
      refine (write_byte B (B + 1) (bvs (textTo f k) ++ [.int .u8 (dig q).toNat]) (dig r).toNat w3 I3 (by rw [List.length_append, bvs_length]; simp; omega) hBs3).mono ?_
      rintro e w4 ⟨rfl, I4, C4⟩
      have D4 := D3.trans C4
      clear I3 D3 C4
      go_wp2_with fail
      go_roundw
      case rel => exact ⟨k + 1, by go_num, by omega, by rw [HT.out, bvs_append, bvs_append]; exact I4, D4⟩
      case measure => simp [intOf]; omega
    · obtain rfl : k = 32 := by omega
      go_wp2_with fail
      refine (Tryd.Builder_String_any B (B + 1) (textTo f 32) wr I hBs).mono ?_
      rintro e w3 ⟨rfl, C3⟩
      go_wp2_with fail
      go_ret
      exact ⟨rfl, by rw [HB.out]; exact C.trans C3⟩
end Go.Proofs.YtccicfmaapaifaaDoor
