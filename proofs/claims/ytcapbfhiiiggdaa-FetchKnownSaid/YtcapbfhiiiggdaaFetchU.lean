/- The law FetchKnown. No conditions. -/
import Derived.Test.YtcapbfhiiiggdaaFetchT
namespace Go.Proofs.Ytcapbfhiiiggdaa
open Go.RowKit

theorem ownsRow_head {w : World} {B : Nat} {e : TypeId} {size : Nat} {ao : Option Addr} {n c : Nat} {xs : List Value} (h : w.ownsRow B e size (.slice ao n c) n xs) (hn : 0 < n) : ∃ g, ao = some ⟨g, 0, none⟩ := by
  rcases h.2 with ⟨hv, h0⟩ | ⟨g, cap, cur, hv, _⟩
  · omega
  · simp only [Value.slice.injEq] at hv
    exact ⟨g, hv.1⟩

theorem heap_old {w : World} {k : Nat} {x : Obj} (o : Obj) (h : w.heap[k]? = some x) : (w.alloc o).heap[k]? = some x := (Below.heap_alloc w o k (by
  rcases Nat.lt_or_ge k w.heap.size with h1 | h1
  · exact h1
  · rw [Array.getElem?_eq_none h1] at h; cases h)).trans h
theorem heap_new {w : World} {k : Nat} (o : Obj) (h : w.heap.size = k) : (w.alloc o).heap[k]? = some o := by subst h; exact heap_alloc_new w o

def BadAt (W : World) (g k : Nat) : Prop := ∃ (ao po : Option Addr) (bs ps : List Int), W.cell? ⟨g, k * 2, none⟩ = some (.slice ao bs.length bs.length) ∧ W.cell? ⟨g, k * 2 + 1, none⟩ = some (.slice po ps.length ps.length) ∧ Src W ao (ivs bs) ∧ Src W po (ivs ps) ∧ (rises bs 0 31 && rises ps 1 16) = false ∧ bs.length ≤ 2 ∧ ps.length ≤ 2

theorem bad_world (w : World) : ∀ k, k < 7 → BadAt ((((((((w.alloc (.cells #[.int .i64 1, .int .i64 0] 3)).alloc (.cells #[.int .i64 0, .int .i64 0] 3)).alloc (.cells #[.int .i64 (-1)] 3)).alloc (.cells #[.int .i64 32] 3)).alloc (.cells #[.int .i64 0] 3)).alloc (.cells #[.int .i64 17] 3)).alloc (.cells #[.int .i64 2, .int .i64 2] 3)).alloc (.cells #[.slice (some ⟨w.heap.size, 0, none⟩) 2 2, .slice none 0 0, .slice (some ⟨w.heap.size + 1, 0, none⟩) 2 2, .slice none 0 0, .slice (some ⟨w.heap.size + 1 + 1, 0, none⟩) 1 1, .slice none 0 0, .slice (some ⟨w.heap.size + 1 + 1 + 1, 0, none⟩) 1 1, .slice none 0 0, .slice none 0 0, .slice (some ⟨w.heap.size + 1 + 1 + 1 + 1, 0, none⟩) 1 1, .slice none 0 0, .slice (some ⟨w.heap.size + 1 + 1 + 1 + 1 + 1, 0, none⟩) 1 1, .slice none 0 0, .slice (some ⟨w.heap.size + 1 + 1 + 1 + 1 + 1 + 1, 0, none⟩) 2 2] 55)) (w.heap.size + 1 + 1 + 1 + 1 + 1 + 1 + 1) k := by
  have b0 := heap_new (w := w) (k := w.heap.size) (.cells #[.int .i64 1, .int .i64 0] 3) (by simp)
  replace b0 := heap_old (.cells #[.int .i64 0, .int .i64 0] 3) b0
  replace b0 := heap_old (.cells #[.int .i64 (-1)] 3) b0
  replace b0 := heap_old (.cells #[.int .i64 32] 3) b0
  replace b0 := heap_old (.cells #[.int .i64 0] 3) b0
  replace b0 := heap_old (.cells #[.int .i64 17] 3) b0
  replace b0 := heap_old (.cells #[.int .i64 2, .int .i64 2] 3) b0
  replace b0 := heap_old (.cells #[.slice (some ⟨w.heap.size, 0, none⟩) 2 2, .slice none 0 0, .slice (some ⟨w.heap.size + 1, 0, none⟩) 2 2, .slice none 0 0, .slice (some ⟨w.heap.size + 1 + 1, 0, none⟩) 1 1, .slice none 0 0, .slice (some ⟨w.heap.size + 1 + 1 + 1, 0, none⟩) 1 1, .slice none 0 0, .slice none 0 0, .slice (some ⟨w.heap.size + 1 + 1 + 1 + 1, 0, none⟩) 1 1, .slice none 0 0, .slice (some ⟨w.heap.size + 1 + 1 + 1 + 1 + 1, 0, none⟩) 1 1, .slice none 0 0, .slice (some ⟨w.heap.size + 1 + 1 + 1 + 1 + 1 + 1, 0, none⟩) 2 2] 55) b0
  have b1 := heap_new (w := (w.alloc (.cells #[.int .i64 1, .int .i64 0] 3))) (k := w.heap.size + 1) (.cells #[.int .i64 0, .int .i64 0] 3) (by simp)
  replace b1 := heap_old (.cells #[.int .i64 (-1)] 3) b1
  replace b1 := heap_old (.cells #[.int .i64 32] 3) b1
  replace b1 := heap_old (.cells #[.int .i64 0] 3) b1
  replace b1 := heap_old (.cells #[.int .i64 17] 3) b1
  replace b1 := heap_old (.cells #[.int .i64 2, .int .i64 2] 3) b1
  replace b1 := heap_old (.cells #[.slice (some ⟨w.heap.size, 0, none⟩) 2 2, .slice none 0 0, .slice (some ⟨w.heap.size + 1, 0, none⟩) 2 2, .slice none 0 0, .slice (some ⟨w.heap.size + 1 + 1, 0, none⟩) 1 1, .slice none 0 0, .slice (some ⟨w.heap.size + 1 + 1 + 1, 0, none⟩) 1 1, .slice none 0 0, .slice none 0 0, .slice (some ⟨w.heap.size + 1 + 1 + 1 + 1, 0, none⟩) 1 1, .slice none 0 0, .slice (some ⟨w.heap.size + 1 + 1 + 1 + 1 + 1, 0, none⟩) 1 1, .slice none 0 0, .slice (some ⟨w.heap.size + 1 + 1 + 1 + 1 + 1 + 1, 0, none⟩) 2 2] 55) b1
  have b2 := heap_new (w := ((w.alloc (.cells #[.int .i64 1, .int .i64 0] 3)).alloc (.cells #[.int .i64 0, .int .i64 0] 3))) (k := w.heap.size + 1 + 1) (.cells #[.int .i64 (-1)] 3) (by simp)
  replace b2 := heap_old (.cells #[.int .i64 32] 3) b2
  replace b2 := heap_old (.cells #[.int .i64 0] 3) b2
  replace b2 := heap_old (.cells #[.int .i64 17] 3) b2
  replace b2 := heap_old (.cells #[.int .i64 2, .int .i64 2] 3) b2
  replace b2 := heap_old (.cells #[.slice (some ⟨w.heap.size, 0, none⟩) 2 2, .slice none 0 0, .slice (some ⟨w.heap.size + 1, 0, none⟩) 2 2, .slice none 0 0, .slice (some ⟨w.heap.size + 1 + 1, 0, none⟩) 1 1, .slice none 0 0, .slice (some ⟨w.heap.size + 1 + 1 + 1, 0, none⟩) 1 1, .slice none 0 0, .slice none 0 0, .slice (some ⟨w.heap.size + 1 + 1 + 1 + 1, 0, none⟩) 1 1, .slice none 0 0, .slice (some ⟨w.heap.size + 1 + 1 + 1 + 1 + 1, 0, none⟩) 1 1, .slice none 0 0, .slice (some ⟨w.heap.size + 1 + 1 + 1 + 1 + 1 + 1, 0, none⟩) 2 2] 55) b2
  have b3 := heap_new (w := (((w.alloc (.cells #[.int .i64 1, .int .i64 0] 3)).alloc (.cells #[.int .i64 0, .int .i64 0] 3)).alloc (.cells #[.int .i64 (-1)] 3))) (k := w.heap.size + 1 + 1 + 1) (.cells #[.int .i64 32] 3) (by simp)
  replace b3 := heap_old (.cells #[.int .i64 0] 3) b3
  replace b3 := heap_old (.cells #[.int .i64 17] 3) b3
  replace b3 := heap_old (.cells #[.int .i64 2, .int .i64 2] 3) b3
  replace b3 := heap_old (.cells #[.slice (some ⟨w.heap.size, 0, none⟩) 2 2, .slice none 0 0, .slice (some ⟨w.heap.size + 1, 0, none⟩) 2 2, .slice none 0 0, .slice (some ⟨w.heap.size + 1 + 1, 0, none⟩) 1 1, .slice none 0 0, .slice (some ⟨w.heap.size + 1 + 1 + 1, 0, none⟩) 1 1, .slice none 0 0, .slice none 0 0, .slice (some ⟨w.heap.size + 1 + 1 + 1 + 1, 0, none⟩) 1 1, .slice none 0 0, .slice (some ⟨w.heap.size + 1 + 1 + 1 + 1 + 1, 0, none⟩) 1 1, .slice none 0 0, .slice (some ⟨w.heap.size + 1 + 1 + 1 + 1 + 1 + 1, 0, none⟩) 2 2] 55) b3
  have b4 := heap_new (w := ((((w.alloc (.cells #[.int .i64 1, .int .i64 0] 3)).alloc (.cells #[.int .i64 0, .int .i64 0] 3)).alloc (.cells #[.int .i64 (-1)] 3)).alloc (.cells #[.int .i64 32] 3))) (k := w.heap.size + 1 + 1 + 1 + 1) (.cells #[.int .i64 0] 3) (by simp)
  replace b4 := heap_old (.cells #[.int .i64 17] 3) b4
  replace b4 := heap_old (.cells #[.int .i64 2, .int .i64 2] 3) b4
  replace b4 := heap_old (.cells #[.slice (some ⟨w.heap.size, 0, none⟩) 2 2, .slice none 0 0, .slice (some ⟨w.heap.size + 1, 0, none⟩) 2 2, .slice none 0 0, .slice (some ⟨w.heap.size + 1 + 1, 0, none⟩) 1 1, .slice none 0 0, .slice (some ⟨w.heap.size + 1 + 1 + 1, 0, none⟩) 1 1, .slice none 0 0, .slice none 0 0, .slice (some ⟨w.heap.size + 1 + 1 + 1 + 1, 0, none⟩) 1 1, .slice none 0 0, .slice (some ⟨w.heap.size + 1 + 1 + 1 + 1 + 1, 0, none⟩) 1 1, .slice none 0 0, .slice (some ⟨w.heap.size + 1 + 1 + 1 + 1 + 1 + 1, 0, none⟩) 2 2] 55) b4
  have b5 := heap_new (w := (((((w.alloc (.cells #[.int .i64 1, .int .i64 0] 3)).alloc (.cells #[.int .i64 0, .int .i64 0] 3)).alloc (.cells #[.int .i64 (-1)] 3)).alloc (.cells #[.int .i64 32] 3)).alloc (.cells #[.int .i64 0] 3))) (k := w.heap.size + 1 + 1 + 1 + 1 + 1) (.cells #[.int .i64 17] 3) (by simp)
  replace b5 := heap_old (.cells #[.int .i64 2, .int .i64 2] 3) b5
  replace b5 := heap_old (.cells #[.slice (some ⟨w.heap.size, 0, none⟩) 2 2, .slice none 0 0, .slice (some ⟨w.heap.size + 1, 0, none⟩) 2 2, .slice none 0 0, .slice (some ⟨w.heap.size + 1 + 1, 0, none⟩) 1 1, .slice none 0 0, .slice (some ⟨w.heap.size + 1 + 1 + 1, 0, none⟩) 1 1, .slice none 0 0, .slice none 0 0, .slice (some ⟨w.heap.size + 1 + 1 + 1 + 1, 0, none⟩) 1 1, .slice none 0 0, .slice (some ⟨w.heap.size + 1 + 1 + 1 + 1 + 1, 0, none⟩) 1 1, .slice none 0 0, .slice (some ⟨w.heap.size + 1 + 1 + 1 + 1 + 1 + 1, 0, none⟩) 2 2] 55) b5
  have b6 := heap_new (w := ((((((w.alloc (.cells #[.int .i64 1, .int .i64 0] 3)).alloc (.cells #[.int .i64 0, .int .i64 0] 3)).alloc (.cells #[.int .i64 (-1)] 3)).alloc (.cells #[.int .i64 32] 3)).alloc (.cells #[.int .i64 0] 3)).alloc (.cells #[.int .i64 17] 3))) (k := w.heap.size + 1 + 1 + 1 + 1 + 1 + 1) (.cells #[.int .i64 2, .int .i64 2] 3) (by simp)
  replace b6 := heap_old (.cells #[.slice (some ⟨w.heap.size, 0, none⟩) 2 2, .slice none 0 0, .slice (some ⟨w.heap.size + 1, 0, none⟩) 2 2, .slice none 0 0, .slice (some ⟨w.heap.size + 1 + 1, 0, none⟩) 1 1, .slice none 0 0, .slice (some ⟨w.heap.size + 1 + 1 + 1, 0, none⟩) 1 1, .slice none 0 0, .slice none 0 0, .slice (some ⟨w.heap.size + 1 + 1 + 1 + 1, 0, none⟩) 1 1, .slice none 0 0, .slice (some ⟨w.heap.size + 1 + 1 + 1 + 1 + 1, 0, none⟩) 1 1, .slice none 0 0, .slice (some ⟨w.heap.size + 1 + 1 + 1 + 1 + 1 + 1, 0, none⟩) 2 2] 55) b6
  have b7 := heap_new (w := (((((((w.alloc (.cells #[.int .i64 1, .int .i64 0] 3)).alloc (.cells #[.int .i64 0, .int .i64 0] 3)).alloc (.cells #[.int .i64 (-1)] 3)).alloc (.cells #[.int .i64 32] 3)).alloc (.cells #[.int .i64 0] 3)).alloc (.cells #[.int .i64 17] 3)).alloc (.cells #[.int .i64 2, .int .i64 2] 3))) (k := w.heap.size + 1 + 1 + 1 + 1 + 1 + 1 + 1) (.cells #[.slice (some ⟨w.heap.size, 0, none⟩) 2 2, .slice none 0 0, .slice (some ⟨w.heap.size + 1, 0, none⟩) 2 2, .slice none 0 0, .slice (some ⟨w.heap.size + 1 + 1, 0, none⟩) 1 1, .slice none 0 0, .slice (some ⟨w.heap.size + 1 + 1 + 1, 0, none⟩) 1 1, .slice none 0 0, .slice none 0 0, .slice (some ⟨w.heap.size + 1 + 1 + 1 + 1, 0, none⟩) 1 1, .slice none 0 0, .slice (some ⟨w.heap.size + 1 + 1 + 1 + 1 + 1, 0, none⟩) 1 1, .slice none 0 0, .slice (some ⟨w.heap.size + 1 + 1 + 1 + 1 + 1 + 1, 0, none⟩) 2 2] 55) (by simp)
  generalize ((((((((w.alloc (.cells #[.int .i64 1, .int .i64 0] 3)).alloc (.cells #[.int .i64 0, .int .i64 0] 3)).alloc (.cells #[.int .i64 (-1)] 3)).alloc (.cells #[.int .i64 32] 3)).alloc (.cells #[.int .i64 0] 3)).alloc (.cells #[.int .i64 17] 3)).alloc (.cells #[.int .i64 2, .int .i64 2] 3)).alloc (.cells #[.slice (some ⟨w.heap.size, 0, none⟩) 2 2, .slice none 0 0, .slice (some ⟨w.heap.size + 1, 0, none⟩) 2 2, .slice none 0 0, .slice (some ⟨w.heap.size + 1 + 1, 0, none⟩) 1 1, .slice none 0 0, .slice (some ⟨w.heap.size + 1 + 1 + 1, 0, none⟩) 1 1, .slice none 0 0, .slice none 0 0, .slice (some ⟨w.heap.size + 1 + 1 + 1 + 1, 0, none⟩) 1 1, .slice none 0 0, .slice (some ⟨w.heap.size + 1 + 1 + 1 + 1 + 1, 0, none⟩) 1 1, .slice none 0 0, .slice (some ⟨w.heap.size + 1 + 1 + 1 + 1 + 1 + 1, 0, none⟩) 2 2] 55)) = W at *
  intro k hk
  match k, hk with
  | 0, _ => exact ⟨some ⟨w.heap.size, 0, none⟩, none, [1, 0], [], by rw [cell_of_row _ _ _ _ _ _ b7]; rfl, by rw [cell_of_row _ _ _ _ _ _ b7]; rfl, lit_src b0 rfl, Src.empty _ _, by decide, by decide, by decide⟩
  | 1, _ => exact ⟨some ⟨w.heap.size + 1, 0, none⟩, none, [0, 0], [], by rw [cell_of_row _ _ _ _ _ _ b7]; rfl, by rw [cell_of_row _ _ _ _ _ _ b7]; rfl, lit_src b1 rfl, Src.empty _ _, by decide, by decide, by decide⟩
  | 2, _ => exact ⟨some ⟨w.heap.size + 1 + 1, 0, none⟩, none, [-1], [], by rw [cell_of_row _ _ _ _ _ _ b7]; rfl, by rw [cell_of_row _ _ _ _ _ _ b7]; rfl, lit_src b2 rfl, Src.empty _ _, by decide, by decide, by decide⟩
  | 3, _ => exact ⟨some ⟨w.heap.size + 1 + 1 + 1, 0, none⟩, none, [32], [], by rw [cell_of_row _ _ _ _ _ _ b7]; rfl, by rw [cell_of_row _ _ _ _ _ _ b7]; rfl, lit_src b3 rfl, Src.empty _ _, by decide, by decide, by decide⟩
  | 4, _ => exact ⟨none, some ⟨w.heap.size + 1 + 1 + 1 + 1, 0, none⟩, [], [0], by rw [cell_of_row _ _ _ _ _ _ b7]; rfl, by rw [cell_of_row _ _ _ _ _ _ b7]; rfl, Src.empty _ _, lit_src b4 rfl, by decide, by decide, by decide⟩
  | 5, _ => exact ⟨none, some ⟨w.heap.size + 1 + 1 + 1 + 1 + 1, 0, none⟩, [], [17], by rw [cell_of_row _ _ _ _ _ _ b7]; rfl, by rw [cell_of_row _ _ _ _ _ _ b7]; rfl, Src.empty _ _, lit_src b5 rfl, by decide, by decide, by decide⟩
  | 6, _ => exact ⟨none, some ⟨w.heap.size + 1 + 1 + 1 + 1 + 1 + 1, 0, none⟩, [], [2, 2], by rw [cell_of_row _ _ _ _ _ _ b7]; rfl, by rw [cell_of_row _ _ _ _ _ _ b7]; rfl, Src.empty _ _, lit_src b6 rfl, by decide, by decide, by decide⟩

set_option maxRecDepth 100000 in
set_option maxHeartbeats 4000000 in
theorem fetch_known (w : World) : Calls Try.prog 7 #[] w (Holds w) := by
  go_enter Try.func7, Try.ntmps7
  go_wp2_with fail
  have n0 := heap_alloc_new w (Obj.cells #[.int .i64 0, .int .i64 1, .int .i64 2] 3)
  have n1 := heap_alloc_new (w.alloc (Obj.cells #[.int .i64 0, .int .i64 1, .int .i64 2] 3)) (Obj.cells #[.int .i64 3, .int .i64 5] 3)
  rw [World.size_alloc] at n1
  have CA := Chg.alloc [] (w.alloc (Obj.cells #[.int .i64 0, .int .i64 1, .int .i64 2] 3)) (Obj.cells #[.int .i64 3, .int .i64 5] 3)
  have s0 := (lit_src (l := [0, 1, 2]) n0 rfl).chg CA (by simp)
  have s1 := lit_src (l := [3, 5]) n1 rfl
  have C0 := (Chg.alloc [] w (Obj.cells #[.int .i64 0, .int .i64 1, .int .i64 2] 3)).trans CA (by simp)
  refine (fetch_new [0, 1, 2] [3, 5] _ _ 3 2 _ s0 s1 rfl rfl (by decide) (by decide)).mono ?_
  clear n0 n1 s0 s1 CA
  rintro r w1 ⟨b, rfl, hb, h0, C1⟩
  have D1 := C0.trans C1 (by simp)
  have hbw : w.heap.size ≤ b := Nat.le_trans C0.size hb
  clear C0 C1 hb
  go_upto_region 5 with (fail)
  have nx := heap_alloc_new w1 (Obj.cells #[.int .i64 0, .int .i64 3, .int .i64 1, .int .i64 5, .int .i64 2, .int .i64 3] 53)
  have CX := Chg.alloc [] w1 (Obj.cells #[.int .i64 0, .int .i64 3, .int .i64 1, .int .i64 5, .int .i64 2, .int .i64 3] 53)
  have hX := h0.chg CX (by simp)
  have DX := D1.trans CX (by simp)
  have hbx : b ≠ w1.heap.size := by have := h0.lt; omega
  have cells : ∀ k, k < 3 → (w1.alloc (Obj.cells #[.int .i64 0, .int .i64 3, .int .i64 1, .int .i64 5, .int .i64 2, .int .i64 3] 53)).cell? ⟨w1.heap.size, k * 2, none⟩ = some (.int .i64 k) ∧ (w1.alloc (Obj.cells #[.int .i64 0, .int .i64 3, .int .i64 1, .int .i64 5, .int .i64 2, .int .i64 3] 53)).cell? ⟨w1.heap.size, k * 2 + 1, none⟩ = some (.int .i64 (knDev k)) := by
    intro k hk
    rw [cell_of_row _ _ _ _ _ _ nx, cell_of_row _ _ _ _ _ _ nx]
    match k, hk with
    | 0, _ => exact ⟨rfl, rfl⟩
    | 1, _ => exact ⟨rfl, rfl⟩
    | 2, _ => exact ⟨rfl, rfl⟩
  obtain ⟨g, hg⟩ : ∃ g, w1.heap.size = g := ⟨_, rfl⟩
  rw [hg] at cells hbx ⊢
  have hX0 : FetchAt (w1.alloc (Obj.cells #[.int .i64 0, .int .i64 3, .int .i64 1, .int .i64 5, .int .i64 2, .int .i64 3] 53)) b (knAt 0) := hX
  generalize w1.alloc (Obj.cells #[.int .i64 0, .int .i64 3, .int .i64 1, .int .i64 5, .int .i64 2, .int .i64 3] 53) = wx at *
  have HC := Lib.hid cells
  clear nx CX hX hg D1 h0 cells
  go_wp2_with fail
  go_loopw [4] (fun i wr => ∃ k : Nat, i = .int .i64 k ∧ k ≤ 3 ∧ FetchAt wr b (knAt k) ∧ Chg [b] wx wr) (fun i _ => 3 - (intOf i).toNat)
  case atStart => exact ⟨0, rfl, by omega, hX0, Chg.refl _ _⟩
  case round =>
    obtain ⟨k, rfl, hk, h, C⟩ := hrel
    clear hX0
    by_cases hk3 : k < 3
    · have hk3' : (k : Int) < 3 := by omega
      obtain ⟨ha, hb⟩ := kn_ask k hk3
      obtain ⟨x0, x1⟩ := HC.out k hk3
      have k1 := fetch_ask b (knAt k) wr h
      rw [ha, hb] at k1
      generalize knDev k = dv at *
      clear ha hb
      go_wp2_with fail
      refine k1.mono ?_
      clear k1
      rintro r w2 ⟨rfl, h2, C2⟩
      have D := C.trans C2 (by simp)
      have y0 := D.cell_some x0 (by simp; omega)
      have y1 := D.cell_some x1 (by simp; omega)
      clear C C2 h x0 x1
      go_wp2_with fail
      go_roundw
      case rel => exact ⟨k + 1, by go_num, by omega, h2, D⟩
      case measure => simp [intOf]; omega
    · obtain rfl : k = 3 := by omega
      have DC := DX.trans C (fun k hk => by simp at hk; subst hk; exact .inr hbw)
      have h3 : FetchAt wr b kn3 := h
      clear h C DX hk3 hk HC
      go_wp2_with fail
      have k1 := fetch_ask b kn3 wr h3
      rw [kn3_ask.1, kn3_ask.2] at k1
      refine k1.mono ?_
      clear k1
      rintro r w101 ⟨rfl, hF101, C101⟩
      have D101 := DC.trans C101 (fun k hk => by simp at hk; subst hk; exact .inr hbw)
      clear h3 DC C101
      go_wp2_with fail
      have k1 := fetch_failed b kn3 0 3 w101 hF101 kn3_ok
      rw [kn3_code] at k1
      refine k1.mono ?_
      clear k1
      rintro r w102 ⟨rfl, hF102, C102⟩
      have D102 := D101.trans C102 (fun k hk => by simp at hk; subst hk; exact .inr hbw)
      clear hF101 D101 C102
      go_wp2_with fail
      have k1 := fetch_ask b kn4 w102 hF102
      rw [kn4_asks] at k1
      refine k1.mono ?_
      clear k1
      rintro r w103 ⟨rfl, hF103, C103⟩
      have D103 := D102.trans C103 (fun k hk => by simp at hk; subst hk; exact .inr hbw)
      clear hF102 D102 C103
      go_wp2_with fail
      have k1 := fetch_done b kn5 1 5 w103 hF103
      rw [kn5_code] at k1
      refine k1.mono ?_
      clear k1
      rintro r w104 ⟨rfl, hF104, C104⟩
      have D104 := D103.trans C104 (fun k hk => by simp at hk; subst hk; exact .inr hbw)
      clear hF103 D103 C104
      go_wp2_with fail
      have k1 := fetch_done b kn6 1 5 w104 hF104
      rw [kn6_code.1, kn6_code.2] at k1
      refine k1.mono ?_
      clear k1
      rintro r w105 ⟨rfl, hF105, C105⟩
      have D105 := D104.trans C105 (fun k hk => by simp at hk; subst hk; exact .inr hbw)
      clear hF104 D104 C105
      go_wp2_with fail
      have k1 := fetch_failed b kn6 0 5 w105 hF105 kn6_ok
      rw [kn6_code2] at k1
      refine k1.mono ?_
      clear k1
      rintro r w106 ⟨rfl, hF106, C106⟩
      have D106 := D105.trans C106 (fun k hk => by simp at hk; subst hk; exact .inr hbw)
      clear hF105 D105 C106
      go_wp2_with fail
      have k1 := fetch_stuck b kn7 w106 hF106
      rw [kn7_stuck] at k1
      refine k1.mono ?_
      clear k1
      rintro r w107 ⟨v107, rfl, o107, C107, _⟩
      obtain ⟨a107, c107, rfl, _, _⟩ := ownsRow_slice o107
      have hF107 := hF106.chg C107 (by simp)
      have D107 := D106.trans C107 (by simp)
      clear hF106 D106
      obtain ⟨ax, xs, rfl, hxs, cs0⟩ := ivs_src_at (ownsRow_src o107) (k := 0) (by simp)
      obtain rfl : (0 : Int) = xs := by simpa using hxs
      have cs1 : w107.cell? ax = some (.int .i64 0) := cs0
      have nb : ax.block ≠ b := fun e => ownsRow_ne o107 hF107 (by decide) (by rw [← e]; rfl)
      clear hxs cs0 C107 o107
      go_wp2_with fail
      have k1 := fetch_ask b kn7 w107 hF107
      rw [kn7_ask.1, kn7_ask.2] at k1
      refine k1.mono ?_
      clear k1
      rintro r w108 ⟨rfl, hF108, C108⟩
      have D108 := D107.trans C108 (fun k hk => by simp at hk; subst hk; exact .inr hbw)
      have cs2 := C108.cell_some cs1 (by simpa using nb)
      clear hF107 D107 C108
      go_wp2_with fail
      have k1 := fetch_left b kn7 w108 hF108
      rw [kn7_left] at k1
      refine k1.mono ?_
      clear k1
      rintro r w109 ⟨v109, rfl, o109, C109, _⟩
      obtain ⟨a109, c109, rfl, _, _⟩ := ownsRow_slice o109
      have hF109 := hF108.chg C109 (by simp)
      have D109 := D108.trans C109 (by simp)
      clear hF108 D108
      have cs3 := C109.cell_some cs2 (by simp)
      obtain ⟨gl, rfl⟩ := ownsRow_head o109 (by simp)
      obtain ⟨al, xl, hal, hxl, cl0⟩ := ivs_src_at (ownsRow_src o109) (k := 1) (by simp)
      obtain rfl := Option.some.inj hal
      obtain rfl : (2 : Int) = xl := by simpa using hxl
      rw [addr_add0] at cl0
      clear hxl hal C109 o109 cs1 cs2
      go_wp2_with fail
      clear cs3 cl0
      have k1 := fetch_lost b kn7 3 w109 hF109
      rw [kn7_lost] at k1
      refine k1.mono ?_
      clear k1
      rintro r w110 ⟨rfl, hF110, C110⟩
      have D110 := D109.trans C110 (fun k hk => by simp at hk; subst hk; exact .inr hbw)
      clear hF109 D109 C110
      go_wp2_with fail
      have k1 := fetch_stuck b kn8 w110 hF110
      rw [kn8_stuck] at k1
      refine k1.mono ?_
      clear k1
      rintro r w111 ⟨v111, rfl, o111, C111, _⟩
      obtain ⟨a111, c111, rfl, _, _⟩ := ownsRow_slice o111
      have hF111 := hF110.chg C111 (by simp)
      have D111 := D110.trans C111 (by simp)
      clear hF110 D110 C111 o111
      go_wp2_with fail
      have k1 := fetch_ask b kn8 w111 hF111
      rw [kn8_asks] at k1
      refine k1.mono ?_
      clear k1
      rintro r w112 ⟨rfl, hF112, C112⟩
      have D112 := D111.trans C112 (fun k hk => by simp at hk; subst hk; exact .inr hbw)
      clear hF111 D111 C112
      go_wp2_with fail
      have k1 := fetch_found b kn9 3 w112 hF112
      rw [kn9_found] at k1
      refine k1.mono ?_
      clear k1
      rintro r w113 ⟨rfl, hF113, C113⟩
      have D113 := D112.trans C113 (fun k hk => by simp at hk; subst hk; exact .inr hbw)
      clear hF112 D112 C113
      go_wp2_with fail
      have k1 := fetch_ask b kn10 w113 hF113
      rw [kn10_asks] at k1
      refine k1.mono ?_
      clear k1
      rintro r w114 ⟨rfl, hF114, C114⟩
      have D114 := D113.trans C114 (fun k hk => by simp at hk; subst hk; exact .inr hbw)
      clear hF113 D113 C114
      go_upto_region 30 with (fail)
      have BW := bad_world w114
      have CW : Chg [] w114 ((((((((w114.alloc (.cells #[.int .i64 1, .int .i64 0] 3)).alloc (.cells #[.int .i64 0, .int .i64 0] 3)).alloc (.cells #[.int .i64 (-1)] 3)).alloc (.cells #[.int .i64 32] 3)).alloc (.cells #[.int .i64 0] 3)).alloc (.cells #[.int .i64 17] 3)).alloc (.cells #[.int .i64 2, .int .i64 2] 3)).alloc (.cells #[.slice (some ⟨w114.heap.size, 0, none⟩) 2 2, .slice none 0 0, .slice (some ⟨w114.heap.size + 1, 0, none⟩) 2 2, .slice none 0 0, .slice (some ⟨w114.heap.size + 1 + 1, 0, none⟩) 1 1, .slice none 0 0, .slice (some ⟨w114.heap.size + 1 + 1 + 1, 0, none⟩) 1 1, .slice none 0 0, .slice none 0 0, .slice (some ⟨w114.heap.size + 1 + 1 + 1 + 1, 0, none⟩) 1 1, .slice none 0 0, .slice (some ⟨w114.heap.size + 1 + 1 + 1 + 1 + 1, 0, none⟩) 1 1, .slice none 0 0, .slice (some ⟨w114.heap.size + 1 + 1 + 1 + 1 + 1 + 1, 0, none⟩) 2 2] 55)) := ((((((((Chg.refl [] w114).trans (Chg.alloc [] _ (.cells #[.int .i64 1, .int .i64 0] 3)) (by simp)).trans (Chg.alloc [] _ (.cells #[.int .i64 0, .int .i64 0] 3)) (by simp)).trans (Chg.alloc [] _ (.cells #[.int .i64 (-1)] 3)) (by simp)).trans (Chg.alloc [] _ (.cells #[.int .i64 32] 3)) (by simp)).trans (Chg.alloc [] _ (.cells #[.int .i64 0] 3)) (by simp)).trans (Chg.alloc [] _ (.cells #[.int .i64 17] 3)) (by simp)).trans (Chg.alloc [] _ (.cells #[.int .i64 2, .int .i64 2] 3)) (by simp)).trans (Chg.alloc [] _ _) (by simp)
      have hF115 := hF114.chg CW (by simp)
      have D115 := D114.trans CW (by simp)
      obtain ⟨G, hG⟩ : ∃ G, w114.heap.size + 1 + 1 + 1 + 1 + 1 + 1 + 1 = G := ⟨_, rfl⟩
      rw [hG] at BW ⊢
      generalize ((((((((w114.alloc (.cells #[.int .i64 1, .int .i64 0] 3)).alloc (.cells #[.int .i64 0, .int .i64 0] 3)).alloc (.cells #[.int .i64 (-1)] 3)).alloc (.cells #[.int .i64 32] 3)).alloc (.cells #[.int .i64 0] 3)).alloc (.cells #[.int .i64 17] 3)).alloc (.cells #[.int .i64 2, .int .i64 2] 3)).alloc (.cells #[.slice (some ⟨w114.heap.size, 0, none⟩) 2 2, .slice none 0 0, .slice (some ⟨w114.heap.size + 1, 0, none⟩) 2 2, .slice none 0 0, .slice (some ⟨w114.heap.size + 1 + 1, 0, none⟩) 1 1, .slice none 0 0, .slice (some ⟨w114.heap.size + 1 + 1 + 1, 0, none⟩) 1 1, .slice none 0 0, .slice none 0 0, .slice (some ⟨w114.heap.size + 1 + 1 + 1 + 1, 0, none⟩) 1 1, .slice none 0 0, .slice (some ⟨w114.heap.size + 1 + 1 + 1 + 1 + 1, 0, none⟩) 1 1, .slice none 0 0, .slice (some ⟨w114.heap.size + 1 + 1 + 1 + 1 + 1 + 1, 0, none⟩) 2 2] 55)) = w115 at *
      have HBW := Lib.hid BW
      clear BW CW hF114 D114 hG
      go_wp2_with fail
      go_loopw [32] (fun i wr => ∃ k q : Nat, i = .int .i64 k ∧ k ≤ 7 ∧ wr = w115.drewN q) (fun i _ => 7 - (intOf i).toNat)
      case atStart => exact ⟨0, 0, rfl, by omega, rfl⟩
      case round =>
        obtain ⟨k, q, rfl, hk, rfl⟩ := hrel
        by_cases hk7 : k < 7
        · have hk7' : (k : Int) < 7 := by omega
          have hk70 : (0 : Int) ≤ k := by omega
          obtain ⟨ao, po, bs, ps, c1, c2, s1, s2, hbad, l1, l2⟩ := HBW.out k hk7
          have c1' : (w115.drewN q).cell? ⟨G, k * 2, none⟩ = some (.slice ao bs.length bs.length) := c1
          have c2' : (w115.drewN q).cell? ⟨G, k * 2 + 1, none⟩ = some (.slice po ps.length ps.length) := c2
          have s1' := s1.chg (Chg.drewN [] w115 q) (by simp)
          have s2' := s2.chg (Chg.drewN [] w115 q) (by simp)
          have HB := Lib.hid hbad
          clear c1 c2 s1 s2 hbad hF115 D115
          generalize hw2 : w115.drewN q = wq at *
          have HW := Lib.hid hw2
          clear hw2
          go_wp2_with fail
          go_quiet ((go_at_call 9; exact Calls.quiet_of_same ((fetch_new_bad bs ps ao po _ _ _ (s1'.chg (Chg.drewN [] _ _) (by simp)) (s2'.chg (Chg.drewN [] _ _) (by simp)) HB.out (by omega) (by omega)).mono (fun r w' ⟨h, g⟩ => ⟨h, g.symm⟩))))
          go_wp2_with fail
          go_roundw
          case rel => exact ⟨k + 1, q + nq, by go_num, by omega, by rw [← HW.out, World.drewN_drewN]⟩
          case measure => simp [intOf]; omega
        · have hF := hF115.chg (Chg.drewN [] w115 q) (by simp)
          have D := D115.trans (Chg.drewN [] w115 q) (by simp)
          generalize w115.drewN q = w116 at *
          clear hF115 D115 HBW
          obtain ⟨Z, hz, hzs, _, hz625⟩ := Try.zero63
          have nz := heap_alloc_new w116 (Obj.cells Z 63)
          have ce : (w116.alloc (Obj.cells Z 63)).cell? ⟨w116.heap.size, 625, none⟩ = some (.bool false) := by rw [cell_of_row _ _ _ _ _ _ nz]; exact hz625
          have CE := Chg.alloc [] w116 (Obj.cells Z 63)
          have hF0 := hF.chg CE (by simp)
          have D0 := D.trans CE (by simp)
          have hbe : w116.heap.size ≠ b := by have := hF.lt; omega
          clear nz CE hF D hz625
          go_wp2_with fail
          refine (fetch_ask_nil _).mono ?_
          rintro r z0 ⟨rfl, rfl⟩
          clear hz
          generalize w116.alloc (Obj.cells Z 63) = z0 at *
          obtain ⟨G2, hG2⟩ : ∃ G2, w116.heap.size = G2 := ⟨_, rfl⟩
          rw [hG2] at hbe ce ⊢
          clear hG2
          go_wp2_with fail
          refine (fetch_done_nil 0 1 _).mono ?_
          rintro r z0 ⟨rfl, rfl⟩
          go_wp2_with fail
          refine (fetch_lost_nil 1 _).mono ?_
          rintro r z0 ⟨rfl, rfl⟩
          go_wp2_with fail
          refine (fetch_found_nil 1 _).mono ?_
          rintro r z0 ⟨rfl, rfl⟩
          go_wp2_with fail
          refine (fetch_left_nil _).mono ?_
          rintro r z0 ⟨rfl, rfl⟩
          go_wp2_with fail
          refine (fetch_failed_empty G2 0 1 _ ce).mono ?_
          rintro r z0 ⟨rfl, rfl⟩
          go_wp2_with fail
          refine (fetch_stuck_empty G2 _ ce).mono ?_
          rintro r z1 ⟨rfl, Cz⟩
          have hF1 := hF0.chg Cz (by simp)
          have D1 := D0.trans Cz (by simp)
          clear hF0 D0 Cz ce
          go_wp2_with fail
          have k1 := fetch_found b kn11 0 z1 hF1
          rw [kn11_found0.1, kn11_found0.2] at k1
          refine k1.mono ?_
          clear k1
          rintro r z2 ⟨rfl, hF2, Cz⟩
          have D2 := D1.trans Cz (fun k hk => by simp at hk; subst hk; exact .inr hbw)
          clear hF1 D1 Cz
          go_wp2_with fail
          have k1 := fetch_found b kn11 17 z2 hF2
          rw [kn11_found17.1, kn11_found17.2] at k1
          refine k1.mono ?_
          clear k1
          rintro r z3 ⟨rfl, hF3, Cz⟩
          have D3 := D2.trans Cz (fun k hk => by simp at hk; subst hk; exact .inr hbw)
          clear hF2 D2 Cz
          go_wp2_with fail
          have k1 := fetch_lost b kn11 17 z3 hF3
          rw [kn11_lost17.1, kn11_lost17.2] at k1
          refine k1.mono ?_
          clear k1
          rintro r z4 ⟨rfl, hF4, Cz⟩
          have D4 := D3.trans Cz (fun k hk => by simp at hk; subst hk; exact .inr hbw)
          clear hF3 D3 Cz
          go_wp2_with fail
          have k1 := fetch_done b kn11 (-1) 3 z4 hF4
          rw [kn11_done1.1, kn11_done1.2] at k1
          refine k1.mono ?_
          clear k1
          rintro r z5 ⟨rfl, hF5, Cz⟩
          have D5 := D4.trans Cz (fun k hk => by simp at hk; subst hk; exact .inr hbw)
          clear hF4 D4 Cz
          go_wp2_with fail
          have k1 := fetch_done b kn11 99 3 z5 hF5
          rw [kn11_done99.1, kn11_done99.2] at k1
          refine k1.mono ?_
          clear k1
          rintro r z6 ⟨rfl, hF6, Cz⟩
          have D6 := D5.trans Cz (fun k hk => by simp at hk; subst hk; exact .inr hbw)
          clear hF5 D5 Cz
          go_wp2_with fail
          refine (fetch_works _).mono ?_
          rintro r z9 ⟨rfl, Cz⟩
          go_wp2_with fail
          go_ret
          exact ⟨rfl, D6.trans Cz (by simp)⟩
end Go.Proofs.Ytcapbfhiiiggdaa
