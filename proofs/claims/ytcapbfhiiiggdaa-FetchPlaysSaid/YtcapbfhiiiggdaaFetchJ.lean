/- The law's story of fetch. No conditions. -/
import Derived.Test.YtcapbfhiiiggdaaFetchI
namespace Go.Proofs.Ytcapbfhiiiggdaa
open Go.RowKit

def st0 : FS := FS.made [0, 1] [3, 5]
def st1 : FS := st0.ask
def st2 : FS := st1.ask
def st3 : FS := st2.done 1 5
theorem st0_asksN : st0.asksN = .tuple #[.int .i64 0, .int .i64 3, .bool true] := by kernel_rfl
theorem st1_asksN : st1.asksN = .tuple #[.int .i64 1, .int .i64 5, .bool true] := by kernel_rfl
theorem st2_code : st2.code 1 5 = 0 := by kernel_rfl
theorem st3_left : nums st3.leftB 32 = [0] := by kernel_rfl

/-- A literal of numbers. -/
theorem lit_src {w : World} {g : Nat} {l : List Int} {C : Array Value} {t : TypeId} {fr : Nat × Nat} (h : w.heap[g]? = some (.cells C t fr)) (hc : C.toList = ivs l) : Src w (some ⟨g, 0, none⟩) (ivs l) := by
  refine ⟨fun h => by (cases h), fun a ha j u hu => ?_⟩
  cases ha
  rw [show (⟨g, 0, none⟩ : Addr).add j = ⟨g, j, none⟩ from by unfold Addr.add; split <;> simp_all, cell_of_row _ _ j _ _ _ h, ← Array.getElem?_toList, hc]
  exact hu

set_option maxRecDepth 100000 in
set_option maxHeartbeats 1000000 in
theorem fetch_works (w : World) : Calls Try.prog 12 #[] w (Holds w) := by
  go_enter Try.func12, Try.ntmps12
  go_wp2_with fail
  have n0 := heap_alloc_new w (Obj.cells #[.int .i64 0, .int .i64 1] 3)
  have n1 := heap_alloc_new (w.alloc (Obj.cells #[.int .i64 0, .int .i64 1] 3)) (Obj.cells #[.int .i64 3, .int .i64 5] 3)
  rw [World.size_alloc] at n1
  have CA := Chg.alloc [] (w.alloc (Obj.cells #[.int .i64 0, .int .i64 1] 3)) (Obj.cells #[.int .i64 3, .int .i64 5] 3)
  have s0 := (lit_src (l := [0, 1]) n0 rfl).chg CA (by simp)
  have s1 := lit_src (l := [3, 5]) n1 rfl
  have C0 := (Chg.alloc [] w (Obj.cells #[.int .i64 0, .int .i64 1] 3)).trans CA (by simp)
  refine (fetch_new [0, 1] [3, 5] _ _ 2 2 _ s0 s1 rfl rfl (by decide) (by decide)).mono ?_
  clear n0 n1 s0 s1 CA
  rintro r w1 ⟨b, rfl, hb, h0, C1⟩
  have D1 := C0.trans C1 (by simp)
  have hbw : w.heap.size ≤ b := Nat.le_trans C0.size hb
  clear C0 C1 hb
  go_wp2_with fail
  have k1 := fetch_ask b st0 w1 h0
  rw [st0_asksN] at k1
  refine k1.mono ?_
  clear k1
  rintro r w2 ⟨rfl, h1, C2⟩
  have D2 := D1.trans C2 (fun k hk => by simp at hk; subst hk; exact .inr hbw)
  clear D1 C2 h0
  go_wp2_with fail
  have k1 := fetch_ask b st1 w2 h1
  rw [st1_asksN] at k1
  refine k1.mono ?_
  clear k1
  rintro r w3 ⟨rfl, h2, C3⟩
  have D3 := D2.trans C3 (fun k hk => by simp at hk; subst hk; exact .inr hbw)
  clear D2 C3 h1
  go_wp2_with fail
  have k1 := fetch_done b st2 1 5 w3 h2
  rw [st2_code] at k1
  refine k1.mono ?_
  clear k1
  rintro r w4 ⟨rfl, h3, C4⟩
  have D4 := D3.trans C4 (fun k hk => by simp at hk; subst hk; exact .inr hbw)
  clear D3 C4 h2
  go_wp2_with fail
  have k1 := fetch_left b st3 w4 h3
  rw [st3_left] at k1
  refine k1.mono ?_
  clear k1
  rintro r w5 ⟨v, rfl, o, C5, hn⟩
  obtain ⟨ao, c, rfl, _, _⟩ := ownsRow_slice o
  have D5 := D4.trans C5 (by simp)
  clear D4 C5 h3 hn
  have n0 := heap_alloc_new w5 (Obj.cells #[.int .i64 0] 3)
  have CA := Chg.alloc [] w5 (Obj.cells #[.int .i64 0] 3)
  have s0 := (ownsRow_src o).chg CA (by simp)
  have s1 := lit_src (l := [0]) n0 rfl
  have D6 := D5.trans CA (by simp)
  clear n0 CA o D5
  go_wp2_with fail
  refine (ref_same [0] [0] _ _ _ _ _ s0 s1 (by decide) (by decide)).mono ?_
  rintro r w7 ⟨rfl, nq, rfl⟩
  go_wp2_with fail
  go_ret
  exact ⟨rfl, D6.trans (Chg.drewN [] _ _) (by simp)⟩
end Go.Proofs.Ytcapbfhiiiggdaa
