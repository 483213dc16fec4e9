/- What sha.Sum does to memory. No conditions beyond those that each statement types. -/
import Derived.Test.YtfdhpjflkimihaaDoorBkE
namespace Go.Proofs.YtfdhpjflkimihaaDoor
open Go.RowKit

/-- The digest of bytes. -/
def digest (l : List UInt8) : Nat → UInt8 := (ss0.eat l).sum.hash

set_option maxRecDepth 100000 in
set_option maxHeartbeats 1000000 in
theorem sha_digest (l : List UInt8) (ao : Option Addr) (c : Nat) (w : World) (hL : Laid w) (hsrc : Src w ao (bvs l)) (hlc : l.length ≤ c) (hl : l.length ≤ 1000000) (hlt : ∀ a, ao = some a → a.block < w.heap.size) :
    Calls Tryd.prog 39 #[.slice ao l.length c] w fun e w' => e = .returned (hashV (digest l)) ∧ Chg [] w w' := by
  obtain ⟨Z, hZ, hz, hs, h1⟩ := zeroHash
  have hnx := heap_alloc_new w (.cells Z 32)
  have CA := Chg.alloc [] w (.cells Z 32)
  have hL1 := hL.chg CA (by simp)
  have hs1 := hsrc.chg CA (by simp)
  have hgs : (w.alloc (.cells Z 32)).heap.size = w.heap.size + 1 := by simp
  have hL0 := hL.size
  obtain ⟨n, hn⟩ : ∃ n, l.length = n := ⟨_, rfl⟩
  rw [hn] at hlc hl ⊢
  have HN := Lib.hid hn
  clear hZ hL hsrc hn
  go_enter Tryd.func39, Tryd.ntmps39
  go_wp2_with fail
  refine (sha_new _ hL1).mono ?_
  rintro r w2 ⟨b, rfl, hb, h0, C1⟩
  have D1 := CA.trans C1 (by simp)
  have hh2 := C1.block w.heap.size (by rw [hgs]; omega) (by simp)
  rw [hnx] at hh2
  have hs2 := hs1.chg C1 (by simp)
  have hL2 := hL1.chg C1 (by simp)
  rw [hgs] at hb
  clear hz hnx hs1 hL1 C1 CA hgs
  generalize w.alloc (.cells Z 32) = w1 at *
  have k1 := sha_write b ss0 ao c l w2 h0 hL2 (by omega) hs2 (fun a ha => by have := hlt a ha; omega) (by rw [HN.out]; exact hlc) (by rw [HN.out]; show 0 + n ≤ _; omega)
  rw [HN.out] at k1
  go_wp2_with fail
  refine k1.mono ?_
  clear k1
  rintro r w3 ⟨rfl, h3, C3⟩
  have D3 : Chg [] w w3 := D1.trans C3 (fun k hk => by simp at hk; subst hk; right; omega)
  have hbl : w.heap.size < w2.heap.size := by have := h0.lt; omega
  have hh3 := C3.block w.heap.size hbl (by simp; omega)
  rw [hh2] at hh3
  have hL3 := hL2.chg C3 (by simp; omega)
  clear D1 hh2 hs2 hL2 h0 C3
  have k1 := sha_sum b (ss0.eat l) w3 h3 hL3 (by rw [SS.eat_n, HN.out]; show 0 + n ≤ _; omega)
  go_wp2_with fail
  refine k1.mono ?_
  clear k1
  rintro r w4 ⟨rfl, C4⟩
  have D4 := D3.trans C4 (by simp)
  have hh4 := C4.block w.heap.size (lt_of_block hh3) (by simp)
  rw [hh3] at hh4
  have hd : (ss0.eat l).sum.hash = digest l := rfl
  rw [hd]
  obtain ⟨R, hR⟩ : ∃ R, hashC (digest l) = R := ⟨_, rfl⟩
  have hRs : R.size = 32 := by rw [← hR]; exact hashC_size _
  have hR1 : R.all (·.oneCell') = true := by rw [← hR]; exact hashC_one _
  have hV : hashV (digest l) = .agg R := by rw [hashV, hR]
  have hst := run_storeAt_row (P := Tryd.prog) w4 w.heap.size _ 32 Z R hh4 (by rw [hRs]; exact infoHash) (by rw [hs, hRs]) hR1
  have hh5 := setRow_heap w4 w.heap.size _ R _ _ hh4
  have C5 : Chg [] w (w4.setRow w.heap.size R) := D4.trans (Chg.setRow (S := [w.heap.size]) w4 w.heap.size R (.inl (by simp))) (by simp)
  have HST := Lib.hid hst
  have HRR := Lib.hid hR
  rw [hV]
  clear hst hR hR1 D3 C4 hh3 hh4 D4 hL3 h3 hd hV
  go_wp2_with (refine wpList_store_x _ rfl 32 (.tmp 2) (.tmp 9) rfl _ HST.out ?_)
  exact bodyPost_ret (v := .agg R) (results_cell_row rfl _ _ _ _ R _ _ rfl hh5 Tryd.underlying32 rfl (by rw [hRs]; exact infoHash)) rfl ⟨by rw [hashV, HRR.out], C5⟩
end Go.Proofs.YtfdhpjflkimihaaDoor
