/- Verify, walked. No conditions beyond those that each statement types. -/
import Derived.Test.YtfdhpjflkimihaaDoorBkJi
import Derived.Test.YtfdhpjflkimihaaDoorBkO
namespace Go.Proofs.YtfdhpjflkimihaaDoor
open Go.RowKit

theorem hash_guard (x y : Operand) (X Y : Array Value) (w : World) : (eqGuard .eql 32 x y (.agg X) (.agg Y)).run Tryd.prog w = .ok () w := by
  have h : Tryd.prog.eqGuardType Tryd.prog.depth 32 = false := by kernel_rfl
  have hp : (program).run Tryd.prog w = .ok Tryd.prog w := rfl
  simp [eqGuard, hp, h, Result.andThen]

set_option maxRecDepth 100000 in
set_option maxHeartbeats 4000000 in
theorem blk_verify (l : List UInt8) (f : Nat → UInt8) (ao : Option Addr) (c : Nat) (w : World) (hL : Laid w) (hsrc : Src w ao (bvs l)) (hlc : l.length ≤ c) (hl : l.length ≤ 1000000) (hlt : ∀ a, ao = some a → a.block < w.heap.size) :
    Calls Tryd.prog 25 #[.slice ao l.length c, hashV f] w fun e w' => e = .returned (.bool (sameHash (digest l) f)) ∧ Chg [] w w' := by
  have hq := fun w => run_eq_hash (digest l) f w
  rw [hashV, hashV] at hq
  rw [hashV]
  obtain ⟨R, hR⟩ : ∃ R, hashC f = R := ⟨_, rfl⟩
  obtain ⟨D, hD⟩ : ∃ D, hashC (digest l) = D := ⟨_, rfl⟩
  obtain ⟨B, hB⟩ : ∃ B, sameHash (digest l) f = B := ⟨_, rfl⟩
  rw [hR, hD, hB] at hq
  rw [hR, hB]
  go_enter Tryd.func25, Tryd.ntmps25
  go_upto_region 1 with (fail)
  have hx := heap_alloc_new w (.cells R 32)
  have C1 := Chg.alloc [] w (.cells R 32)
  have hRs : R.size = 32 := by rw [← hR]; exact hashC_size _
  have hDD : hashV (digest l) = .agg D := by rw [hashV, hD]
  have KS : ∀ w', Chg [] w w' → Calls Tryd.prog 39 #[.slice ao l.length c] w' fun e w2 => e = .returned (.agg D) ∧ Chg [] w' w2 := fun w' C => by
    have := sha_digest l ao c w' (hL.chg C (by simp)) (hsrc.chg C (by simp)) hlc hl (fun a ha => by have h1 := hlt a ha; have h2 := C.size; omega)
    rw [hDD] at this
    exact this
  obtain ⟨n, hn⟩ : ∃ n, l.length = n := ⟨_, rfl⟩
  rw [hn] at KS
  have HR := Lib.hid hRs
  clear hR hD hB hRs hDD hsrc hl hlc hlt hL
  rw [hn]
  generalize w.alloc (.cells R 32) = w1 at hx C1 ⊢
  obtain ⟨g, hg⟩ : ∃ g, w.heap.size = g := ⟨_, rfl⟩
  rw [hg] at hx ⊢
  refine wp_region_held_drew (S := fun w' => Chg [] w1 w') (by kernel_rfl) (Chg.drewN [] w1 1) (fun H0 => ?_)
  refine' wpAnyH_take (i := 0) (v := _) rfl (by kernel_rfl) (by kernel_rfl) (by kernel_rfl) (fun _ _ _ h => h) (Or.inl ⟨by rfl, ?hy1⟩) H0 ?rest1
  case hy1 =>
    intro w' hSw
    go_simp
    try with_reducible rfl
  (try simp only [Act.put, List.getElem_toArray, List.getElem_cons_zero, List.setIfInBounds_toArray, List.set_cons_zero, List.set_cons_succ])
  refine' wpAnyH_take (i := 2) (v := .agg R) rfl (by kernel_rfl) (by kernel_rfl) (by kernel_rfl) (fun _ _ _ h => h) (Or.inl ⟨by rfl, ?hy2⟩) H0 ?rest2
  case hy2 =>
    intro w' hSw
    have hld := run_load_hash _ _ _ _ _ ((hSw.block g (lt_of_block hx) (by simp)).trans hx) HR.out
    simp [execOp, Act.eval, hld, Result.andThen]
  (try simp only [Act.put, List.getElem_toArray, List.getElem_cons_succ, List.getElem_cons_zero, List.setIfInBounds_toArray, List.set_cons_zero, List.set_cons_succ])
  refine wpAnyH_ready (rs := [1]) (by kernel_rfl) (by simp) (AllReadyH.cons rfl (fun K hK => ?_) AllReadyH.nil)
  go_simp
  refine (KS _ (C1.trans H0 (by simp))).mono ?_
  rintro e wa ⟨rfl, A1⟩
  go_simp
  refine hK.out _ _ (H0.trans A1 (by simp)) (fun H1 => ?_)
  clear hK K
  (try simp only [Act.put, List.getElem_toArray, List.getElem_cons_succ, List.getElem_cons_zero, List.setIfInBounds_toArray, List.set_cons_zero, List.set_cons_succ])
  refine' wpAnyH_take (i := 3) (v := .bool B) rfl (by kernel_rfl) (by kernel_rfl) (by kernel_rfl) (fun _ _ _ h => h) (Or.inl ⟨by rfl, ?hy3⟩) H1 ?rest3
  case hy3 =>
    intro w' hSw
    have hqq := hq w'
    simp [execOp, Act.eval, hash_guard, hqq, Result.andThen]
  (try simp only [Act.put, List.getElem_toArray, List.getElem_cons_succ, List.getElem_cons_zero, List.setIfInBounds_toArray, List.set_cons_zero, List.set_cons_succ])
  refine' wpAnyH_take (i := 4) (v := _) rfl (by kernel_rfl) (by kernel_rfl) (by kernel_rfl) (fun _ _ _ h => h) (Or.inl ⟨by rfl, ?hy4⟩) H1 ?rest4
  case hy4 =>
    intro w' hSw
    go_simp
    try with_reducible rfl
  (try simp only [Act.put, List.getElem_toArray, List.getElem_cons_succ, List.getElem_cons_zero, List.setIfInBounds_toArray, List.set_cons_zero, List.set_cons_succ])
  refine wpAnyH_done (by kernel_rfl) ?_ _
  go_wp2_with fail
  go_ret
  exact ⟨rfl, C1.trans H1 (by simp)⟩
end Go.Proofs.YtfdhpjflkimihaaDoor
