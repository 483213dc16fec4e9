/- The reference's Same: of two lists that are one. No conditions beyond those that each statement types. -/
import Derived.Test.YtfdhpjflkimihaaDoorBkZc
namespace Go.Proofs.YtfdhpjflkimihaaDoor
open Go.RowKit

theorem run_neq_hash (f g : Nat → UInt8) (w : World) : (binOp .neq 32 (hashV f) (hashV g)).run Tryd.prog w = .ok (.bool (!sameHash f g)) w := by
  obtain ⟨i, hi⟩ := u8_info
  unfold hashV
  rw [run_neq_struct, run_equalIn_array w 9999 (hashC f) (hashC g) Tryd.underlying32 hi, u8_cells, run_eq_bytes f g w 9998 _ (fun j hj => List.mem_range.1 hj)]
  rfl
theorem hash_guardn (x y : Operand) (X Y : Array Value) (w : World) : (eqGuard .neq 32 x y (.agg X) (.agg Y)).run Tryd.prog w = .ok () w := by
  have h : Tryd.prog.eqGuardType Tryd.prog.depth 32 = false := by kernel_rfl
  have hp : (program).run Tryd.prog w = .ok Tryd.prog w := rfl
  simp [eqGuard, hp, h, Result.andThen]
set_option maxRecDepth 100000 in
set_option maxHeartbeats 4000000 in
theorem ref_same (L : List (Nat → UInt8)) (a1 a2 : Option Addr) (c1 c2 : Nat) (w : World) (h1 : w.ownsRow 0 32 32 (.slice a1 L.length c1) L.length (hvs L)) (h2 : w.ownsRow 0 32 32 (.slice a2 L.length c2) L.length (hvs L)) (hl : L.length ≤ 1000) :
    Calls Tryd.prog 24 #[.slice a1 L.length c1, .slice a2 L.length c2] w (Holds w) := by
  have HROW : Hid (∀ (i : Nat), i < L.length → ∃ g1 g2 f, a1 = some ⟨g1, 0, none⟩ ∧ a2 = some ⟨g2, 0, none⟩ ∧ ∀ w', Chg [] w w' → (Instr.loadAt 32 (.pointer (some ⟨g1, i * 32, none⟩))).run Tryd.prog w' = .ok (.agg (hashC f)) w' ∧ (Instr.loadAt 32 (.pointer (some ⟨g2, i * 32, none⟩))).run Tryd.prog w' = .ok (.agg (hashC f)) w') := Lib.hid (fun i hi => by
    obtain ⟨g1, e1⟩ := ownsRow_head h1 (by omega)
    obtain ⟨g2, e2⟩ := ownsRow_head h2 (by omega)
    obtain ⟨f, hf⟩ : ∃ f, L[i]? = some f := ⟨_, List.getElem?_eq_getElem hi⟩
    exact ⟨g1, g2, f, e1, e2, fun w' C => ⟨load_of_list (ownsRow_chg h1 C (by simp)) e1 hf, load_of_list (ownsRow_chg h2 C (by simp)) e2 hf⟩⟩)
  clear h1 h2
  generalize L.length = n at *
  go_enter Tryd.func24, Tryd.ntmps24
  go_wp2_with fail
  go_loopw [5] (fun v wr => ∃ i : Nat, v = .int .i64 (i : Int) ∧ i ≤ n ∧ Hid (Chg [] w wr)) (fun v _ => n - (intOf v).toNat)
  case atStart => exact ⟨0, rfl, Nat.zero_le _, Lib.hid (Chg.refl _ _)⟩
  case round =>
    obtain ⟨i, rfl, hi, HC⟩ := hrel
    by_cases hlt : i < n
    · have e1 : (i : Int) < n := Int.ofNat_lt.2 hlt
      have e0 : (0 : Int) ≤ i := Int.natCast_nonneg _
      obtain ⟨g1, g2, f, rfl, rfl, hld⟩ := HROW.out i hlt
      have HLD := Lib.hid hld
      have HQ : Hid (∀ w', (binOp .neq 32 (.agg (hashC f)) (.agg (hashC f))).run Tryd.prog w' = .ok (.bool false) w') := Lib.hid (fun w' => by
        have := run_neq_hash f f w'
        rw [self_same] at this
        exact this)
      clear hld
      go_upto_region 6 with (fail)
      refine wp_region_held_drew (S := fun w' => Chg [] wr w') (by kernel_rfl) (Chg.drewN _ wr 1) (fun H0 => ?_)
      refine' wpAnyH_take (i := 0) (v := _) rfl (by kernel_rfl) (by kernel_rfl) (by kernel_rfl) (fun _ _ _ h => h) (Or.inl ⟨by rfl, ?hya0⟩) H0 ?resta0
      case hya0 =>
        intro w' hSw
        have s1 := hSw
        go_simp
        try with_reducible rfl
      (try simp only [Act.put, List.getElem_toArray, List.getElem_cons_zero, List.setIfInBounds_toArray, List.set_cons_zero, List.set_cons_succ])
      refine' wpAnyH_take (i := 1) (v := _) rfl (by kernel_rfl) (by kernel_rfl) (by kernel_rfl) (fun _ _ _ h => h) (Or.inl ⟨by rfl, ?hya1⟩) H0 ?resta1
      case hya1 =>
        intro w' hSw
        have s1 := hSw
        go_simp
        try with_reducible rfl
      (try simp only [Act.put, List.getElem_toArray, List.getElem_cons_succ, List.getElem_cons_zero, List.setIfInBounds_toArray, List.set_cons_zero, List.set_cons_succ])
      refine' wpAnyH_take (i := 2) (v := _) rfl (by kernel_rfl) (by kernel_rfl) (by kernel_rfl) (fun _ _ _ h => h) (Or.inl ⟨by rfl, ?hya2⟩) H0 ?resta2
      case hya2 =>
        intro w' hSw
        have s1 := hSw
        go_simp
        try with_reducible rfl
      (try simp only [Act.put, List.getElem_toArray, List.getElem_cons_succ, List.getElem_cons_zero, List.setIfInBounds_toArray, List.set_cons_zero, List.set_cons_succ])
      refine' wpAnyH_take (i := 3) (v := .agg (hashC f)) rfl (by kernel_rfl) (by kernel_rfl) (by kernel_rfl) (fun _ _ _ h => h) (Or.inl ⟨by rfl, ?hya3⟩) H0 ?resta3
      case hya3 =>
        intro w' hSw
        have s1 := hSw
        have hl := HLD.out w' (HC.out.trans s1 (by simp))
        simp [execOp, Act.eval, hl.1, Result.andThen]
      (try simp only [Act.put, List.getElem_toArray, List.getElem_cons_succ, List.getElem_cons_zero, List.setIfInBounds_toArray, List.set_cons_zero, List.set_cons_succ])
      refine' wpAnyH_take (i := 4) (v := _) rfl (by kernel_rfl) (by kernel_rfl) (by kernel_rfl) (fun _ _ _ h => h) (Or.inl ⟨by rfl, ?hya4⟩) H0 ?resta4
      case hya4 =>
        intro w' hSw
        have s1 := hSw
        go_simp
        try with_reducible rfl
      (try simp only [Act.put, List.getElem_toArray, List.getElem_cons_succ, List.getElem_cons_zero, List.setIfInBounds_toArray, List.set_cons_zero, List.set_cons_succ])
      refine' wpAnyH_take (i := 5) (v := _) rfl (by kernel_rfl) (by kernel_rfl) (by kernel_rfl) (fun _ _ _ h => h) (Or.inl ⟨by rfl, ?hya5⟩) H0 ?resta5
      case hya5 =>
        intro w' hSw
        have s1 := hSw
        go_simp
        try with_reducible rfl
      (try simp only [Act.put, List.getElem_toArray, List.getElem_cons_succ, List.getElem_cons_zero, List.setIfInBounds_toArray, List.set_cons_zero, List.set_cons_succ])
      refine' wpAnyH_take (i := 6) (v := _) rfl (by kernel_rfl) (by kernel_rfl) (by kernel_rfl) (fun _ _ _ h => h) (Or.inl ⟨by rfl, ?hya6⟩) H0 ?resta6
      case hya6 =>
        intro w' hSw
        have s1 := hSw
        go_simp
        try with_reducible rfl
      (try simp only [Act.put, List.getElem_toArray, List.getElem_cons_succ, List.getElem_cons_zero, List.setIfInBounds_toArray, List.set_cons_zero, List.set_cons_succ])
      refine' wpAnyH_take (i := 7) (v := .agg (hashC f)) rfl (by kernel_rfl) (by kernel_rfl) (by kernel_rfl) (fun _ _ _ h => h) (Or.inl ⟨by rfl, ?hya7⟩) H0 ?resta7
      case hya7 =>
        intro w' hSw
        have s1 := hSw
        have hl := HLD.out w' (HC.out.trans s1 (by simp))
        simp [execOp, Act.eval, hl.2, Result.andThen]
      (try simp only [Act.put, List.getElem_toArray, List.getElem_cons_succ, List.getElem_cons_zero, List.setIfInBounds_toArray, List.set_cons_zero, List.set_cons_succ])
      refine' wpAnyH_take (i := 8) (v := .bool false) rfl (by kernel_rfl) (by kernel_rfl) (by kernel_rfl) (fun _ _ _ h => h) (Or.inl ⟨by rfl, ?hya8⟩) H0 ?resta8
      case hya8 =>
        intro w' hSw
        have s1 := hSw
        have hqq := HQ.out w'
        simp [execOp, Act.eval, hash_guardn, hqq, Result.andThen]
      (try simp only [Act.put, List.getElem_toArray, List.getElem_cons_succ, List.getElem_cons_zero, List.setIfInBounds_toArray, List.set_cons_zero, List.set_cons_succ])
      refine wpAnyH_done (by kernel_rfl) ?_ _
      have HC6 := Lib.hid (HC.out.trans H0 (by simp))
      clear H0
      go_wp2_with fail
      go_roundw
      case rel => exact ⟨i + 1, by go_num, hlt, HC6⟩
      case measure => simp [intOf] <;> omega
    · have e1 : ¬ (i : Int) < n := fun h => hlt (Int.ofNat_lt.1 h)
      go_wp2_with fail
      go_ret
      exact ⟨rfl, HC.out⟩
end Go.Proofs.YtfdhpjflkimihaaDoor
