/- What Copy of the package link does to memory. No conditions beyond those that each statement types. -/
import Derived.Test.YtehhnoanbdjgbaaLinkB
namespace Go.Proofs.Ytehhnoanbdjgbaa
open Go.RowKit

/-- What Copy leaves: an equal link in new memory; the first one as it was. -/
def Copied (w : World) (L : LinkS) (r : Ending) (w' : World) : Prop :=
  ∃ b' F', r = .returned (.pointer (some ⟨b', 0, none⟩)) ∧ LinkAt w' b' L F' ∧ Step [] F' w w'

theorem link_copy_nil (w : World) :
    Calls Try.prog 18 #[.pointer none] w fun r w' => r = .returned (.pointer none) ∧ w = w' := by
  go_enter Try.func18, Try.ntmps18
  go_wp2_with fail
  refine (link_is_nil _).mono ?_
  rintro r w' ⟨rfl, rfl⟩
  go_wp2_with fail
  go_ret
  exact ⟨rfl, rfl⟩

set_option maxHeartbeats 1000000 in
theorem link_copy (b : Nat) (L : LinkS) (F : List Nat) (w : World) (hL : LinkAt w b L F) (hl1 : L.s1.length ≤ 262144) (hl2 : L.s2.length ≤ 262144) :
    Calls Try.prog 18 #[.pointer (some ⟨b, 0, none⟩)] w (Copied w L) := by
  obtain ⟨v0, v1, ⟨hb, ho0, ho1⟩, hd, hF⟩ := hL
  clear hF
  obtain ⟨s0, s1, e⟩ := L
  dsimp only at *
  obtain ⟨a0, k0, rfl, hk0, hn0⟩ := ownsRow_slice ho0
  obtain ⟨a1, k1, rfl, hk1, hn1⟩ := ownsRow_slice ho1
  have hbs : b < w.heap.size := lt_of_block hb
  have c0 : w.cell? ⟨b, 0, none⟩ = some (.slice a0 s0.length k0) := by rw [cell_of_row w b 0 _ _ _ hb]; rfl
  have c1 : w.cell? ⟨b, 1, none⟩ = some (.slice a1 s1.length k1) := by rw [cell_of_row w b 1 _ _ _ hb]; rfl
  have c2 : w.cell? ⟨b, 2, none⟩ = some (.int .i64 e) := by rw [cell_of_row w b 2 _ _ _ hb]; rfl
  have c3 : w.cell? ⟨b, 3, none⟩ = some (.bool true) := by rw [cell_of_row w b 3 _ _ _ hb]; rfl
  obtain ⟨i0, hi, hz0, hz1, hz2⟩ := info_parts Try.info5
  have hs0 := ownsRow_src ho0
  have hs1 := ownsRow_src ho1
  go_enter Try.func18, Try.ntmps18
  go_wp2_with fail
  refine (link_is b true _ (by go_simp)).mono ?_
  rintro r w' ⟨rfl, rfl⟩
  go_wp2_with fail
  have ix0 : ∀ w' : World, (Instr.index 46 (.agg #[.slice a0 s0.length k0, .slice a1 s1.length k1]) (.int .i64 0)).run Try.prog w' = .ok (.slice a0 s0.length k0) w' := fun _ => by kernel_rfl
  have ix1 : ∀ w' : World, (Instr.index 46 (.agg #[.slice a0 s0.length k0, .slice a1 s1.length k1]) (.int .i64 1)).run Try.prog w' = .ok (.slice a1 s1.length k1) w' := fun _ => by kernel_rfl
  have C0 : Chg [] w (w.alloc (Obj.cells #[.slice a0 s0.length k0, .slice a1 s1.length k1, .int .i64 e, .bool true] 48)) := Chg.alloc _ _ _
  refine wp_loop_rounds 3 ?_
  rw [rounds_succ]
  go_wp2_with (at_builtin; refine wpList_append_x _ rfl _ _ 27 rfl 5 i0 _ 1 1 Try.underlying27 hi hz0 hz1 hz2 rfl (by decide) (.slice (some ⟨w.heap.size + 1, 0, none⟩) 0 0) 0 [] rfl (own_empty (by simp)) a0 s0.length k0 (bvs s0) rfl (by simp [bvs_length]) ?_ (fun h => (hn0 h).2) (bvs_one _) (by unfold maxLen; omega) (by omega) ?_)
  · exact hs0.chg (C0.trans (Chg.alloc [] _ _) (by simp)) (by simp)
  intro ao1 k2 w1 hown1 hgr1 hblk1
  try simp only [Nat.zero_add, List.nil_append] at hown1 hblk1
  have hc1 : Chg [] (w.alloc (Obj.cells #[.slice a0 s0.length k0, .slice a1 s1.length k1, .int .i64 e, .bool true] 48)) w1 := (Chg.alloc [] _ _).trans (Chg.grown hgr1 (S := [w.heap.size + 1]) (by intro k hk; left; have := Option.some.inj hk; simp at this; simp [this])) (by simp)
  have hnb := heap_alloc_new w (Obj.cells #[.slice a0 s0.length k0, .slice a1 s1.length k1, .int .i64 e, .bool true] 48)
  have hb1 := (hc1.block w.heap.size (by simp) (by simp)).trans hnb
  have hw1 := hc1.size
  simp only [World.size_alloc] at hw1
  have d0 : w1.cell? ⟨w.heap.size, 0, none⟩ = some (.slice a0 s0.length k0) := by rw [cell_of_row w1 _ 0 _ _ _ hb1]; rfl
  have f0 := frozen_of_row w1 w.heap.size 0 _ _ hb1
  have hn1' : ∀ k, (Value.slice ao1 s0.length k2).ownBlock = some k → w.heap.size + 1 ≤ k := by
    intro k hk
    rcases hblk1 with h1 | h1 <;> rw [h1] at hk <;> have := Option.some.inj hk <;> (try simp at this) <;> omega
  have hb2 := heap_setCell_same w1 w.heap.size 0 _ _ (Value.slice ao1 s0.length k2) hb1
  have d1 : (w1.setCell ⟨w.heap.size, 0, none⟩ (Value.slice ao1 s0.length k2)).cell? ⟨w.heap.size, 1, none⟩ = some (.slice a1 s1.length k1) := by rw [cell_of_row _ _ 1 _ _ _ hb2]; rfl
  have f1 := frozen_of_row w1 w.heap.size 1 _ _ hb1
  have C1 : Chg [] w (w1.setCell ⟨w.heap.size, 0, none⟩ (Value.slice ao1 s0.length k2)) := (C0.trans hc1 (by simp)).trans (Chg.setCell (S := [w.heap.size]) _ _ _ (.inl (by simp))) (by simp)
  go_wp2_with fail
  rw [rounds_succ]
  go_wp2_with (at_builtin; refine wpList_append_x _ rfl _ _ 27 rfl 5 i0 _ 1 1 Try.underlying27 hi hz0 hz1 hz2 rfl (by decide) (.slice (some ⟨w1.heap.size, 0, none⟩) 0 0) 0 [] rfl (own_empty (by simp)) a1 s1.length k1 (bvs s1) rfl (by simp [bvs_length]) ?_ (fun h => (hn1 h).2) (bvs_one _) (by unfold maxLen; omega) (by omega) ?_)
  · exact hs1.chg (C1.trans (Chg.alloc [] _ _) (by simp)) (by simp)
  intro ao2 k3 w2 hown2 hgr2 hblk2
  have hc2 : Chg [] (w1.setCell ⟨w.heap.size, 0, none⟩ (Value.slice ao1 s0.length k2)) w2 := (Chg.alloc [] _ _).trans (Chg.grown hgr2 (S := [w1.heap.size]) (by intro k hk; left; have := Option.some.inj hk; simp at this; simp [this])) (by simp)
  have hs12 := hc2.size
  simp only [World.size_setCell] at hs12
  have hb3 := (hc2.block w.heap.size (by simp; omega) (by simp)).trans hb2
  have e1 : w2.cell? ⟨w.heap.size, 1, none⟩ = some (.slice a1 s1.length k1) := by rw [cell_of_row _ _ 1 _ _ _ hb3]; rfl
  have g1 := frozen_of_row w2 w.heap.size 1 _ _ hb3
  have hb4 := heap_setCell_same w2 w.heap.size 1 _ _ (Value.slice ao2 s1.length k3) hb3
  have hn2' : ∀ k, (Value.slice ao2 s1.length k3).ownBlock = some k → w1.heap.size ≤ k := by
    intro k hk
    rcases hblk2 with h1 | h1 <;> rw [h1] at hk <;> have := Option.some.inj hk <;> (try simp at this) <;> omega
  have l1 := ownsRow_lt hown1
  have l2 := ownsRow_lt hown2
  have m0 := ownsRow_ne hown1 hb1 (by decide)
  have m1 := ownsRow_ne hown2 hb3 (by decide)
  have Q1 : LinkAt (w2.setCell ⟨w.heap.size, 1, none⟩ (Value.slice ao2 s1.length k3)) w.heap.size ⟨s0, s1, e⟩ (w.heap.size :: ((Value.slice ao1 s0.length k2).ownBlock.toList ++ (Value.slice ao2 s1.length k3).ownBlock.toList)) := by
    refine ⟨_, _, ⟨by simpa using hb4, ownsRow_chg (ownsRow_chg (ownsRow_chg hown1 (Chg.setCell (S := [w.heap.size]) _ _ _ (.inl (by simp))) ?_) hc2 (by simp)) (Chg.setCell (S := [w.heap.size]) _ _ _ (.inl (by simp))) ?_, ownsRow_chg hown2 (Chg.setCell (S := [w.heap.size]) _ _ _ (.inl (by simp))) ?_⟩, ?_, rfl⟩
    · intro k hk hm; simp at hm; subst hm; exact m0 hk
    · intro k hk hm; simp at hm; subst hm; exact m0 hk
    · intro k hk hm; simp at hm; subst hm; exact m1 hk
    · cases hv : (Value.slice ao1 s0.length k2).ownBlock with
      | none => exact .inl rfl
      | some k =>
        right
        intro hk
        have := hn2' k hk.symm
        have := l1 k hv
        omega
  have Q2 : Step [] (w.heap.size :: ((Value.slice ao1 s0.length k2).ownBlock.toList ++ (Value.slice ao2 s1.length k3).ownBlock.toList)) w (w2.setCell ⟨w.heap.size, 1, none⟩ (Value.slice ao2 s1.length k3)) := by
    refine ⟨(C1.trans hc2 (by simp)).trans (Chg.setCell (S := [w.heap.size]) _ _ _ (.inl (by simp))) (by simp), ?_⟩
    intro k hk
    simp only [List.mem_cons, List.mem_append, Option.mem_toList] at hk
    simp only [World.size_setCell]
    rcases hk with rfl | hk | hk
    · exact ⟨.inr (Nat.le_refl _), by omega⟩
    · have := hn1' k hk; have := l1 k hk; exact ⟨.inr (by omega), by omega⟩
    · have := hn2' k hk; have := l2 k hk; exact ⟨.inr (by omega), by omega⟩
  go_wp2_with fail
  rw [rounds_succ]
  go_wp2_with fail
  go_ret
  exact ⟨_, _, rfl, Q1, Q2⟩
end Go.Proofs.Ytehhnoanbdjgbaa
