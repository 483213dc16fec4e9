/- What Deliver and Copy of the package link do to memory. No conditions beyond those that each statement types. -/
import Derived.Test.YtehhnoanbdjgbaaLink
namespace Go.Proofs.Ytehhnoanbdjgbaa
open Go.RowKit

/-- What Deliver leaves: a slice of new memory with the first bytes, and the rest in flight. -/
def Delivered (w : World) (b : Nat) (F : List Nat) (d : List UInt8) (L' : LinkS) (r : Ending) (w' : World) : Prop :=
  ∃ v F', r = .returned (.tuple #[v, .int .i64 0]) ∧ w'.ownsRow 0 5 1 v d.length (bvs d) ∧ LinkAt w' b L' F' ∧ Step F F' w w' ∧
      (∀ k, v.ownBlock = some k → w.heap.size ≤ k ∧ k ∉ F')

set_option maxHeartbeats 1000000 in
theorem link_deliver1 (b : Nat) (L : LinkS) (F : List Nat) (n : Int) (hn : 0 ≤ n) (hnn : n ≤ 9223372036854775807) (w : World) (hL : LinkAt w b L F) (hl1 : L.s1.length ≤ 262144) :
    Calls Try.prog 11 #[.pointer (some ⟨b, 0, none⟩), .int .i64 1, .int .i64 n] w (Delivered w b F (L.s1.take n.toNat) { L with s1 := L.s1.drop n.toNat }) := by
  obtain ⟨v0, v1, ⟨hb, ho0, ho1⟩, hd, hF⟩ := hL
  obtain ⟨s0, s1, e⟩ := L
  dsimp only at *
  obtain ⟨a0, k0, rfl, hk0, hn0⟩ := ownsRow_slice ho0
  have HF := Lib.hid hF
  clear hF
  have hbs : b < w.heap.size := lt_of_block hb
  have c0 : w.cell? ⟨b, 0, none⟩ = some (.slice a0 s0.length k0) := by rw [cell_of_row w b 0 _ _ _ hb]; rfl
  have c3 : w.cell? ⟨b, 3, none⟩ = some (.bool true) := by rw [cell_of_row w b 3 _ _ _ hb]; rfl
  have hne := ownsRow_ne ho0 hb (by decide)
  obtain ⟨i0, hi, hz0, hz1, hz2⟩ := info_parts Try.info5
  obtain ⟨N, rfl⟩ := Int.eq_ofNat_of_zero_le hn
  rw [Int.toNat_natCast]
  have hsrc := ownsRow_src ho0
  go_enter Try.func11, Try.ntmps11
  go_wp2_with fail
  refine (link_is b true _ (by go_simp)).mono ?_
  rintro r w' ⟨rfl, rfl⟩
  go_wp2_with fail
  refine (link_end 1 _).mono ?_
  rintro r w' ⟨rfl, rfl⟩
  go_wp2_with (at_builtin; refine wpList_append_x _ rfl _ _ 27 rfl 5 i0 _ 1 1 Try.underlying27 hi hz0 hz1 hz2 rfl (by decide) _ 0 [] rfl (World.ownsRow_made w #[] 0 (Nat.zero_le _) (Nat.zero_le _) rfl) a0 _ _ (bvs (s0.take N)) rfl ?_ ?_ ?_ ?_ ?_ ?_ ?_)
  all_goals first | (simp [bvs_length]; omega) | (rw [bvs_take]; exact (hsrc.take N).chg (Chg.alloc [] _ _) (by simp)) | exact bvs_one _ | (unfold maxLen; omega) | omega | (intro h; have := hn0 h; simp_all; done) | (intro h; have := hn0 h; omega) | skip
  · intro ao1 c1 w1 hown1 hgr1 hblk1
    have hnew1 : ∀ k, (Value.slice ao1 s0.length c1).ownBlock = some k → w.heap.size ≤ k := by
      intro k hk
      rcases hblk1 with h1 | h1 <;> rw [h1] at hk
      · have := Option.some.inj hk; simp at this; omega
      · have := Option.some.inj hk; omega
    have hc1 : Chg [] w w1 := (Chg.alloc [] _ _).trans (Chg.grown hgr1 (S := [w.heap.size]) (by intro k hk; left; have := Option.some.inj hk; simp at this; simp [this])) (by simp)
    have hb1 := (hc1.block b hbs (by simp)).trans hb
    have d0 : w1.cell? ⟨b, 0, none⟩ = some (.slice a0 s0.length k0) := by rw [cell_of_row w1 b 0 _ _ _ hb1]; rfl
    have df := frozen_of_row w1 b 0 _ _ hb1
    have hbs1 := lt_of_block hb1
    have hsz1 := hc1.size
    have S8 : Src (w1.alloc (Obj.cells #[] 5)).drew (if k0 = s0.length then a0 else Option.map (fun x => x.add s0.length) a0) (bvs (s0.drop N)) := by
      have h2 : Src (w1.alloc (Obj.cells #[] 5)).drew (Option.map (fun x => x.add N) a0) (bvs (s0.drop N)) := by
        rw [bvs_drop]
        exact (hsrc.drop N).chg ((hc1.trans (Chg.alloc [] _ _) (by simp)).trans (Chg.drewN [] _ 1) (by simp)) (by simp)
      by_cases hN : s0.length ≤ N
      · rw [List.drop_of_length_le hN]; exact Src.empty _ _
      · have e1 : s0.length = N := by omega
        rw [if_neg (by omega), e1]; exact h2
    have C8 : (if k0 = s0.length then a0 else Option.map (fun x => x.add s0.length) a0) = none → k0 - s0.length = 0 := by
      intro h
      by_cases hk : k0 = s0.length
      · omega
      · rw [if_neg hk] at h
        have := hn0 (by simpa using h)
        omega
    have hw0 : IntKind.i64.wrap 0 = 0 := by decide
    go_wp2_with fail
    go_region_law (refine step_append_x _ rfl _ _ 27 rfl 5 i0 _ 1 1 Try.underlying27 hi hz0 hz1 hz2 rfl (by decide) (.slice (some ⟨w1.heap.size, 0, none⟩) 0 0) 0 [] rfl (World.ownsRow_made w1 #[] 0 (Nat.zero_le _) (Nat.zero_le _) rfl) _ 0 _ (bvs (s0.drop N)) rfl (by simp [bvs_length]; try omega) S8 C8 (bvs_one _) (by unfold maxLen; omega) (by omega) ?_; intro ao2 c2 w2 hown2 hgr2 hblk2; have hc2 : Chg [] w1 w2 := ((Chg.alloc [] _ _).trans (Chg.drewN [] _ 1) (by simp)).trans (Chg.grown hgr2 (S := [w1.heap.size]) (by intro k hk; left; have := Option.some.inj hk; simp at this; simp [this])) (by simp); have hb2 := (hc2.block b hbs1 (by simp)).trans hb1; have d2 : w2.cell? ⟨b, 0, none⟩ = some (.slice a0 s0.length k0) := (by rw [cell_of_row w2 b 0 _ _ _ hb2]; rfl); have df2 := frozen_of_row w2 b 0 _ _ hb2)
    go_wp2_with fail
    all_goals go_ret2
    all_goals
     have hb12 := hc1.trans hc2 (by simp)
     have hnew2 : ∀ k, (Value.slice ao2 (0 + 0) c2).ownBlock = some k → w1.heap.size ≤ k := by
       intro k hk
       rcases hblk2 with h1 | h1 <;> rw [h1] at hk
       · have := Option.some.inj hk; simp at this; omega
       · have := Option.some.inj hk; simp [World.drew] at this; omega
     have el : (s0.drop N).length = 0 + 0 := by simp; try omega
     have hown2' : w2.ownsRow 0 5 1 (Value.slice ao2 (0 + 0) c2) (s0.drop N).length (bvs (s0.drop N)) := by rw [el]; simpa using hown2
     obtain ⟨q1, q2⟩ := LinkAt.put1 (L := ⟨s0, s1, e⟩) (s0.drop N) ⟨hb, ho0, ho1⟩ hd (hb12.mono (by simp)) hown2' (fun k hk => .inr (by have := hnew2 k hk; omega))
     simp only [Nat.zero_add] at q1 q2 hnew2
     rw [← HF.out] at q2
     have el1 : (s0.take N).length = 0 + s0.length := by simp; try omega
     have hown1' : w1.ownsRow 0 5 1 (Value.slice ao1 s0.length c1) (s0.take N).length (bvs (s0.take N)) := by rw [el1]; simpa using hown1
     have hl1' := ownsRow_lt hown1'
     have hl1'' := ownsRow_lt ho1
     refine ⟨_, _, rfl, ownsRow_chg (ownsRow_chg hown1' hc2 (by simp)) (Chg.setCell (S := [b]) _ _ _ (.inl (by simp))) ?_, q1, q2, ?_⟩
     · intro k hk hm
       have := hnew1 k hk
       simp at hm
       omega
     · intro k hk
       refine ⟨hnew1 k hk, fun hm => ?_⟩
       have h1 := hnew1 k hk
       have h2 := hl1' k hk
       simp only [List.mem_cons, List.mem_append, Option.mem_toList] at hm
       rcases hm with rfl | hm | hm
       · omega
       · have := hnew2 k hm; omega
       · have := hl1'' k hm; omega
  · intro ao1 c1 w1 hown1 hgr1 hblk1
    have hnew1 : ∀ k, (Value.slice ao1 N c1).ownBlock = some k → w.heap.size ≤ k := by
      intro k hk
      rcases hblk1 with h1 | h1 <;> rw [h1] at hk
      · have := Option.some.inj hk; simp at this; omega
      · have := Option.some.inj hk; omega
    have hc1 : Chg [] w w1 := (Chg.alloc [] _ _).trans (Chg.grown hgr1 (S := [w.heap.size]) (by intro k hk; left; have := Option.some.inj hk; simp at this; simp [this])) (by simp)
    have hb1 := (hc1.block b hbs (by simp)).trans hb
    have d0 : w1.cell? ⟨b, 0, none⟩ = some (.slice a0 s0.length k0) := by rw [cell_of_row w1 b 0 _ _ _ hb1]; rfl
    have df := frozen_of_row w1 b 0 _ _ hb1
    have hbs1 := lt_of_block hb1
    have hsz1 := hc1.size
    have S8 : Src (w1.alloc (Obj.cells #[] 5)).drew (if k0 = N then a0 else Option.map (fun x => x.add N) a0) (bvs (s0.drop N)) := by
      have h2 : Src (w1.alloc (Obj.cells #[] 5)).drew (Option.map (fun x => x.add N) a0) (bvs (s0.drop N)) := by
        rw [bvs_drop]
        exact (hsrc.drop N).chg ((hc1.trans (Chg.alloc [] _ _) (by simp)).trans (Chg.drewN [] _ 1) (by simp)) (by simp)
      by_cases hN : s0.length ≤ N
      · rw [List.drop_of_length_le hN]; exact Src.empty _ _
      · have e1 : N = N := by omega
        rw [if_neg (by omega), e1]; exact h2
    have C8 : (if k0 = N then a0 else Option.map (fun x => x.add N) a0) = none → k0 - N = 0 := by
      intro h
      by_cases hk : k0 = N
      · omega
      · rw [if_neg hk] at h
        have := hn0 (by simpa using h)
        omega
    have hw0 : IntKind.i64.wrap 0 = 0 := by decide
    have hNle : (N : Int) ≤ (s0.length : Int) := by omega
    go_wp2_with fail
    go_region_law (refine step_append_x _ rfl _ _ 27 rfl 5 i0 _ 1 1 Try.underlying27 hi hz0 hz1 hz2 rfl (by decide) (.slice (some ⟨w1.heap.size, 0, none⟩) 0 0) 0 [] rfl (World.ownsRow_made w1 #[] 0 (Nat.zero_le _) (Nat.zero_le _) rfl) _ (s0.length - N) _ (bvs (s0.drop N)) rfl (by simp [bvs_length]; try omega) S8 C8 (bvs_one _) (by unfold maxLen; omega) (by omega) ?_; intro ao2 c2 w2 hown2 hgr2 hblk2; have hc2 : Chg [] w1 w2 := ((Chg.alloc [] _ _).trans (Chg.drewN [] _ 1) (by simp)).trans (Chg.grown hgr2 (S := [w1.heap.size]) (by intro k hk; left; have := Option.some.inj hk; simp at this; simp [this])) (by simp); have hb2 := (hc2.block b hbs1 (by simp)).trans hb1; have d2 : w2.cell? ⟨b, 0, none⟩ = some (.slice a0 s0.length k0) := (by rw [cell_of_row w2 b 0 _ _ _ hb2]; rfl); have df2 := frozen_of_row w2 b 0 _ _ hb2)
    go_wp2_with fail
    all_goals go_ret2
    all_goals
     have hb12 := hc1.trans hc2 (by simp)
     have hnew2 : ∀ k, (Value.slice ao2 (0 + (s0.length - N)) c2).ownBlock = some k → w1.heap.size ≤ k := by
       intro k hk
       rcases hblk2 with h1 | h1 <;> rw [h1] at hk
       · have := Option.some.inj hk; simp at this; omega
       · have := Option.some.inj hk; simp [World.drew] at this; omega
     have el : (s0.drop N).length = 0 + (s0.length - N) := by simp; try omega
     have hown2' : w2.ownsRow 0 5 1 (Value.slice ao2 (0 + (s0.length - N)) c2) (s0.drop N).length (bvs (s0.drop N)) := by rw [el]; simpa using hown2
     obtain ⟨q1, q2⟩ := LinkAt.put1 (L := ⟨s0, s1, e⟩) (s0.drop N) ⟨hb, ho0, ho1⟩ hd (hb12.mono (by simp)) hown2' (fun k hk => .inr (by have := hnew2 k hk; omega))
     simp only [Nat.zero_add] at q1 q2 hnew2
     rw [← HF.out] at q2
     have el1 : (s0.take N).length = 0 + N := by simp; try omega
     have hown1' : w1.ownsRow 0 5 1 (Value.slice ao1 N c1) (s0.take N).length (bvs (s0.take N)) := by rw [el1]; simpa using hown1
     have hl1' := ownsRow_lt hown1'
     have hl1'' := ownsRow_lt ho1
     refine ⟨_, _, rfl, ownsRow_chg (ownsRow_chg hown1' hc2 (by simp)) (Chg.setCell (S := [b]) _ _ _ (.inl (by simp))) ?_, q1, q2, ?_⟩
     · intro k hk hm
       have := hnew1 k hk
       simp at hm
       omega
     · intro k hk
       refine ⟨hnew1 k hk, fun hm => ?_⟩
       have h1 := hnew1 k hk
       have h2 := hl1' k hk
       simp only [List.mem_cons, List.mem_append, Option.mem_toList] at hm
       rcases hm with rfl | hm | hm
       · omega
       · have := hnew2 k hm; omega
       · have := hl1'' k hm; omega

set_option maxHeartbeats 1000000 in
theorem link_deliver2 (b : Nat) (L : LinkS) (F : List Nat) (n : Int) (hn : 0 ≤ n) (hnn : n ≤ 9223372036854775807) (w : World) (hL : LinkAt w b L F) (hl1 : L.s2.length ≤ 262144) :
    Calls Try.prog 11 #[.pointer (some ⟨b, 0, none⟩), .int .i64 2, .int .i64 n] w (Delivered w b F (L.s2.take n.toNat) { L with s2 := L.s2.drop n.toNat }) := by
  obtain ⟨v0, v1, ⟨hb, ho0, ho1⟩, hd, hF⟩ := hL
  obtain ⟨s1, s0, e⟩ := L
  dsimp only at *
  obtain ⟨a0, k0, rfl, hk0, hn0⟩ := ownsRow_slice ho1
  have HF := Lib.hid hF
  clear hF
  have hbs : b < w.heap.size := lt_of_block hb
  have c0 : w.cell? ⟨b, 1, none⟩ = some (.slice a0 s0.length k0) := by rw [cell_of_row w b 1 _ _ _ hb]; rfl
  have c3 : w.cell? ⟨b, 3, none⟩ = some (.bool true) := by rw [cell_of_row w b 3 _ _ _ hb]; rfl
  have hne := ownsRow_ne ho1 hb (by decide)
  obtain ⟨i0, hi, hz0, hz1, hz2⟩ := info_parts Try.info5
  obtain ⟨N, rfl⟩ := Int.eq_ofNat_of_zero_le hn
  rw [Int.toNat_natCast]
  have hsrc := ownsRow_src ho1
  go_enter Try.func11, Try.ntmps11
  go_wp2_with fail
  refine (link_is b true _ (by go_simp)).mono ?_
  rintro r w' ⟨rfl, rfl⟩
  go_wp2_with fail
  refine (link_end 2 _).mono ?_
  rintro r w' ⟨rfl, rfl⟩
  go_wp2_with (at_builtin; refine wpList_append_x _ rfl _ _ 27 rfl 5 i0 _ 1 1 Try.underlying27 hi hz0 hz1 hz2 rfl (by decide) _ 0 [] rfl (World.ownsRow_made w #[] 0 (Nat.zero_le _) (Nat.zero_le _) rfl) a0 _ _ (bvs (s0.take N)) rfl ?_ ?_ ?_ ?_ ?_ ?_ ?_)
  all_goals first | (simp [bvs_length]; omega) | (rw [bvs_take]; exact (hsrc.take N).chg (Chg.alloc [] _ _) (by simp)) | exact bvs_one _ | (unfold maxLen; omega) | omega | (intro h; have := hn0 h; simp_all; done) | (intro h; have := hn0 h; omega) | skip
  · intro ao1 c1 w1 hown1 hgr1 hblk1
    have hnew1 : ∀ k, (Value.slice ao1 s0.length c1).ownBlock = some k → w.heap.size ≤ k := by
      intro k hk
      rcases hblk1 with h1 | h1 <;> rw [h1] at hk
      · have := Option.some.inj hk; simp at this; omega
      · have := Option.some.inj hk; omega
    have hc1 : Chg [] w w1 := (Chg.alloc [] _ _).trans (Chg.grown hgr1 (S := [w.heap.size]) (by intro k hk; left; have := Option.some.inj hk; simp at this; simp [this])) (by simp)
    have hb1 := (hc1.block b hbs (by simp)).trans hb
    have d0 : w1.cell? ⟨b, 1, none⟩ = some (.slice a0 s0.length k0) := by rw [cell_of_row w1 b 1 _ _ _ hb1]; rfl
    have df := frozen_of_row w1 b 1 _ _ hb1
    have hbs1 := lt_of_block hb1
    have hsz1 := hc1.size
    have S8 : Src (w1.alloc (Obj.cells #[] 5)).drew (if k0 = s0.length then a0 else Option.map (fun x => x.add s0.length) a0) (bvs (s0.drop N)) := by
      have h2 : Src (w1.alloc (Obj.cells #[] 5)).drew (Option.map (fun x => x.add N) a0) (bvs (s0.drop N)) := by
        rw [bvs_drop]
        exact (hsrc.drop N).chg ((hc1.trans (Chg.alloc [] _ _) (by simp)).trans (Chg.drewN [] _ 1) (by simp)) (by simp)
      by_cases hN : s0.length ≤ N
      · rw [List.drop_of_length_le hN]; exact Src.empty _ _
      · have e1 : s0.length = N := by omega
        rw [if_neg (by omega), e1]; exact h2
    have C8 : (if k0 = s0.length then a0 else Option.map (fun x => x.add s0.length) a0) = none → k0 - s0.length = 0 := by
      intro h
      by_cases hk : k0 = s0.length
      · omega
      · rw [if_neg hk] at h
        have := hn0 (by simpa using h)
        omega
    have hw0 : IntKind.i64.wrap 1 = 1 := by decide
    go_wp2_with fail
    go_region_law (refine step_append_x _ rfl _ _ 27 rfl 5 i0 _ 1 1 Try.underlying27 hi hz0 hz1 hz2 rfl (by decide) (.slice (some ⟨w1.heap.size, 0, none⟩) 0 0) 0 [] rfl (World.ownsRow_made w1 #[] 0 (Nat.zero_le _) (Nat.zero_le _) rfl) _ 0 _ (bvs (s0.drop N)) rfl (by simp [bvs_length]; try omega) S8 C8 (bvs_one _) (by unfold maxLen; omega) (by omega) ?_; intro ao2 c2 w2 hown2 hgr2 hblk2; have hc2 : Chg [] w1 w2 := ((Chg.alloc [] _ _).trans (Chg.drewN [] _ 1) (by simp)).trans (Chg.grown hgr2 (S := [w1.heap.size]) (by intro k hk; left; have := Option.some.inj hk; simp at this; simp [this])) (by simp); have hb2 := (hc2.block b hbs1 (by simp)).trans hb1; have d2 : w2.cell? ⟨b, 1, none⟩ = some (.slice a0 s0.length k0) := (by rw [cell_of_row w2 b 1 _ _ _ hb2]; rfl); have df2 := frozen_of_row w2 b 1 _ _ hb2)
    go_wp2_with fail
    all_goals go_ret2
    all_goals
     have hb12 := hc1.trans hc2 (by simp)
     have hnew2 : ∀ k, (Value.slice ao2 (0 + 0) c2).ownBlock = some k → w1.heap.size ≤ k := by
       intro k hk
       rcases hblk2 with h1 | h1 <;> rw [h1] at hk
       · have := Option.some.inj hk; simp at this; omega
       · have := Option.some.inj hk; simp [World.drew] at this; omega
     have el : (s0.drop N).length = 0 + 0 := by simp; try omega
     have hown2' : w2.ownsRow 0 5 1 (Value.slice ao2 (0 + 0) c2) (s0.drop N).length (bvs (s0.drop N)) := by rw [el]; simpa using hown2
     obtain ⟨q1, q2⟩ := LinkAt.put2 (L := ⟨s1, s0, e⟩) (s0.drop N) ⟨hb, ho0, ho1⟩ hd (hb12.mono (by simp)) hown2' (fun k hk => .inr (by have := hnew2 k hk; omega))
     simp only [Nat.zero_add] at q1 q2 hnew2
     rw [← HF.out] at q2
     have el1 : (s0.take N).length = 0 + s0.length := by simp; try omega
     have hown1' : w1.ownsRow 0 5 1 (Value.slice ao1 s0.length c1) (s0.take N).length (bvs (s0.take N)) := by rw [el1]; simpa using hown1
     have hl1' := ownsRow_lt hown1'
     have hl1'' := ownsRow_lt ho0
     refine ⟨_, _, rfl, ownsRow_chg (ownsRow_chg hown1' hc2 (by simp)) (Chg.setCell (S := [b]) _ _ _ (.inl (by simp))) ?_, q1, q2, ?_⟩
     · intro k hk hm
       have := hnew1 k hk
       simp at hm
       omega
     · intro k hk
       refine ⟨hnew1 k hk, fun hm => ?_⟩
       have h1 := hnew1 k hk
       have h2 := hl1' k hk
       simp only [List.mem_cons, List.mem_append, Option.mem_toList] at hm
       rcases hm with rfl | hm | hm
       · omega
       · have := hl1'' k hm; omega
       · have := hnew2 k hm; omega
  · intro ao1 c1 w1 hown1 hgr1 hblk1
    have hnew1 : ∀ k, (Value.slice ao1 N c1).ownBlock = some k → w.heap.size ≤ k := by
      intro k hk
      rcases hblk1 with h1 | h1 <;> rw [h1] at hk
      · have := Option.some.inj hk; simp at this; omega
      · have := Option.some.inj hk; omega
    have hc1 : Chg [] w w1 := (Chg.alloc [] _ _).trans (Chg.grown hgr1 (S := [w.heap.size]) (by intro k hk; left; have := Option.some.inj hk; simp at this; simp [this])) (by simp)
    have hb1 := (hc1.block b hbs (by simp)).trans hb
    have d0 : w1.cell? ⟨b, 1, none⟩ = some (.slice a0 s0.length k0) := by rw [cell_of_row w1 b 1 _ _ _ hb1]; rfl
    have df := frozen_of_row w1 b 1 _ _ hb1
    have hbs1 := lt_of_block hb1
    have hsz1 := hc1.size
    have S8 : Src (w1.alloc (Obj.cells #[] 5)).drew (if k0 = N then a0 else Option.map (fun x => x.add N) a0) (bvs (s0.drop N)) := by
      have h2 : Src (w1.alloc (Obj.cells #[] 5)).drew (Option.map (fun x => x.add N) a0) (bvs (s0.drop N)) := by
        rw [bvs_drop]
        exact (hsrc.drop N).chg ((hc1.trans (Chg.alloc [] _ _) (by simp)).trans (Chg.drewN [] _ 1) (by simp)) (by simp)
      by_cases hN : s0.length ≤ N
      · rw [List.drop_of_length_le hN]; exact Src.empty _ _
      · have e1 : N = N := by omega
        rw [if_neg (by omega), e1]; exact h2
    have C8 : (if k0 = N then a0 else Option.map (fun x => x.add N) a0) = none → k0 - N = 0 := by
      intro h
      by_cases hk : k0 = N
      · omega
      · rw [if_neg hk] at h
        have := hn0 (by simpa using h)
        omega
    have hw0 : IntKind.i64.wrap 1 = 1 := by decide
    have hNle : (N : Int) ≤ (s0.length : Int) := by omega
    go_wp2_with fail
    go_region_law (refine step_append_x _ rfl _ _ 27 rfl 5 i0 _ 1 1 Try.underlying27 hi hz0 hz1 hz2 rfl (by decide) (.slice (some ⟨w1.heap.size, 0, none⟩) 0 0) 0 [] rfl (World.ownsRow_made w1 #[] 0 (Nat.zero_le _) (Nat.zero_le _) rfl) _ (s0.length - N) _ (bvs (s0.drop N)) rfl (by simp [bvs_length]; try omega) S8 C8 (bvs_one _) (by unfold maxLen; omega) (by omega) ?_; intro ao2 c2 w2 hown2 hgr2 hblk2; have hc2 : Chg [] w1 w2 := ((Chg.alloc [] _ _).trans (Chg.drewN [] _ 1) (by simp)).trans (Chg.grown hgr2 (S := [w1.heap.size]) (by intro k hk; left; have := Option.some.inj hk; simp at this; simp [this])) (by simp); have hb2 := (hc2.block b hbs1 (by simp)).trans hb1; have d2 : w2.cell? ⟨b, 1, none⟩ = some (.slice a0 s0.length k0) := (by rw [cell_of_row w2 b 1 _ _ _ hb2]; rfl); have df2 := frozen_of_row w2 b 1 _ _ hb2)
    go_wp2_with fail
    all_goals go_ret2
    all_goals
     have hb12 := hc1.trans hc2 (by simp)
     have hnew2 : ∀ k, (Value.slice ao2 (0 + (s0.length - N)) c2).ownBlock = some k → w1.heap.size ≤ k := by
       intro k hk
       rcases hblk2 with h1 | h1 <;> rw [h1] at hk
       · have := Option.some.inj hk; simp at this; omega
       · have := Option.some.inj hk; simp [World.drew] at this; omega
     have el : (s0.drop N).length = 0 + (s0.length - N) := by simp; try omega
     have hown2' : w2.ownsRow 0 5 1 (Value.slice ao2 (0 + (s0.length - N)) c2) (s0.drop N).length (bvs (s0.drop N)) := by rw [el]; simpa using hown2
     obtain ⟨q1, q2⟩ := LinkAt.put2 (L := ⟨s1, s0, e⟩) (s0.drop N) ⟨hb, ho0, ho1⟩ hd (hb12.mono (by simp)) hown2' (fun k hk => .inr (by have := hnew2 k hk; omega))
     simp only [Nat.zero_add] at q1 q2 hnew2
     rw [← HF.out] at q2
     have el1 : (s0.take N).length = 0 + N := by simp; try omega
     have hown1' : w1.ownsRow 0 5 1 (Value.slice ao1 N c1) (s0.take N).length (bvs (s0.take N)) := by rw [el1]; simpa using hown1
     have hl1' := ownsRow_lt hown1'
     have hl1'' := ownsRow_lt ho0
     refine ⟨_, _, rfl, ownsRow_chg (ownsRow_chg hown1' hc2 (by simp)) (Chg.setCell (S := [b]) _ _ _ (.inl (by simp))) ?_, q1, q2, ?_⟩
     · intro k hk hm
       have := hnew1 k hk
       simp at hm
       omega
     · intro k hk
       refine ⟨hnew1 k hk, fun hm => ?_⟩
       have h1 := hnew1 k hk
       have h2 := hl1' k hk
       simp only [List.mem_cons, List.mem_append, Option.mem_toList] at hm
       rcases hm with rfl | hm | hm
       · omega
       · have := hl1'' k hm; omega
       · have := hnew2 k hm; omega


theorem link_deliver_arg (b : Nat) (L : LinkS) (F : List Nat) (t n : Int) (w : World) (hL : LinkAt w b L F) (hn : isEnd t = false ∨ n < 0) :
    Calls Try.prog 11 #[.pointer (some ⟨b, 0, none⟩), .int .i64 t, .int .i64 n] w fun r w' => r = .returned (.tuple #[.slice none 0 0, .int .i64 2]) ∧ w = w' := by
  obtain ⟨v0, v1, ⟨hb, ho0, ho1⟩, hd, rfl⟩ := hL
  have hbs : b < w.heap.size := lt_of_block hb
  have c3 : w.cell? ⟨b, 3, none⟩ = some (.bool true) := by rw [cell_of_row w b 3 _ _ _ hb]; rfl
  cases he : isEnd t with
  | false =>
    go_enter Try.func11, Try.ntmps11
    go_wp2_with fail
    refine (link_is b true _ (by go_simp)).mono ?_
    rintro r w' ⟨rfl, rfl⟩
    go_wp2_with fail
    refine (link_end t _).mono ?_
    rintro r w' ⟨rfl, rfl⟩
    rw [he]
    go_wp2_with fail
    go_ret2
    exact ⟨rfl, rfl⟩
  | true =>
    have hn' : n < 0 := by rcases hn with h | h; rw [he] at h; cases h; exact h
    go_enter Try.func11, Try.ntmps11
    go_wp2_with fail
    refine (link_is b true _ (by go_simp)).mono ?_
    rintro r w' ⟨rfl, rfl⟩
    go_wp2_with fail
    refine (link_end t _).mono ?_
    rintro r w' ⟨rfl, rfl⟩
    rw [he]
    go_wp2_with fail
    go_ret2
    exact ⟨rfl, rfl⟩

end Go.Proofs.Ytehhnoanbdjgbaa
