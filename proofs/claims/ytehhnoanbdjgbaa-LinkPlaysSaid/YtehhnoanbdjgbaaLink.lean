/- What each function of the package link does to memory. No conditions beyond those that each statement types. -/
import Derived.Test.YtehhnoanbdjgbaaRows
import Derived.Test.YtehhnoanbdjgbaaBase
namespace Go.Proofs.Ytehhnoanbdjgbaa
open Go.RowKit

theorem link_new (w : World) :
    Calls Try.prog 9 #[] w fun e w' => e = .returned (.pointer (some ⟨w.heap.size, 0, none⟩)) ∧ w.alloc (.cells #[.slice none 0 0, .slice none 0 0, .int .i64 0, .bool true] 48) = w' := by
  go_enter Try.func9, Try.ntmps9
  go_wp2
  go_ret
  exact ⟨rfl, rfl⟩

theorem link_is (b : Nat) (m : Bool) (w : World) (h : w.cell? ⟨b, 3, none⟩ = some (.bool m)) :
    Calls Try.prog 19 #[.pointer (some ⟨b, 0, none⟩)] w fun e w' => e = .returned (.bool m) ∧ w = w' := by
  go_enter Try.func19, Try.ntmps19
  go_wp2
  go_ret
  exact ⟨rfl, rfl⟩

theorem link_is_nil (w : World) :
    Calls Try.prog 19 #[.pointer none] w fun e w' => e = .returned (.bool false) ∧ w = w' := by
  go_enter Try.func19, Try.ntmps19
  go_wp2
  go_ret
  exact ⟨rfl, rfl⟩

def isEnd (n : Int) : Bool := n == 1 || n == 2
theorem isEnd_iff (n : Int) : isEnd n = true ↔ n = 1 ∨ n = 2 := by simp [isEnd]

theorem link_end (n : Int) (w : World) :
    Calls Try.prog 20 #[.int .i64 n] w fun e w' => e = .returned (.bool (isEnd n)) ∧ w = w' := by
  by_cases h : n = 1
  · subst h
    go_enter Try.func20, Try.ntmps20
    go_wp2
    go_ret
    exact ⟨rfl, rfl⟩
  have hh : (n == 1) = false := by simpa using h
  go_enter Try.func20, Try.ntmps20
  go_wp2
  go_ret
  exact ⟨by simp [isEnd, hh], rfl⟩

theorem link_other (bl bf b : Nat) (n : Int) (hn : n = 1 ∨ n = 2) (w : World) (h1 : w.cell? ⟨bl, 0, none⟩ = some (.pointer (some ⟨b, 0, none⟩))) (h2 : w.cell? ⟨bf, 0, none⟩ = some (.int .i64 n)) :
    Calls Try.prog 21 #[.pointer (some ⟨bl, 0, none⟩), .pointer (some ⟨bf, 0, none⟩)] w fun e w' => e = .returned (.pointer (some ⟨b, (2 - n).toNat, none⟩)) ∧ ∃ k, w' = w.drewN k := by
  rcases hn with rfl | rfl
  all_goals
    go_enter Try.func21, Try.ntmps21
    go_wp2
    go_quiet (fail)
    go_wp2
    go_ret
    exact ⟨rfl, ⟨_, rfl⟩⟩

theorem Try.info5 : (Try.prog.info? 5).map (fun i => (i.zero, i.size, i.bytes)) = some (some (.int .u8 0), 1, 1) := by kernel_rfl

/-- A link in memory: its block, and what is in flight to each end in rows of its own. -/
structure LinkS where
  s1 : List UInt8
  s2 : List UInt8
  e : Int

def LinkCells (w : World) (b : Nat) (v0 v1 : Value) (L : LinkS) : Prop :=
  w.heap[b]? = some (.cells #[v0, v1, .int .i64 L.e, .bool true] 48 (0, 0)) ∧ w.ownsRow 0 5 1 v0 L.s1.length (bvs L.s1) ∧ w.ownsRow 0 5 1 v1 L.s2.length (bvs L.s2)

def LinkAt (w : World) (b : Nat) (L : LinkS) (F : List Nat) : Prop :=
  ∃ v0 v1, LinkCells w b v0 v1 L ∧ (v0.ownBlock = none ∨ v0.ownBlock ≠ v1.ownBlock) ∧ F = b :: (v0.ownBlock.toList ++ v1.ownBlock.toList)

theorem LinkAt.lt {w : World} {b : Nat} {L : LinkS} {F : List Nat} (h : LinkAt w b L F) : ∀ k ∈ F, k < w.heap.size := by
  obtain ⟨v0, v1, ⟨hb, h0, h1⟩, _, rfl⟩ := h
  intro k hk
  simp only [List.mem_cons, List.mem_append, Option.mem_toList] at hk
  rcases hk with rfl | hk | hk
  · exact lt_of_block hb
  · exact ownsRow_lt h0 k hk
  · exact ownsRow_lt h1 k hk

theorem LinkAt.chg {w w' : World} {b : Nat} {L : LinkS} {F S : List Nat} (h : LinkAt w b L F) (hc : Chg S w w') (hn : ∀ k ∈ F, k ∉ S) : LinkAt w' b L F := by
  have hlt := h.lt
  obtain ⟨v0, v1, ⟨hb, h0, h1⟩, hd, rfl⟩ := h
  exact ⟨v0, v1, ⟨(hc.block b (lt_of_block hb) (hn b (by simp))).trans hb, ownsRow_chg h0 hc (fun k hk => hn k (by simp [hk])), ownsRow_chg h1 hc (fun k hk => hn k (by simp [hk]))⟩, hd, rfl⟩

theorem LinkAt.put1 {w w1 : World} {b : Nat} {v0 v1 v' : Value} {L : LinkS} (d : List UInt8) (h : LinkCells w b v0 v1 L) (hd : v0.ownBlock = none ∨ v0.ownBlock ≠ v1.ownBlock)
    (hc : Chg v0.ownBlock.toList w w1) (hown : w1.ownsRow 0 5 1 v' d.length (bvs d)) (hnew : ∀ k, v'.ownBlock = some k → v0.ownBlock = some k ∨ w.heap.size ≤ k) :
    LinkAt (w1.setCell ⟨b, 0, none⟩ v') b { L with s1 := d } (b :: (v'.ownBlock.toList ++ v1.ownBlock.toList)) ∧ Step (b :: (v0.ownBlock.toList ++ v1.ownBlock.toList)) (b :: (v'.ownBlock.toList ++ v1.ownBlock.toList)) w (w1.setCell ⟨b, 0, none⟩ v') := by
  obtain ⟨hb, h0, h1⟩ := h
  have n0 := ownsRow_ne h0 hb (by decide)
  have n1 := ownsRow_ne h1 hb (by decide)
  have hbl := lt_of_block hb
  have hb1 := (hc.block b hbl (by simpa using n0)).trans hb
  have n' := ownsRow_ne hown hb1 (by decide)
  have hs := Chg.setCell (S := [b]) w1 ⟨b, 0, none⟩ v' (.inl (by simp))
  have hb2 := heap_setCell_same w1 b 0 _ _ v' hb1
  have hlt := ownsRow_lt hown
  have hlt1 := ownsRow_lt h1
  have hw2 := hc.size
  refine ⟨⟨v', v1, ⟨by simpa using hb2, ownsRow_chg hown hs (fun k hk hm => ?_), ownsRow_chg (ownsRow_chg h1 hc (fun k hk hm => ?_)) hs (fun k hk hm => ?_)⟩, ?_, rfl⟩, ⟨?_, ?_⟩⟩
  · simp at hm; subst hm; exact n' hk
  · rcases hd with hd | hd
    · simp [hd] at hm
    · simp at hm; exact hd (hm.trans hk.symm)
  · simp at hm; subst hm; exact n1 hk
  · cases hv : v'.ownBlock with
    | none => exact .inl rfl
    | some k =>
      right
      intro hk
      rcases hnew k hv with h2 | h2
      · rcases hd with hd | hd
        · rw [hd] at h2; cases h2
        · exact hd (h2.trans hk)
      · have := hlt1 k hk.symm; omega
  · refine (hc.mono (fun k hk => ?_)).trans hs (fun k hk => ?_)
    · simp at hk; simp [hk]
    · simp at hk; simp [hk]
  · intro k hk
    simp only [List.mem_cons, List.mem_append, Option.mem_toList] at hk ⊢
    simp only [World.size_setCell]
    rcases hk with rfl | hk | hk
    · exact ⟨.inl (.inl rfl), by omega⟩
    · refine ⟨?_, hlt k hk⟩
      rcases hnew k hk with h2 | h2
      · exact .inl (.inr (.inl h2))
      · exact .inr h2
    · exact ⟨.inl (.inr (.inr hk)), by have := hlt1 k hk; omega⟩

theorem LinkAt.put2 {w w1 : World} {b : Nat} {v0 v1 v' : Value} {L : LinkS} (d : List UInt8) (h : LinkCells w b v0 v1 L) (hd : v0.ownBlock = none ∨ v0.ownBlock ≠ v1.ownBlock)
    (hc : Chg v1.ownBlock.toList w w1) (hown : w1.ownsRow 0 5 1 v' d.length (bvs d)) (hnew : ∀ k, v'.ownBlock = some k → v1.ownBlock = some k ∨ w.heap.size ≤ k) :
    LinkAt (w1.setCell ⟨b, 1, none⟩ v') b { L with s2 := d } (b :: (v0.ownBlock.toList ++ v'.ownBlock.toList)) ∧ Step (b :: (v0.ownBlock.toList ++ v1.ownBlock.toList)) (b :: (v0.ownBlock.toList ++ v'.ownBlock.toList)) w (w1.setCell ⟨b, 1, none⟩ v') := by
  obtain ⟨hb, h0, h1⟩ := h
  have n0 := ownsRow_ne h0 hb (by decide)
  have n1 := ownsRow_ne h1 hb (by decide)
  have hbl := lt_of_block hb
  have hb1 := (hc.block b hbl (by simpa using n1)).trans hb
  have n' := ownsRow_ne hown hb1 (by decide)
  have hs := Chg.setCell (S := [b]) w1 ⟨b, 1, none⟩ v' (.inl (by simp))
  have hb2 := heap_setCell_same w1 b 1 _ _ v' hb1
  have hlt := ownsRow_lt hown
  have hlt1 := ownsRow_lt h0
  have hw2 := hc.size
  refine ⟨⟨v0, v', ⟨by simpa using hb2, ownsRow_chg (ownsRow_chg h0 hc (fun k hk hm => ?_)) hs (fun k hk hm => ?_), ownsRow_chg hown hs (fun k hk hm => ?_)⟩, ?_, rfl⟩, ⟨?_, ?_⟩⟩
  · rcases hd with hd | hd
    · rw [hd] at hk; cases hk
    · simp at hm; exact hd (hk.trans hm.symm)
  · simp at hm; subst hm; exact n0 hk
  · simp at hm; subst hm; exact n' hk
  · cases hv : v0.ownBlock with
    | none => exact .inl rfl
    | some k =>
      right
      intro hk
      rcases hnew k hk.symm with h2 | h2
      · rcases hd with hd | hd
        · rw [hd] at hv; cases hv
        · exact hd (hv.trans h2.symm)
      · have := hlt1 k hv; omega
  · refine (hc.mono (fun k hk => ?_)).trans hs (fun k hk => ?_)
    · simp at hk; simp [hk]
    · simp at hk; simp [hk]
  · intro k hk
    simp only [List.mem_cons, List.mem_append, Option.mem_toList] at hk ⊢
    simp only [World.size_setCell]
    rcases hk with rfl | hk | hk
    · exact ⟨.inl (.inl rfl), by omega⟩
    · exact ⟨.inl (.inr (.inl hk)), by have := hlt1 k hk; omega⟩
    · refine ⟨?_, hlt k hk⟩
      rcases hnew k hk with h2 | h2
      · exact .inl (.inr (.inr h2))
      · exact .inr h2

set_option maxHeartbeats 1000000 in
theorem link_send1 (b : Nat) (L : LinkS) (F : List Nat) (d : List UInt8) (ao : Option Addr) (c : Nat) (w : World) (hL : LinkAt w b L F) (hsrc : Src w ao (bvs d)) (hc : ao = none → c = 0)
    (hfit : L.s2.length + d.length ≤ 262144) :
    Calls Try.prog 10 #[.pointer (some ⟨b, 0, none⟩), .int .i64 1, .slice ao d.length c] w fun r w' => r = .returned (.int .i64 0) ∧
      ∃ F', LinkAt w' b { L with s2 := L.s2 ++ d } F' ∧ Step F F' w w' := by
  obtain ⟨v0, v1, ⟨hb, ho0, ho1⟩, hd, rfl⟩ := hL
  obtain ⟨s0, s1, e⟩ := L
  dsimp only at *
  obtain ⟨a1, k1, rfl, hk1, hn1⟩ := ownsRow_slice ho1
  have hbs : b < w.heap.size := lt_of_block hb
  have c0 : w.cell? ⟨b, 0, none⟩ = some v0 := by rw [cell_of_row w b 0 _ _ _ hb]; rfl
  have c1 : w.cell? ⟨b, 1, none⟩ = some (.slice a1 s1.length k1) := by rw [cell_of_row w b 1 _ _ _ hb]; rfl
  have c3 : w.cell? ⟨b, 3, none⟩ = some (.bool true) := by rw [cell_of_row w b 3 _ _ _ hb]; rfl
  have hne := ownsRow_ne ho1 hb (by decide)
  obtain ⟨i0, hi, hz0, hz1, hz2⟩ := info_parts Try.info5
  go_enter Try.func10, Try.ntmps10
  go_wp2_with fail
  refine (link_is b true _ (by go_simp)).mono ?_
  rintro r w' ⟨rfl, rfl⟩
  go_wp2_with fail
  refine (link_end 1 _).mono ?_
  rintro r w' ⟨rfl, rfl⟩
  go_wp2_with fail
  refine (link_other _ _ b 1 (.inl rfl) _ (by go_simp) (by go_simp)).mono ?_
  rintro r w' ⟨rfl, k, rfl⟩
  go_wp2_with fail
  refine (link_other _ _ b 1 (.inl rfl) _ (by go_simp) (by go_simp)).mono ?_
  rintro r w' ⟨rfl, k', rfl⟩
  go_wp2_with fail
  refine (link_other _ _ b 1 (.inl rfl) _ (by go_simp) (by go_simp)).mono ?_
  rintro r w' ⟨rfl, k'', rfl⟩
  go_wp2_with (at_builtin; refine wpList_append_x _ rfl _ _ 27 rfl 5 i0 _ 1 1 Try.underlying27 hi hz0 hz1 hz2 rfl (by decide) _ s1.length (bvs s1) rfl (ownsRow_drewN ((ho1.alloc _).alloc _) _) ao d.length c (bvs d) rfl ?_ ?_ ?_ ?_ ?_ ?_ ?_)
  · simp [bvs_length]
  · exact hsrc.chg (((Chg.alloc [] _ _).trans (Chg.alloc [] _ _) (by simp)).trans (Chg.drewN [] _ _) (by simp)) (by simp)
  · exact hc
  · exact bvs_one d
  · unfold maxLen; omega
  · omega
  intro a1' k1' w1 hown1 hgr hblk
  have hb1 : w1.heap[b]? = some (.cells #[v0, .slice a1 s1.length k1, .int .i64 e, .bool true] 48 (0, 0)) := by
    refine (hgr.block b (by simp; omega) (fun h => hne h.symm)).trans ?_
    rw [heap_drewN, Below.heap_alloc _ _ _ (by simp; omega), Below.heap_alloc _ _ _ hbs, hb]
  have d1 : w1.cell? ⟨b, 1, none⟩ = some (.slice a1 s1.length k1) := by rw [cell_of_row w1 b 1 _ _ _ hb1]; rfl
  have d2 : w1.frozen? ⟨b, 1, none⟩ = false := frozen_of_row w1 b 1 _ _ hb1
  go_wp2_with fail
  go_ret
  refine ⟨rfl, _, LinkAt.put2 (L := ⟨s0, s1, e⟩) (s1 ++ d) ⟨hb, ho0, ho1⟩ hd ((((Chg.alloc _ _ _).trans (Chg.alloc [] _ _) (by simp)).trans (Chg.drewN [] _ _) (by simp)).trans (Chg.grown hgr ?_) (fun k hk => .inl hk)) (by simpa [bvs_append] using hown1) ?_⟩
  · intro k hk; exact .inl (by simp [hk])
  · intro k hk
    rcases hblk with h | h
    · exact .inl (h.symm.trans hk)
    · rw [h] at hk; right; have := Option.some.inj hk; omega

set_option maxHeartbeats 1000000 in
theorem link_send2 (b : Nat) (L : LinkS) (F : List Nat) (d : List UInt8) (ao : Option Addr) (c : Nat) (w : World) (hL : LinkAt w b L F) (hsrc : Src w ao (bvs d)) (hc : ao = none → c = 0)
    (hfit : L.s1.length + d.length ≤ 262144) :
    Calls Try.prog 10 #[.pointer (some ⟨b, 0, none⟩),   .int .i64 2, .slice ao d.length c] w fun r w' => r = .returned (.int .i64 0) ∧
      ∃ F', LinkAt w' b { L with s1 := L.s1 ++ d } F' ∧ Step F F' w w' := by
  obtain ⟨v0, v1, ⟨hb, ho0, ho1⟩, hd, rfl⟩ := hL
  obtain ⟨s0, s1, e⟩ := L
  dsimp only at *
  obtain ⟨a0, k0, rfl, hk0, hn0⟩ := ownsRow_slice ho0
  have hbs : b < w.heap.size := lt_of_block hb
  have c0 : w.cell? ⟨b, 0, none⟩ = some (.slice a0 s0.length k0) := by rw [cell_of_row w b 0 _ _ _ hb]; rfl
  have c1 : w.cell? ⟨b, 1, none⟩ = some v1 := by rw [cell_of_row w b 1 _ _ _ hb]; rfl
  have c3 : w.cell? ⟨b, 3, none⟩ = some (.bool true) := by rw [cell_of_row w b 3 _ _ _ hb]; rfl
  have hne := ownsRow_ne ho0 hb (by decide)
  obtain ⟨i0, hi, hz0, hz1, hz2⟩ := info_parts Try.info5
  go_enter Try.func10, Try.ntmps10
  go_wp2_with fail
  refine (link_is b true _ (by go_simp)).mono ?_
  rintro r w' ⟨rfl, rfl⟩
  go_wp2_with fail
  refine (link_end 2 _).mono ?_
  rintro r w' ⟨rfl, rfl⟩
  go_wp2_with fail
  refine (link_other _ _ b 2 (.inr rfl) _ (by go_simp) (by go_simp)).mono ?_
  rintro r w' ⟨rfl, k, rfl⟩
  go_wp2_with fail
  refine (link_other _ _ b 2 (.inr rfl) _ (by go_simp) (by go_simp)).mono ?_
  rintro r w' ⟨rfl, k', rfl⟩
  go_wp2_with fail
  refine (link_other _ _ b 2 (.inr rfl) _ (by go_simp) (by go_simp)).mono ?_
  rintro r w' ⟨rfl, k'', rfl⟩
  go_wp2_with (at_builtin; refine wpList_append_x _ rfl _ _ 27 rfl 5 i0 _ 1 1 Try.underlying27 hi hz0 hz1 hz2 rfl (by decide) _ s0.length (bvs s0) rfl (ownsRow_drewN ((ho0.alloc _).alloc _) _) ao d.length c (bvs d) rfl ?_ ?_ ?_ ?_ ?_ ?_ ?_)
  · simp [bvs_length]
  · exact hsrc.chg (((Chg.alloc [] _ _).trans (Chg.alloc [] _ _) (by simp)).trans (Chg.drewN [] _ _) (by simp)) (by simp)
  · exact hc
  · exact bvs_one d
  · unfold maxLen; omega
  · omega
  intro a0' k0' w1 hown1 hgr hblk
  have hb1 : w1.heap[b]? = some (.cells #[.slice a0 s0.length k0, v1, .int .i64 e, .bool true] 48 (0, 0)) := by
    refine (hgr.block b (by simp; omega) (fun h => hne h.symm)).trans ?_
    rw [heap_drewN, Below.heap_alloc _ _ _ (by simp; omega), Below.heap_alloc _ _ _ hbs, hb]
  have d1 : w1.cell? ⟨b, 0, none⟩ = some (.slice a0 s0.length k0) := by rw [cell_of_row w1 b 0 _ _ _ hb1]; rfl
  have d2 : w1.frozen? ⟨b, 0, none⟩ = false := frozen_of_row w1 b 0 _ _ hb1
  go_wp2_with fail
  go_ret
  refine ⟨rfl, _, LinkAt.put1 (L := ⟨s0, s1, e⟩) (s0 ++ d) ⟨hb, ho0, ho1⟩ hd ((((Chg.alloc _ _ _).trans (Chg.alloc [] _ _) (by simp)).trans (Chg.drewN [] _ _) (by simp)).trans (Chg.grown hgr ?_) (fun k hk => .inl hk)) (by simpa [bvs_append] using hown1) ?_⟩
  · intro k hk; exact .inl (by simp [hk])
  · intro k hk
    rcases hblk with h | h
    · exact .inl (h.symm.trans hk)
    · rw [h] at hk; right; have := Option.some.inj hk; omega

/-- What no end, no room and no link answer. -/
theorem link_send_arg (b : Nat) (L : LinkS) (F : List Nat) (n : Int) (v : Value) (w : World) (hL : LinkAt w b L F) (hn : isEnd n = false) :
    Calls Try.prog 10 #[.pointer (some ⟨b, 0, none⟩), .int .i64 n, v] w fun r w' => r = .returned (.int .i64 2) ∧ Chg [] w w' := by
  obtain ⟨v0, v1, ⟨hb, ho0, ho1⟩, hd, rfl⟩ := hL
  have hbs : b < w.heap.size := lt_of_block hb
  have c3 : w.cell? ⟨b, 3, none⟩ = some (.bool true) := by rw [cell_of_row w b 3 _ _ _ hb]; rfl
  go_enter Try.func10, Try.ntmps10
  go_wp2_with fail
  refine (link_is b true _ (by go_simp)).mono ?_
  rintro r w' ⟨rfl, rfl⟩
  go_wp2_with fail
  refine (link_end n _).mono ?_
  rintro r w' ⟨rfl, rfl⟩
  rw [hn]
  go_wp2_with fail
  go_ret
  exact ⟨rfl, (Chg.alloc _ _ _).trans (Chg.alloc [] _ _) (by simp)⟩

theorem link_send_full (b : Nat) (L : LinkS) (F : List Nat) (n : Int) (d : List UInt8) (ao : Option Addr) (c : Nat) (w : World) (hL : LinkAt w b L F)
    (hn : n = 1 ∧ 262144 < L.s2.length + d.length ∨ n = 2 ∧ 262144 < L.s1.length + d.length) (hl1 : L.s1.length ≤ 262144) (hl2 : L.s2.length ≤ 262144) :
    Calls Try.prog 10 #[.pointer (some ⟨b, 0, none⟩), .int .i64 n, .slice ao d.length c] w fun r w' => r = .returned (.int .i64 7) ∧ Chg [] w w' := by
  obtain ⟨v0, v1, ⟨hb, ho0, ho1⟩, hd, rfl⟩ := hL
  have hbs : b < w.heap.size := lt_of_block hb
  obtain ⟨a0, k0, rfl, hk0, hn0⟩ := ownsRow_slice ho0
  obtain ⟨a1, k1, rfl, hk1, hn1⟩ := ownsRow_slice ho1
  have c0 : w.cell? ⟨b, 0, none⟩ = some (.slice a0 L.s1.length k0) := by rw [cell_of_row w b 0 _ _ _ hb]; rfl
  have c1 : w.cell? ⟨b, 1, none⟩ = some (.slice a1 L.s2.length k1) := by rw [cell_of_row w b 1 _ _ _ hb]; rfl
  have c3 : w.cell? ⟨b, 3, none⟩ = some (.bool true) := by rw [cell_of_row w b 3 _ _ _ hb]; rfl
  rcases hn with ⟨rfl, h⟩ | ⟨rfl, h⟩
  · go_enter Try.func10, Try.ntmps10
    go_wp2_with fail
    refine (link_is b true _ (by go_simp)).mono ?_
    rintro r w' ⟨rfl, rfl⟩
    go_wp2_with fail
    refine (link_end 1 _).mono ?_
    rintro r w' ⟨rfl, rfl⟩
    go_wp2_with fail
    refine (link_other _ _ b 1 (.inl rfl) _ (by go_simp) (by go_simp)).mono ?_
    rintro r w' ⟨rfl, k, rfl⟩
    go_wp2_with fail
    go_ret
    exact ⟨rfl, ((Chg.alloc _ _ _).trans (Chg.alloc [] _ _) (by simp)).trans (Chg.drewN [] _ _) (by simp)⟩
  · go_enter Try.func10, Try.ntmps10
    go_wp2_with fail
    refine (link_is b true _ (by go_simp)).mono ?_
    rintro r w' ⟨rfl, rfl⟩
    go_wp2_with fail
    refine (link_end 2 _).mono ?_
    rintro r w' ⟨rfl, rfl⟩
    go_wp2_with fail
    refine (link_other _ _ b 2 (.inr rfl) _ (by go_simp) (by go_simp)).mono ?_
    rintro r w' ⟨rfl, k, rfl⟩
    go_wp2_with fail
    go_ret
    exact ⟨rfl, ((Chg.alloc _ _ _).trans (Chg.alloc [] _ _) (by simp)).trans (Chg.drewN [] _ _) (by simp)⟩

/-- Left. -/
def LinkS.left (L : LinkS) (n : Int) : Nat := if n = 1 then L.s1.length else if n = 2 then L.s2.length else 0

theorem link_left (b : Nat) (L : LinkS) (F : List Nat) (n : Int) (w : World) (hL : LinkAt w b L F) :
    Calls Try.prog 12 #[.pointer (some ⟨b, 0, none⟩), .int .i64 n] w fun r w' => r = .returned (.int .i64 (L.left n)) ∧ w = w' := by
  obtain ⟨v0, v1, ⟨hb, ho0, ho1⟩, hd, rfl⟩ := hL
  have hbs : b < w.heap.size := lt_of_block hb
  obtain ⟨a0, k0, rfl, hk0, hn0⟩ := ownsRow_slice ho0
  obtain ⟨a1, k1, rfl, hk1, hn1⟩ := ownsRow_slice ho1
  have c0 : w.cell? ⟨b, 0, none⟩ = some (.slice a0 L.s1.length k0) := by rw [cell_of_row w b 0 _ _ _ hb]; rfl
  have c1 : w.cell? ⟨b, 1, none⟩ = some (.slice a1 L.s2.length k1) := by rw [cell_of_row w b 1 _ _ _ hb]; rfl
  have c3 : w.cell? ⟨b, 3, none⟩ = some (.bool true) := by rw [cell_of_row w b 3 _ _ _ hb]; rfl
  by_cases h1 : n = 1
  · subst h1
    go_enter Try.func12, Try.ntmps12
    go_wp2_with fail
    refine (link_is b true _ (by go_simp)).mono ?_
    rintro r w' ⟨rfl, rfl⟩
    go_wp2_with fail
    refine (link_end 1 _).mono ?_
    rintro r w' ⟨rfl, rfl⟩
    go_wp2_with fail
    go_ret
    exact ⟨rfl, rfl⟩
  by_cases h2 : n = 2
  · subst h2
    go_enter Try.func12, Try.ntmps12
    go_wp2_with fail
    refine (link_is b true _ (by go_simp)).mono ?_
    rintro r w' ⟨rfl, rfl⟩
    go_wp2_with fail
    refine (link_end 2 _).mono ?_
    rintro r w' ⟨rfl, rfl⟩
    go_wp2_with fail
    go_ret
    exact ⟨rfl, rfl⟩
  have hl : L.left n = 0 := by simp [LinkS.left, h1, h2]
  have hn : isEnd n = false := by simp [isEnd, h1, h2]
  have Hl := Lib.hid hl
  clear hl
  go_enter Try.func12, Try.ntmps12
  go_wp2_with fail
  refine (link_is b true _ (by go_simp)).mono ?_
  rintro r w' ⟨rfl, rfl⟩
  go_wp2_with fail
  refine (link_end n _).mono ?_
  rintro r w' ⟨rfl, rfl⟩
  rw [hn]
  go_wp2_with fail
  go_ret
  exact ⟨by rw [Hl.out]; rfl, rfl⟩

/-- Epoch, Reset. -/
theorem link_epoch (b : Nat) (L : LinkS) (F : List Nat) (w : World) (hL : LinkAt w b L F) :
    Calls Try.prog 16 #[.pointer (some ⟨b, 0, none⟩)] w fun r w' => r = .returned (.int .i64 L.e) ∧ w = w' := by
  obtain ⟨v0, v1, ⟨hb, ho0, ho1⟩, hd, rfl⟩ := hL
  have c2 : w.cell? ⟨b, 2, none⟩ = some (.int .i64 L.e) := by rw [cell_of_row w b 2 _ _ _ hb]; rfl
  have c3 : w.cell? ⟨b, 3, none⟩ = some (.bool true) := by rw [cell_of_row w b 3 _ _ _ hb]; rfl
  go_enter Try.func16, Try.ntmps16
  go_wp2_with fail
  refine (link_is b true _ (by go_simp)).mono ?_
  rintro r w' ⟨rfl, rfl⟩
  go_wp2_with fail
  go_ret
  exact ⟨rfl, rfl⟩

theorem link_reset (b : Nat) (L : LinkS) (F : List Nat) (w : World) (hL : LinkAt w b L F) (he0 : 0 ≤ L.e) (he1 : L.e ≤ 1000000) :
    Calls Try.prog 17 #[.pointer (some ⟨b, 0, none⟩)] w fun r w' => r = .returned (.int .i64 0) ∧ LinkAt w' b ⟨[], [], L.e + 1⟩ [b] ∧ Step F [b] w w' := by
  obtain ⟨v0, v1, ⟨hb, ho0, ho1⟩, hd, rfl⟩ := hL
  have c0 : w.cell? ⟨b, 0, none⟩ = some v0 := by rw [cell_of_row w b 0 _ _ _ hb]; rfl
  have c1 : w.cell? ⟨b, 1, none⟩ = some v1 := by rw [cell_of_row w b 1 _ _ _ hb]; rfl
  have c2 : w.cell? ⟨b, 2, none⟩ = some (.int .i64 L.e) := by rw [cell_of_row w b 2 _ _ _ hb]; rfl
  have c3 : w.cell? ⟨b, 3, none⟩ = some (.bool true) := by rw [cell_of_row w b 3 _ _ _ hb]; rfl
  have f0 := frozen_of_row w b 0 _ _ hb
  have f1 := frozen_of_row w b 1 _ _ hb
  have f2 := frozen_of_row w b 2 _ _ hb
  go_enter Try.func17, Try.ntmps17
  go_wp2_with fail
  refine (link_is b true _ (by go_simp)).mono ?_
  rintro r w' ⟨rfl, rfl⟩
  go_wp2_with fail
  go_ret
  have e1 := heap_setCell_same w b 0 _ _ (.slice none 0 0) hb
  have e2 := heap_setCell_same _ b 1 _ _ (.slice none 0 0) e1
  have e3 := heap_setCell_same _ b 2 _ _ (.int .i64 (L.e + 1)) e2
  refine ⟨rfl, ⟨.slice none 0 0, .slice none 0 0, ⟨by simpa using e3, World.ownsRow_nil _ _ _ _, World.ownsRow_nil _ _ _ _⟩, .inl rfl, rfl⟩, ⟨?_, ?_⟩⟩
  · exact ((Chg.setCell _ _ _ (.inl (by simp))).trans (Chg.setCell (S := [b]) _ _ _ (.inl (by simp))) (by simp)).trans (Chg.setCell (S := [b]) _ _ _ (.inl (by simp))) (by simp)
  · intro k hk
    simp at hk
    subst hk
    exact ⟨.inl (by simp), by simpa using lt_of_block hb⟩

end Go.Proofs.Ytehhnoanbdjgbaa
