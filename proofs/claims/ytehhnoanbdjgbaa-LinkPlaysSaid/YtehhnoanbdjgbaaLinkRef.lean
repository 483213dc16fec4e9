/- What each function of the reference of the package link does to memory. No conditions beyond those that each statement types. -/
import Derived.Test.YtehhnoanbdjgbaaLinkD
namespace Go.Proofs.Ytehhnoanbdjgbaa
open Go.RowKit

def RefCells (w : World) (b : Nat) (v0 v1 : Value) (L : LinkS) : Prop :=
  w.heap[b]? = some (.cells #[v0, v1, .int .i64 L.e] 39 (0, 0)) ∧ w.ownsRow 0 5 1 v0 L.s1.length (bvs L.s1) ∧ w.ownsRow 0 5 1 v1 L.s2.length (bvs L.s2)

def RefAt (w : World) (b : Nat) (L : LinkS) (F : List Nat) : Prop :=
  ∃ v0 v1, RefCells w b v0 v1 L ∧ (v0.ownBlock = none ∨ v0.ownBlock ≠ v1.ownBlock) ∧ F = b :: (v0.ownBlock.toList ++ v1.ownBlock.toList)

theorem RefAt.lt {w : World} {b : Nat} {L : LinkS} {F : List Nat} (h : RefAt w b L F) : ∀ k ∈ F, k < w.heap.size := by
  obtain ⟨v0, v1, ⟨hb, h0, h1⟩, _, rfl⟩ := h
  intro k hk
  simp only [List.mem_cons, List.mem_append, Option.mem_toList] at hk
  rcases hk with rfl | hk | hk
  · exact lt_of_block hb
  · exact ownsRow_lt h0 k hk
  · exact ownsRow_lt h1 k hk

theorem RefAt.chg {w w' : World} {b : Nat} {L : LinkS} {F S : List Nat} (h : RefAt w b L F) (hc : Chg S w w') (hn : ∀ k ∈ F, k ∉ S) : RefAt w' b L F := by
  obtain ⟨v0, v1, ⟨hb, h0, h1⟩, hd, rfl⟩ := h
  exact ⟨v0, v1, ⟨(hc.block b (lt_of_block hb) (hn b (by simp))).trans hb, ownsRow_chg h0 hc (fun k hk => hn k (by simp [hk])), ownsRow_chg h1 hc (fun k hk => hn k (by simp [hk]))⟩, hd, rfl⟩
theorem RefAt.stay {w w' : World} {b : Nat} {L : LinkS} {F : List Nat} (h : RefAt w b L F) (hc : Chg [] w w') : RefAt w' b L F ∧ Step F F w w' :=
  ⟨h.chg hc (by simp), ⟨hc.mono (by simp), fun k hk => ⟨.inl hk, Nat.lt_of_lt_of_le (h.lt k hk) hc.size⟩⟩⟩
theorem RefAt.put1 {w w1 : World} {b : Nat} {v0 v1 v' : Value} {L : LinkS} (d : List UInt8) (h : RefCells w b v0 v1 L) (hd : v0.ownBlock = none ∨ v0.ownBlock ≠ v1.ownBlock)
    (hc : Chg v0.ownBlock.toList w w1) (hown : w1.ownsRow 0 5 1 v' d.length (bvs d)) (hnew : ∀ k, v'.ownBlock = some k → v0.ownBlock = some k ∨ w.heap.size ≤ k) :
    RefAt (w1.setCell ⟨b, 0, none⟩ v') b { L with s1 := d } (b :: (v'.ownBlock.toList ++ v1.ownBlock.toList)) ∧ Step (b :: (v0.ownBlock.toList ++ v1.ownBlock.toList)) (b :: (v'.ownBlock.toList ++ v1.ownBlock.toList)) w (w1.setCell ⟨b, 0, none⟩ v') := by
  obtain ⟨hb, h0, h1⟩ := h
  have n0 := ownsRow_ne h0 hb (by decide)
  have n1 := ownsRow_ne h1 hb (by decide)
  have hbl := lt_of_block hb
  have hb1 := (hc.block b hbl (by simpa using n0)).trans hb
  have n' := ownsRow_ne hown hb1 (by decide)
  have hs := Chg.setCell (S := [b]) w1 ⟨b, 0, none⟩ v' (.inl (by simp))
  have hb2 := heap_setCell_same w1 b 0 _ _ v' hb1
  have hlt := ownsRow_lt hown
  have hlt1 := ownsRow_lt h1
  have hw2 := hc.size
  refine ⟨⟨v', v1, ⟨by simpa using hb2, ownsRow_chg hown hs (fun k hk hm => ?_), ownsRow_chg (ownsRow_chg h1 hc (fun k hk hm => ?_)) hs (fun k hk hm => ?_)⟩, ?_, rfl⟩, ⟨?_, ?_⟩⟩
  · simp at hm; subst hm; exact n' hk
  · rcases hd with hd | hd
    · simp [hd] at hm
    · simp at hm; exact hd (hm.trans hk.symm)
  · simp at hm; subst hm; exact n1 hk
  · cases hv : v'.ownBlock with
    | none => exact .inl rfl
    | some k =>
      right
      intro hk
      rcases hnew k hv with h2 | h2
      · rcases hd with hd | hd
        · rw [hd] at h2; cases h2
        · exact hd (h2.trans hk)
      · have := hlt1 k hk.symm; omega
  · refine (hc.mono (fun k hk => ?_)).trans hs (fun k hk => ?_)
    · simp at hk; simp [hk]
    · simp at hk; simp [hk]
  · intro k hk
    simp only [List.mem_cons, List.mem_append, Option.mem_toList] at hk ⊢
    simp only [World.size_setCell]
    rcases hk with rfl | hk | hk
    · exact ⟨.inl (.inl rfl), by omega⟩
    · refine ⟨?_, hlt k hk⟩
      rcases hnew k hk with h2 | h2
      · exact .inl (.inr (.inl h2))
      · exact .inr h2
    · exact ⟨.inl (.inr (.inr hk)), by have := hlt1 k hk; omega⟩

theorem RefAt.put2 {w w1 : World} {b : Nat} {v0 v1 v' : Value} {L : LinkS} (d : List UInt8) (h : RefCells w b v0 v1 L) (hd : v0.ownBlock = none ∨ v0.ownBlock ≠ v1.ownBlock)
    (hc : Chg v1.ownBlock.toList w w1) (hown : w1.ownsRow 0 5 1 v' d.length (bvs d)) (hnew : ∀ k, v'.ownBlock = some k → v1.ownBlock = some k ∨ w.heap.size ≤ k) :
    RefAt (w1.setCell ⟨b, 1, none⟩ v') b { L with s2 := d } (b :: (v0.ownBlock.toList ++ v'.ownBlock.toList)) ∧ Step (b :: (v0.ownBlock.toList ++ v1.ownBlock.toList)) (b :: (v0.ownBlock.toList ++ v'.ownBlock.toList)) w (w1.setCell ⟨b, 1, none⟩ v') := by
  obtain ⟨hb, h0, h1⟩ := h
  have n0 := ownsRow_ne h0 hb (by decide)
  have n1 := ownsRow_ne h1 hb (by decide)
  have hbl := lt_of_block hb
  have hb1 := (hc.block b hbl (by simpa using n1)).trans hb
  have n' := ownsRow_ne hown hb1 (by decide)
  have hs := Chg.setCell (S := [b]) w1 ⟨b, 1, none⟩ v' (.inl (by simp))
  have hb2 := heap_setCell_same w1 b 1 _ _ v' hb1
  have hlt := ownsRow_lt hown
  have hlt1 := ownsRow_lt h0
  have hw2 := hc.size
  refine ⟨⟨v0, v', ⟨by simpa using hb2, ownsRow_chg (ownsRow_chg h0 hc (fun k hk hm => ?_)) hs (fun k hk hm => ?_), ownsRow_chg hown hs (fun k hk hm => ?_)⟩, ?_, rfl⟩, ⟨?_, ?_⟩⟩
  · rcases hd with hd | hd
    · rw [hd] at hk; cases hk
    · simp at hm; exact hd (hk.trans hm.symm)
  · simp at hm; subst hm; exact n0 hk
  · simp at hm; subst hm; exact n' hk
  · cases hv : v0.ownBlock with
    | none => exact .inl rfl
    | some k =>
      right
      intro hk
      rcases hnew k hk.symm with h2 | h2
      · rcases hd with hd | hd
        · rw [hd] at hv; cases hv
        · exact hd (hv.trans h2.symm)
      · have := hlt1 k hv; omega
  · refine (hc.mono (fun k hk => ?_)).trans hs (fun k hk => ?_)
    · simp at hk; simp [hk]
    · simp at hk; simp [hk]
  · intro k hk
    simp only [List.mem_cons, List.mem_append, Option.mem_toList] at hk ⊢
    simp only [World.size_setCell]
    rcases hk with rfl | hk | hk
    · exact ⟨.inl (.inl rfl), by omega⟩
    · exact ⟨.inl (.inr (.inl hk)), by have := hlt1 k hk; omega⟩
    · refine ⟨?_, hlt k hk⟩
      rcases hnew k hk with h2 | h2
      · exact .inl (.inr (.inr h2))
      · exact .inr h2


theorem ref_flight1 (b : Nat) (v : Value) (w : World) (h : w.cell? ⟨b, 0, none⟩ = some v) :
    Calls Try.prog 25 #[.pointer (some ⟨b, 0, none⟩), .int .i64 1] w fun r w' => r = .returned v ∧ w = w' := by
  go_enter Try.func25, Try.ntmps25
  go_wp2
  go_ret
  exact ⟨rfl, rfl⟩
theorem ref_flight2 (b : Nat) (v : Value) (w : World) (h : w.cell? ⟨b, 1, none⟩ = some v) :
    Calls Try.prog 25 #[.pointer (some ⟨b, 0, none⟩), .int .i64 2] w fun r w' => r = .returned v ∧ w = w' := by
  go_enter Try.func25, Try.ntmps25
  go_wp2
  go_ret
  exact ⟨rfl, rfl⟩
theorem ref_flight0 (b : Nat) (n : Int) (h1 : (n == 1) = false) (h2 : (n == 2) = false) (w : World) :
    Calls Try.prog 25 #[.pointer (some ⟨b, 0, none⟩), .int .i64 n] w fun r w' => r = .returned (.slice none 0 0) ∧ w = w' := by
  go_enter Try.func25, Try.ntmps25
  go_wp2
  go_ret
  exact ⟨rfl, rfl⟩
theorem ref_set1 (b : Nat) (ao : Option Addr) (n c : Nat) (u : Value) (w : World) (h : w.cell? ⟨b, 0, none⟩ = some u) (hf : w.frozen? ⟨b, 0, none⟩ = false) :
    Calls Try.prog 26 #[.pointer (some ⟨b, 0, none⟩), .int .i64 1, .slice ao n c] w fun r w' => r = .returned (.tuple #[]) ∧ w.setCell ⟨b, 0, none⟩ (.slice ao n c) = w' := by
  go_enter Try.func26, Try.ntmps26
  go_wp2
  go_end0
  exact ⟨rfl, rfl⟩
theorem ref_set2 (b : Nat) (ao : Option Addr) (n c : Nat) (u : Value) (w : World) (h : w.cell? ⟨b, 1, none⟩ = some u) (hf : w.frozen? ⟨b, 1, none⟩ = false) :
    Calls Try.prog 26 #[.pointer (some ⟨b, 0, none⟩), .int .i64 2, .slice ao n c] w fun r w' => r = .returned (.tuple #[]) ∧ w.setCell ⟨b, 1, none⟩ (.slice ao n c) = w' := by
  go_enter Try.func26, Try.ntmps26
  go_wp2
  go_end0
  exact ⟨rfl, rfl⟩

theorem ref_left (b : Nat) (L : LinkS) (F : List Nat) (n : Int) (w : World) (hL : RefAt w b L F) :
    Calls Try.prog 15 #[.pointer (some ⟨b, 0, none⟩), .int .i64 n] w fun r w' => r = .returned (.int .i64 (L.left n)) ∧ w = w' := by
  obtain ⟨v0, v1, ⟨hb, ho0, ho1⟩, hd, rfl⟩ := hL
  obtain ⟨a0, k0, rfl, hk0, hn0⟩ := ownsRow_slice ho0
  obtain ⟨a1, k1, rfl, hk1, hn1⟩ := ownsRow_slice ho1
  have c0 : w.cell? ⟨b, 0, none⟩ = some (.slice a0 L.s1.length k0) := by rw [cell_of_row w b 0 _ _ _ hb]; rfl
  have c1 : w.cell? ⟨b, 1, none⟩ = some (.slice a1 L.s2.length k1) := by rw [cell_of_row w b 1 _ _ _ hb]; rfl
  by_cases h1 : n = 1
  · subst h1
    go_enter Try.func15, Try.ntmps15
    go_wp2_with fail
    refine (ref_flight1 b _ _ c0).mono ?_
    rintro r w' ⟨rfl, rfl⟩
    go_wp2_with fail
    go_ret
    exact ⟨rfl, rfl⟩
  by_cases h2 : n = 2
  · subst h2
    go_enter Try.func15, Try.ntmps15
    go_wp2_with fail
    refine (ref_flight2 b _ _ c1).mono ?_
    rintro r w' ⟨rfl, rfl⟩
    go_wp2_with fail
    go_ret
    exact ⟨rfl, rfl⟩
  have hl : L.left n = 0 := by simp [LinkS.left, h1, h2]
  have Hl := Lib.hid hl
  clear hl
  go_enter Try.func15, Try.ntmps15
  go_wp2_with fail
  refine (ref_flight0 b n (by simpa using h1) (by simpa using h2) _).mono ?_
  rintro r w' ⟨rfl, rfl⟩
  go_wp2_with fail
  go_ret
  exact ⟨by rw [Hl.out]; rfl, rfl⟩

theorem ref_reset (b : Nat) (L : LinkS) (F : List Nat) (w : World) (hL : RefAt w b L F) (he0 : 0 ≤ L.e) (he1 : L.e ≤ 1000000) :
    Calls Try.prog 24 #[.pointer (some ⟨b, 0, none⟩)] w fun r w' => r = .returned (.tuple #[]) ∧ RefAt w' b ⟨[], [], L.e + 1⟩ [b] ∧ Step F [b] w w' := by
  obtain ⟨v0, v1, ⟨hb, ho0, ho1⟩, hd, rfl⟩ := hL
  have c0 : w.cell? ⟨b, 0, none⟩ = some v0 := by rw [cell_of_row w b 0 _ _ _ hb]; rfl
  have c1 : w.cell? ⟨b, 1, none⟩ = some v1 := by rw [cell_of_row w b 1 _ _ _ hb]; rfl
  have c2 : w.cell? ⟨b, 2, none⟩ = some (.int .i64 L.e) := by rw [cell_of_row w b 2 _ _ _ hb]; rfl
  have f0 := frozen_of_row w b 0 _ _ hb
  have f1 := frozen_of_row w b 1 _ _ hb
  have f2 := frozen_of_row w b 2 _ _ hb
  have e1 := heap_setCell_same w b 0 _ _ (.slice none 0 0) hb
  have e2 := heap_setCell_same _ b 1 _ _ (.slice none 0 0) e1
  have e3 := heap_setCell_same _ b 2 _ _ (.int .i64 (L.e + 1)) e2
  have Q : RefAt (((w.setCell ⟨b, 0, none⟩ (.slice none 0 0)).setCell ⟨b, 1, none⟩ (.slice none 0 0)).setCell ⟨b, 2, none⟩ (.int .i64 (L.e + 1))) b ⟨[], [], L.e + 1⟩ [b] :=
    ⟨.slice none 0 0, .slice none 0 0, ⟨by simpa using e3, World.ownsRow_nil _ _ _ _, World.ownsRow_nil _ _ _ _⟩, .inl rfl, rfl⟩
  have R : Step (b :: (v0.ownBlock.toList ++ v1.ownBlock.toList)) [b] w (((w.setCell ⟨b, 0, none⟩ (.slice none 0 0)).setCell ⟨b, 1, none⟩ (.slice none 0 0)).setCell ⟨b, 2, none⟩ (.int .i64 (L.e + 1))) := by
    refine ⟨((Chg.setCell _ _ _ (.inl (by simp))).trans (Chg.setCell (S := [b]) _ _ _ (.inl (by simp))) (by simp)).trans (Chg.setCell (S := [b]) _ _ _ (.inl (by simp))) (by simp), ?_⟩
    intro k hk
    simp at hk
    subst hk
    exact ⟨.inl (by simp), by simpa using lt_of_block hb⟩
  clear e1 e2 e3
  go_enter Try.func24, Try.ntmps24
  go_wp2_with fail
  go_end0
  exact ⟨rfl, Q, R⟩

set_option maxHeartbeats 1000000 in
theorem ref_send2 (b : Nat) (L : LinkS) (F : List Nat) (d : List UInt8) (ao : Option Addr) (c : Nat) (w : World) (hL : RefAt w b L F) (hsrc : Src w ao (bvs d)) (hc : ao = none → c = 0)
    (hfit : L.s1.length + d.length ≤ 262144) :
    Calls Try.prog 22 #[.pointer (some ⟨b, 0, none⟩), .int .i64 2, .slice ao d.length c] w fun r w' => r = .returned (.int .i64 0) ∧
      ∃ F', RefAt w' b { L with s1 := L.s1 ++ d } F' ∧ Step F F' w w' := by
  obtain ⟨v0, v1, ⟨hb, ho0, ho1⟩, hd, hF⟩ := hL
  have HF := Lib.hid hF
  clear hF
  obtain ⟨s1, s2, e⟩ := L
  dsimp only at *
  obtain ⟨ax, kx, rfl, hkx, hnx⟩ := ownsRow_slice ho0
  have hbs : b < w.heap.size := lt_of_block hb
  have c0 : w.cell? ⟨b, 0, none⟩ = some (.slice ax s1.length kx) := by rw [cell_of_row w b 0 _ _ _ hb]; rfl
  have hne := ownsRow_ne ho0 hb (by decide)
  have hsx := ownsRow_src ho0
  obtain ⟨i0, hi, hz0, hz1, hz2⟩ := info_parts Try.info5
  go_enter Try.func22, Try.ntmps22
  go_wp2_with fail
  refine (ref_flight1 b _ _ c0).mono ?_
  rintro r w' ⟨rfl, rfl⟩
  go_wp2_with (at_builtin; refine wpList_append_x _ rfl (.tmp 25) (.tmp 26) 27 rfl 5 i0 _ 1 1 Try.underlying27 hi hz0 hz1 hz2 rfl (by decide) (.slice none 0 0) 0 [] rfl (World.ownsRow_nil _ _ _ _) ax s1.length kx (bvs s1) rfl (by simp [bvs_length]) hsx (fun h => (hnx h).2) (bvs_one _) (by unfold maxLen; omega) (by omega) ?_)
  intro a1 c1 w1 o1 g1 hb1
  try simp only [Nat.zero_add, List.nil_append] at o1 hb1
  have C1 : Chg [] w w1 := Chg.grown g1 (by intro k hk; cases hk)
  have n1 : ∀ k, (Value.slice a1 s1.length c1).ownBlock = some k → w.heap.size ≤ k := by
    intro k hk
    rcases hb1 with h | h <;> rw [h] at hk
    · cases hk
    · have := Option.some.inj hk; omega
  go_wp2_with (at_builtin; refine wpList_append_x _ rfl (.tmp 31) (.tmp 32) 27 rfl 5 i0 _ 1 1 Try.underlying27 hi hz0 hz1 hz2 rfl (by decide) (.slice a1 s1.length c1) s1.length (bvs s1) rfl o1 ao d.length c (bvs d) rfl (by simp [bvs_length]) (hsrc.chg C1 (by simp)) hc (bvs_one _) (by unfold maxLen; omega) (by omega) ?_)
  intro a2 c2 w2 o2 g2 hb2
  have C2 : Chg [] w w2 := C1.trans (Chg.grown (S := (Value.slice a1 s1.length c1).ownBlock.toList) g2 (by intro k hk; left; simp [hk])) (by intro k hk; right; exact n1 k (by simpa using hk))
  have n2 : ∀ k, (Value.slice a2 (s1.length + d.length) c2).ownBlock = some k → w.heap.size ≤ k := by
    intro k hk
    rcases hb2 with h | h <;> rw [h] at hk
    · exact n1 k hk
    · have := Option.some.inj hk; have := C1.size; omega
  have bb := (C2.block b hbs (by simp)).trans hb
  have d0 : w2.cell? ⟨b, 0, none⟩ = some (.slice ax s1.length kx) := by rw [cell_of_row w2 b 0 _ _ _ bb]; rfl
  have df := frozen_of_row w2 b 0 _ _ bb
  go_wp2_with fail
  refine (ref_set1 b _ _ _ _ _ d0 df).mono ?_
  rintro r w' ⟨rfl, rfl⟩
  go_wp2_with fail
  go_ret
  obtain ⟨q1, q2⟩ := RefAt.put1 (L := ⟨s1, s2, e⟩) (s1 ++ d) ⟨hb, ho0, ho1⟩ hd (C2.mono (by simp)) (by simpa [bvs_append] using o2) (fun k hk => .inr (n2 k hk))
  rw [← HF.out] at q2
  exact ⟨rfl, _, q1, q2⟩

set_option maxHeartbeats 1000000 in
theorem ref_send1 (b : Nat) (L : LinkS) (F : List Nat) (d : List UInt8) (ao : Option Addr) (c : Nat) (w : World) (hL : RefAt w b L F) (hsrc : Src w ao (bvs d)) (hc : ao = none → c = 0)
    (hfit : L.s2.length + d.length ≤ 262144) :
    Calls Try.prog 22 #[.pointer (some ⟨b, 0, none⟩), .int .i64 1, .slice ao d.length c] w fun r w' => r = .returned (.int .i64 0) ∧
      ∃ F', RefAt w' b { L with s2 := L.s2 ++ d } F' ∧ Step F F' w w' := by
  obtain ⟨v0, v1, ⟨hb, ho0, ho1⟩, hd, hF⟩ := hL
  have HF := Lib.hid hF
  clear hF
  obtain ⟨s1, s2, e⟩ := L
  dsimp only at *
  obtain ⟨ax, kx, rfl, hkx, hnx⟩ := ownsRow_slice ho1
  have hbs : b < w.heap.size := lt_of_block hb
  have c0 : w.cell? ⟨b, 1, none⟩ = some (.slice ax s2.length kx) := by rw [cell_of_row w b 1 _ _ _ hb]; rfl
  have hne := ownsRow_ne ho1 hb (by decide)
  have hsx := ownsRow_src ho1
  obtain ⟨i0, hi, hz0, hz1, hz2⟩ := info_parts Try.info5
  go_enter Try.func22, Try.ntmps22
  go_wp2_with fail
  refine (ref_flight2 b _ _ c0).mono ?_
  rintro r w' ⟨rfl, rfl⟩
  go_wp2_with (at_builtin; refine wpList_append_x _ rfl (.tmp 25) (.tmp 26) 27 rfl 5 i0 _ 1 1 Try.underlying27 hi hz0 hz1 hz2 rfl (by decide) (.slice none 0 0) 0 [] rfl (World.ownsRow_nil _ _ _ _) ax s2.length kx (bvs s2) rfl (by simp [bvs_length]) hsx (fun h => (hnx h).2) (bvs_one _) (by unfold maxLen; omega) (by omega) ?_)
  intro a1 c1 w1 o1 g1 hb1
  try simp only [Nat.zero_add, List.nil_append] at o1 hb1
  have C1 : Chg [] w w1 := Chg.grown g1 (by intro k hk; cases hk)
  have n1 : ∀ k, (Value.slice a1 s2.length c1).ownBlock = some k → w.heap.size ≤ k := by
    intro k hk
    rcases hb1 with h | h <;> rw [h] at hk
    · cases hk
    · have := Option.some.inj hk; omega
  go_wp2_with (at_builtin; refine wpList_append_x _ rfl (.tmp 31) (.tmp 32) 27 rfl 5 i0 _ 1 1 Try.underlying27 hi hz0 hz1 hz2 rfl (by decide) (.slice a1 s2.length c1) s2.length (bvs s2) rfl o1 ao d.length c (bvs d) rfl (by simp [bvs_length]) (hsrc.chg C1 (by simp)) hc (bvs_one _) (by unfold maxLen; omega) (by omega) ?_)
  intro a2 c2 w2 o2 g2 hb2
  have C2 : Chg [] w w2 := C1.trans (Chg.grown (S := (Value.slice a1 s2.length c1).ownBlock.toList) g2 (by intro k hk; left; simp [hk])) (by intro k hk; right; exact n1 k (by simpa using hk))
  have n2 : ∀ k, (Value.slice a2 (s2.length + d.length) c2).ownBlock = some k → w.heap.size ≤ k := by
    intro k hk
    rcases hb2 with h | h <;> rw [h] at hk
    · exact n1 k hk
    · have := Option.some.inj hk; have := C1.size; omega
  have bb := (C2.block b hbs (by simp)).trans hb
  have d0 : w2.cell? ⟨b, 1, none⟩ = some (.slice ax s2.length kx) := by rw [cell_of_row w2 b 1 _ _ _ bb]; rfl
  have df := frozen_of_row w2 b 1 _ _ bb
  go_wp2_with fail
  refine (ref_set2 b _ _ _ _ _ d0 df).mono ?_
  rintro r w' ⟨rfl, rfl⟩
  go_wp2_with fail
  go_ret
  obtain ⟨q1, q2⟩ := RefAt.put2 (L := ⟨s1, s2, e⟩) (s2 ++ d) ⟨hb, ho0, ho1⟩ hd (C2.mono (by simp)) (by simpa [bvs_append] using o2) (fun k hk => .inr (n2 k hk))
  rw [← HF.out] at q2
  exact ⟨rfl, _, q1, q2⟩

theorem ref_send_arg (b : Nat) (n : Int) (v : Value) (w : World) (h1 : (n == 1) = false) (h2 : (n == 2) = false) :
    Calls Try.prog 22 #[.pointer (some ⟨b, 0, none⟩), .int .i64 n, v] w fun r w' => r = .returned (.int .i64 2) ∧ w = w' := by
  have g1 : (n != 1) = true := by simp [bne, h1]
  have g2 : (n != 2) = true := by simp [bne, h2]
  go_enter Try.func22, Try.ntmps22
  go_wp2_with fail
  go_ret
  exact ⟨rfl, rfl⟩

theorem ref_send_full (b : Nat) (L : LinkS) (F : List Nat) (n : Int) (d : List UInt8) (ao : Option Addr) (c : Nat) (w : World) (hL : RefAt w b L F) (hlen : d.length ≤ 9223372036854000000)
    (hn : n = 1 ∧ 262144 < L.s2.length + d.length ∨ n = 2 ∧ 262144 < L.s1.length + d.length) (hl1 : L.s1.length ≤ 262144) (hl2 : L.s2.length ≤ 262144) :
    Calls Try.prog 22 #[.pointer (some ⟨b, 0, none⟩), .int .i64 n, .slice ao d.length c] w fun r w' => r = .returned (.int .i64 7) ∧ w = w' := by
  obtain ⟨v0, v1, ⟨hb, ho0, ho1⟩, hd, rfl⟩ := hL
  obtain ⟨a0, k0, rfl, hk0, hn0⟩ := ownsRow_slice ho0
  obtain ⟨a1, k1, rfl, hk1, hn1⟩ := ownsRow_slice ho1
  have c0 : w.cell? ⟨b, 0, none⟩ = some (.slice a0 L.s1.length k0) := by rw [cell_of_row w b 0 _ _ _ hb]; rfl
  have c1 : w.cell? ⟨b, 1, none⟩ = some (.slice a1 L.s2.length k1) := by rw [cell_of_row w b 1 _ _ _ hb]; rfl
  rcases hn with ⟨rfl, h⟩ | ⟨rfl, h⟩
  · go_enter Try.func22, Try.ntmps22
    go_wp2_with fail
    refine (ref_flight2 b _ _ c1).mono ?_
    rintro r w' ⟨rfl, rfl⟩
    go_wp2_with fail
    go_ret
    exact ⟨rfl, rfl⟩
  · go_enter Try.func22, Try.ntmps22
    go_wp2_with fail
    refine (ref_flight1 b _ _ c0).mono ?_
    rintro r w' ⟨rfl, rfl⟩
    go_wp2_with fail
    go_ret
    exact ⟨rfl, rfl⟩

/-- What Send leaves. -/
def RefSent (w : World) (b : Nat) (F : List Nat) (x : Int × LinkS) (r : Ending) (w' : World) : Prop :=
  r = .returned (.int .i64 x.1) ∧ ∃ F', RefAt w' b x.2 F' ∧ Step F F' w w'

theorem ref_send_x (b : Nat) (L : LinkS) (F : List Nat) (n : Int) (d : List UInt8) (x : Int × LinkS) (hx : L.send n d = x) (ao : Option Addr) (c m : Nat) (w : World) (hL : RefAt w b L F) (hok : L.ok) (hsrc : Src w ao (bvs d)) (hc : ao = none → c = 0) (hm : d.length = m) (hlen : m ≤ 9223372036854000000) :
    Calls Try.prog 22 #[.pointer (some ⟨b, 0, none⟩), .int .i64 n, .slice ao m c] w (RefSent w b F x) := by
  subst hm
  subst hx
  unfold LinkS.send RefSent
  by_cases h1 : n = 1
  · subst h1
    by_cases hf : L.s2.length + d.length ≤ 262144
    · simp only [if_true, if_pos hf]
      exact ref_send1 b L F d ao c w hL hsrc hc hf
    · simp only [if_true, if_neg hf]
      exact (ref_send_full b L F 1 d ao c w hL hlen (.inl ⟨rfl, by omega⟩) hok.1 hok.2.1).mono fun r w' ⟨h, g⟩ => ⟨h, F, hL.stay (g ▸ Chg.refl [] w)⟩
  rw [if_neg h1]
  by_cases h2 : n = 2
  · subst h2
    by_cases hf : L.s1.length + d.length ≤ 262144
    · simp only [if_true, if_pos hf]
      exact ref_send2 b L F d ao c w hL hsrc hc hf
    · simp only [if_true, if_neg hf]
      exact (ref_send_full b L F 2 d ao c w hL hlen (.inr ⟨rfl, by omega⟩) hok.1 hok.2.1).mono fun r w' ⟨h, g⟩ => ⟨h, F, hL.stay (g ▸ Chg.refl [] w)⟩
  rw [if_neg h2]
  exact (ref_send_arg b n _ w (by simpa using h1) (by simpa using h2)).mono fun r w' ⟨h, g⟩ => ⟨h, F, hL.stay (g ▸ Chg.refl [] w)⟩

/-- What Deliver leaves. -/
def RefTook (w : World) (b : Nat) (F : List Nat) (x : (List UInt8 × Int) × LinkS) (r : Ending) (w' : World) : Prop :=
  ∃ ao n c F', r = .returned (.tuple #[.slice ao n c, .int .i64 x.1.2]) ∧ n = x.1.1.length ∧ n ≤ c ∧ w'.ownsRow 0 5 1 (.slice ao n c) n (bvs x.1.1) ∧ RefAt w' b x.2 F' ∧ Step F F' w w' ∧
      (∀ a, ao = some a → w.heap.size ≤ a.block ∧ a.block ∉ F' ∧ a.block < w'.heap.size)

set_option maxHeartbeats 2000000 in
theorem ref_deliver1 (b : Nat) (L : LinkS) (F : List Nat) (n : Int) (hn : 0 ≤ n) (w : World) (hL : RefAt w b L F) (hl1 : L.s1.length ≤ 262144) :
    Calls Try.prog 23 #[.pointer (some ⟨b, 0, none⟩), .int .i64 1, .int .i64 n] w (RefTook w b F ((L.s1.take n.toNat, 0), ⟨L.s1.drop n.toNat, L.s2, L.e⟩)) := by
  obtain ⟨v0, v1, ⟨hb, ho0, ho1⟩, hd, hF⟩ := hL
  have HF := Lib.hid hF
  clear hF
  obtain ⟨s1, s2, e⟩ := L
  dsimp only at *
  obtain ⟨ax, kx, rfl, hkx, hnx⟩ := ownsRow_slice ho0
  have hbs : b < w.heap.size := lt_of_block hb
  have c0 : w.cell? ⟨b, 0, none⟩ = some (.slice ax s1.length kx) := by rw [cell_of_row w b 0 _ _ _ hb]; rfl
  have hsx := ownsRow_src ho0
  obtain ⟨i0, hi, hz0, hz1, hz2⟩ := info_parts Try.info5
  obtain ⟨N, rfl⟩ := Int.eq_ofNat_of_zero_le hn
  rw [Int.toNat_natCast]
  have hnneg : ¬ ((N : Int) < 0) := by omega
  go_enter Try.func23, Try.ntmps23
  go_wp2_with fail
  refine (ref_flight1 b _ _ c0).mono ?_
  rintro r w' ⟨rfl, rfl⟩
  go_wp2_with (at_builtin; refine wpList_append_x _ rfl (.tmp 30) (.tmp 33) 27 rfl 5 i0 _ 1 1 Try.underlying27 hi hz0 hz1 hz2 rfl (by decide) (.slice none 0 0) 0 [] rfl (World.ownsRow_nil _ _ _ _) ax _ _ (bvs (s1.take N)) rfl ?_ ?_ ?_ ?_ ?_ ?_ ?_)
  all_goals first | (simp [bvs_length]; omega) | (rw [bvs_take]; exact hsx.take N) | exact bvs_one _ | (unfold maxLen; omega) | omega | (intro h; have := hnx h; simp_all; done) | (intro h; have := hnx h; omega) | skip
  · intro a1 c1 w1 o1 g1 hb1
    have C1 : Chg [] w w1 := Chg.grown g1 (by intro k hk; cases hk)
    have n1 : ∀ k, (Value.slice a1 s1.length c1).ownBlock = some k → w.heap.size ≤ k := by
      intro k hk
      rcases hb1 with h1 | h1 <;> rw [h1] at hk
      · cases hk
      · have := Option.some.inj hk; omega
    have S8 : Src w1 (if kx = s1.length then ax else Option.map (fun x => x.add s1.length) ax) (bvs (s1.drop N)) := by
      have h2 : Src w1 (Option.map (fun x => x.add N) ax) (bvs (s1.drop N)) := by
        rw [bvs_drop]
        exact (hsx.drop N).chg C1 (by simp)
      by_cases hN : s1.length ≤ N
      · rw [List.drop_of_length_le hN]; exact Src.empty _ _
      · have e1 : s1.length = N := by omega
        rw [if_neg (by omega), e1]; exact h2
    have C8 : (if kx = s1.length then ax else Option.map (fun x => x.add s1.length) ax) = none → kx - s1.length = 0 := by
      intro h
      by_cases hk : kx = s1.length
      · omega
      · rw [if_neg hk] at h
        have := hnx (by simpa using h)
        omega
    skip
    rcases Classical.em (kx = s1.length) with hkN | hkN
    · have hkN2 := hkN.symm
      subst hkN2
      clear hkN
      rw [if_pos rfl] at S8
      clear C8
      go_wp2_with (at_builtin; refine wpList_append_x _ rfl (.tmp 35) (.tmp 38) 27 rfl 5 i0 _ 1 1 Try.underlying27 hi hz0 hz1 hz2 rfl (by decide) (.slice none 0 0) 0 [] rfl (World.ownsRow_nil _ _ _ _) _ 0 _ (bvs (s1.drop N)) rfl (by simp [bvs_length]; try omega) S8 (fun _ => rfl) (bvs_one _) (by unfold maxLen; omega) (by omega) ?_)
      intro a2 c2 w2 o2 g2 hb2
      have C2 : Chg [] w1 w2 := Chg.grown g2 (by intro k hk; cases hk)
      have n2 : ∀ k, (Value.slice a2 (0 + 0) c2).ownBlock = some k → w1.heap.size ≤ k := by
        intro k hk
        rcases hb2 with h1 | h1 <;> (try simp only [Nat.zero_add] at h1 hk) <;> rw [h1] at hk
        · cases hk
        · have := Option.some.inj hk; omega
      have el : (s1.drop N).length = 0 + 0 := by simp; try omega
      have o2' : w2.ownsRow 0 5 1 (Value.slice a2 (0 + 0) c2) (s1.drop N).length (bvs (s1.drop N)) := by rw [el]; simpa using o2
      have bb := ((C1.trans C2 (by simp)).block b hbs (by simp)).trans hb
      have d0 : w2.cell? ⟨b, 0, none⟩ = some (.slice ax s1.length s1.length) := by rw [cell_of_row w2 b 0 _ _ _ bb]; rfl
      have df := frozen_of_row w2 b 0 _ _ bb
      obtain ⟨q1, q2⟩ := RefAt.put1 (L := ⟨s1, s2, e⟩) (s1.drop N) ⟨hb, ho0, ho1⟩ hd ((C1.trans C2 (by simp)).mono (by simp)) o2' (fun k hk => .inr (by have := n2 k hk; have := C1.size; omega))
      rw [← HF.out] at q2
      have el1 : (s1.take N).length = 0 + s1.length := by simp; try omega
      have o1' : w1.ownsRow 0 5 1 (Value.slice a1 s1.length c1) (s1.take N).length (bvs (s1.take N)) := by rw [el1]; simpa using o1
      have l1 := ownsRow_lt o1'
      have lo0 := ownsRow_lt ho0
      have lo1 := ownsRow_lt ho1
      simp only [Nat.zero_add] at q1 q2 n2
      have hmc : s1.length ≤ c1 := by
        obtain ⟨_, _, hv, hx, _⟩ := ownsRow_slice o1'
        simp only [Value.slice.injEq] at hv
        obtain ⟨_, h1, h2⟩ := hv
        rw [el1] at hx
        omega
      have hsz2 := C2.size
      have fin : RefTook w b F ((s1.take N, 0), ⟨s1.drop N, s2, e⟩) (.returned (.tuple #[.slice a1 s1.length c1, .int .i64 0])) (w2.setCell ⟨b, 0, none⟩ (.slice a2 0 c2)) := by
        refine ⟨a1, s1.length, c1, _, rfl, by rw [el1]; simp, hmc, ?_, q1, q2, ?_⟩
        · have h := ownsRow_chg (ownsRow_chg o1' C2 (by simp)) (Chg.setCell (S := [b]) w2 ⟨b, 0, none⟩ (.slice a2 0 c2) (.inl (by simp))) (by
            intro k hk hm
            have := n1 k hk
            simp at hm
            omega)
          rw [el1] at h
          simpa using h
        · intro a ha
          subst ha
          have h1 := n1 a.block rfl
          have h2 := l1 a.block rfl
          refine ⟨h1, fun hm => ?_, by simp only [World.size_setCell]; omega⟩
          simp only [List.mem_cons, List.mem_append, Option.mem_toList] at hm
          rcases hm with hm | hm | hm
          · omega
          · first | (have := n2 _ hm; omega) | (have := lo0 _ hm; omega)
          · first | (have := n2 _ hm; omega) | (have := lo1 _ hm; omega)
      have FIN := Lib.hid fin
      clear fin q1 q2 n2 o2' o2 hb2
      go_wp2_with fail
      refine (ref_set1 b _ _ _ _ _ d0 df).mono ?_
      rintro r w' ⟨rfl, rfl⟩
      go_wp2_with fail
      go_ret2
      exact FIN.out
    · rw [if_neg hkN] at S8 C8
      go_wp2_with (at_builtin; refine wpList_append_x _ rfl (.tmp 35) (.tmp 38) 27 rfl 5 i0 _ 1 1 Try.underlying27 hi hz0 hz1 hz2 rfl (by decide) (.slice none 0 0) 0 [] rfl (World.ownsRow_nil _ _ _ _) _ 0 _ (bvs (s1.drop N)) rfl (by simp [bvs_length]; try omega) S8 C8 (bvs_one _) (by unfold maxLen; omega) (by omega) ?_)
      intro a2 c2 w2 o2 g2 hb2
      have C2 : Chg [] w1 w2 := Chg.grown g2 (by intro k hk; cases hk)
      have n2 : ∀ k, (Value.slice a2 (0 + 0) c2).ownBlock = some k → w1.heap.size ≤ k := by
        intro k hk
        rcases hb2 with h1 | h1 <;> (try simp only [Nat.zero_add] at h1 hk) <;> rw [h1] at hk
        · cases hk
        · have := Option.some.inj hk; omega
      have el : (s1.drop N).length = 0 + 0 := by simp; try omega
      have o2' : w2.ownsRow 0 5 1 (Value.slice a2 (0 + 0) c2) (s1.drop N).length (bvs (s1.drop N)) := by rw [el]; simpa using o2
      have bb := ((C1.trans C2 (by simp)).block b hbs (by simp)).trans hb
      have d0 : w2.cell? ⟨b, 0, none⟩ = some (.slice ax s1.length kx) := by rw [cell_of_row w2 b 0 _ _ _ bb]; rfl
      have df := frozen_of_row w2 b 0 _ _ bb
      obtain ⟨q1, q2⟩ := RefAt.put1 (L := ⟨s1, s2, e⟩) (s1.drop N) ⟨hb, ho0, ho1⟩ hd ((C1.trans C2 (by simp)).mono (by simp)) o2' (fun k hk => .inr (by have := n2 k hk; have := C1.size; omega))
      rw [← HF.out] at q2
      have el1 : (s1.take N).length = 0 + s1.length := by simp; try omega
      have o1' : w1.ownsRow 0 5 1 (Value.slice a1 s1.length c1) (s1.take N).length (bvs (s1.take N)) := by rw [el1]; simpa using o1
      have l1 := ownsRow_lt o1'
      have lo0 := ownsRow_lt ho0
      have lo1 := ownsRow_lt ho1
      simp only [Nat.zero_add] at q1 q2 n2
      have hmc : s1.length ≤ c1 := by
        obtain ⟨_, _, hv, hx, _⟩ := ownsRow_slice o1'
        simp only [Value.slice.injEq] at hv
        obtain ⟨_, h1, h2⟩ := hv
        rw [el1] at hx
        omega
      have hsz2 := C2.size
      have fin : RefTook w b F ((s1.take N, 0), ⟨s1.drop N, s2, e⟩) (.returned (.tuple #[.slice a1 s1.length c1, .int .i64 0])) (w2.setCell ⟨b, 0, none⟩ (.slice a2 0 c2)) := by
        refine ⟨a1, s1.length, c1, _, rfl, by rw [el1]; simp, hmc, ?_, q1, q2, ?_⟩
        · have h := ownsRow_chg (ownsRow_chg o1' C2 (by simp)) (Chg.setCell (S := [b]) w2 ⟨b, 0, none⟩ (.slice a2 0 c2) (.inl (by simp))) (by
            intro k hk hm
            have := n1 k hk
            simp at hm
            omega)
          rw [el1] at h
          simpa using h
        · intro a ha
          subst ha
          have h1 := n1 a.block rfl
          have h2 := l1 a.block rfl
          refine ⟨h1, fun hm => ?_, by simp only [World.size_setCell]; omega⟩
          simp only [List.mem_cons, List.mem_append, Option.mem_toList] at hm
          rcases hm with hm | hm | hm
          · omega
          · first | (have := n2 _ hm; omega) | (have := lo0 _ hm; omega)
          · first | (have := n2 _ hm; omega) | (have := lo1 _ hm; omega)
      have FIN := Lib.hid fin
      clear fin q1 q2 n2 o2' o2 hb2
      go_wp2_with fail
      refine (ref_set1 b _ _ _ _ _ d0 df).mono ?_
      rintro r w' ⟨rfl, rfl⟩
      go_wp2_with fail
      go_ret2
      exact FIN.out
  · intro a1 c1 w1 o1 g1 hb1
    have C1 : Chg [] w w1 := Chg.grown g1 (by intro k hk; cases hk)
    have n1 : ∀ k, (Value.slice a1 N c1).ownBlock = some k → w.heap.size ≤ k := by
      intro k hk
      rcases hb1 with h1 | h1 <;> rw [h1] at hk
      · cases hk
      · have := Option.some.inj hk; omega
    have S8 : Src w1 (if kx = N then ax else Option.map (fun x => x.add N) ax) (bvs (s1.drop N)) := by
      have h2 : Src w1 (Option.map (fun x => x.add N) ax) (bvs (s1.drop N)) := by
        rw [bvs_drop]
        exact (hsx.drop N).chg C1 (by simp)
      by_cases hN : s1.length ≤ N
      · rw [List.drop_of_length_le hN]; exact Src.empty _ _
      · have e1 : N = N := by omega
        rw [if_neg (by omega), e1]; exact h2
    have C8 : (if kx = N then ax else Option.map (fun x => x.add N) ax) = none → kx - N = 0 := by
      intro h
      by_cases hk : kx = N
      · omega
      · rw [if_neg hk] at h
        have := hnx (by simpa using h)
        omega
    have hNle : (N : Int) ≤ (s1.length : Int) := by omega
    rcases Classical.em (kx = N) with hkN | hkN
    · have hkN2 := hkN.symm
      subst hkN2
      clear hkN
      rw [if_pos rfl] at S8
      clear C8
      go_wp2_with (at_builtin; refine wpList_append_x _ rfl (.tmp 35) (.tmp 38) 27 rfl 5 i0 _ 1 1 Try.underlying27 hi hz0 hz1 hz2 rfl (by decide) (.slice none 0 0) 0 [] rfl (World.ownsRow_nil _ _ _ _) _ 0 _ (bvs (s1.drop N)) rfl (by simp [bvs_length]; try omega) S8 (fun _ => rfl) (bvs_one _) (by unfold maxLen; omega) (by omega) ?_)
      intro a2 c2 w2 o2 g2 hb2
      have C2 : Chg [] w1 w2 := Chg.grown g2 (by intro k hk; cases hk)
      have n2 : ∀ k, (Value.slice a2 (0 + 0) c2).ownBlock = some k → w1.heap.size ≤ k := by
        intro k hk
        rcases hb2 with h1 | h1 <;> (try simp only [Nat.zero_add] at h1 hk) <;> rw [h1] at hk
        · cases hk
        · have := Option.some.inj hk; omega
      have el : (s1.drop N).length = 0 + 0 := by simp; try omega
      have o2' : w2.ownsRow 0 5 1 (Value.slice a2 (0 + 0) c2) (s1.drop N).length (bvs (s1.drop N)) := by rw [el]; simpa using o2
      have bb := ((C1.trans C2 (by simp)).block b hbs (by simp)).trans hb
      have d0 : w2.cell? ⟨b, 0, none⟩ = some (.slice ax s1.length N) := by rw [cell_of_row w2 b 0 _ _ _ bb]; rfl
      have df := frozen_of_row w2 b 0 _ _ bb
      obtain ⟨q1, q2⟩ := RefAt.put1 (L := ⟨s1, s2, e⟩) (s1.drop N) ⟨hb, ho0, ho1⟩ hd ((C1.trans C2 (by simp)).mono (by simp)) o2' (fun k hk => .inr (by have := n2 k hk; have := C1.size; omega))
      rw [← HF.out] at q2
      have el1 : (s1.take N).length = 0 + N := by simp; try omega
      have o1' : w1.ownsRow 0 5 1 (Value.slice a1 N c1) (s1.take N).length (bvs (s1.take N)) := by rw [el1]; simpa using o1
      have l1 := ownsRow_lt o1'
      have lo0 := ownsRow_lt ho0
      have lo1 := ownsRow_lt ho1
      simp only [Nat.zero_add] at q1 q2 n2
      have hmc : N ≤ c1 := by
        obtain ⟨_, _, hv, hx, _⟩ := ownsRow_slice o1'
        simp only [Value.slice.injEq] at hv
        obtain ⟨_, h1, h2⟩ := hv
        rw [el1] at hx
        omega
      have hsz2 := C2.size
      have fin : RefTook w b F ((s1.take N, 0), ⟨s1.drop N, s2, e⟩) (.returned (.tuple #[.slice a1 N c1, .int .i64 0])) (w2.setCell ⟨b, 0, none⟩ (.slice a2 0 c2)) := by
        refine ⟨a1, N, c1, _, rfl, by rw [el1]; simp, hmc, ?_, q1, q2, ?_⟩
        · have h := ownsRow_chg (ownsRow_chg o1' C2 (by simp)) (Chg.setCell (S := [b]) w2 ⟨b, 0, none⟩ (.slice a2 0 c2) (.inl (by simp))) (by
            intro k hk hm
            have := n1 k hk
            simp at hm
            omega)
          rw [el1] at h
          simpa using h
        · intro a ha
          subst ha
          have h1 := n1 a.block rfl
          have h2 := l1 a.block rfl
          refine ⟨h1, fun hm => ?_, by simp only [World.size_setCell]; omega⟩
          simp only [List.mem_cons, List.mem_append, Option.mem_toList] at hm
          rcases hm with hm | hm | hm
          · omega
          · first | (have := n2 _ hm; omega) | (have := lo0 _ hm; omega)
          · first | (have := n2 _ hm; omega) | (have := lo1 _ hm; omega)
      have FIN := Lib.hid fin
      clear fin q1 q2 n2 o2' o2 hb2
      go_wp2_with fail
      refine (ref_set1 b _ _ _ _ _ d0 df).mono ?_
      rintro r w' ⟨rfl, rfl⟩
      go_wp2_with fail
      go_ret2
      exact FIN.out
    · rw [if_neg hkN] at S8 C8
      go_wp2_with (at_builtin; refine wpList_append_x _ rfl (.tmp 35) (.tmp 38) 27 rfl 5 i0 _ 1 1 Try.underlying27 hi hz0 hz1 hz2 rfl (by decide) (.slice none 0 0) 0 [] rfl (World.ownsRow_nil _ _ _ _) _ (s1.length - N) _ (bvs (s1.drop N)) rfl (by simp [bvs_length]; try omega) S8 C8 (bvs_one _) (by unfold maxLen; omega) (by omega) ?_)
      intro a2 c2 w2 o2 g2 hb2
      have C2 : Chg [] w1 w2 := Chg.grown g2 (by intro k hk; cases hk)
      have n2 : ∀ k, (Value.slice a2 (0 + (s1.length - N)) c2).ownBlock = some k → w1.heap.size ≤ k := by
        intro k hk
        rcases hb2 with h1 | h1 <;> (try simp only [Nat.zero_add] at h1 hk) <;> rw [h1] at hk
        · cases hk
        · have := Option.some.inj hk; omega
      have el : (s1.drop N).length = 0 + (s1.length - N) := by simp; try omega
      have o2' : w2.ownsRow 0 5 1 (Value.slice a2 (0 + (s1.length - N)) c2) (s1.drop N).length (bvs (s1.drop N)) := by rw [el]; simpa using o2
      have bb := ((C1.trans C2 (by simp)).block b hbs (by simp)).trans hb
      have d0 : w2.cell? ⟨b, 0, none⟩ = some (.slice ax s1.length kx) := by rw [cell_of_row w2 b 0 _ _ _ bb]; rfl
      have df := frozen_of_row w2 b 0 _ _ bb
      obtain ⟨q1, q2⟩ := RefAt.put1 (L := ⟨s1, s2, e⟩) (s1.drop N) ⟨hb, ho0, ho1⟩ hd ((C1.trans C2 (by simp)).mono (by simp)) o2' (fun k hk => .inr (by have := n2 k hk; have := C1.size; omega))
      rw [← HF.out] at q2
      have el1 : (s1.take N).length = 0 + N := by simp; try omega
      have o1' : w1.ownsRow 0 5 1 (Value.slice a1 N c1) (s1.take N).length (bvs (s1.take N)) := by rw [el1]; simpa using o1
      have l1 := ownsRow_lt o1'
      have lo0 := ownsRow_lt ho0
      have lo1 := ownsRow_lt ho1
      simp only [Nat.zero_add] at q1 q2 n2
      have hmc : N ≤ c1 := by
        obtain ⟨_, _, hv, hx, _⟩ := ownsRow_slice o1'
        simp only [Value.slice.injEq] at hv
        obtain ⟨_, h1, h2⟩ := hv
        rw [el1] at hx
        omega
      have hsz2 := C2.size
      have fin : RefTook w b F ((s1.take N, 0), ⟨s1.drop N, s2, e⟩) (.returned (.tuple #[.slice a1 N c1, .int .i64 0])) (w2.setCell ⟨b, 0, none⟩ (.slice a2 (s1.length - N) c2)) := by
        refine ⟨a1, N, c1, _, rfl, by rw [el1]; simp, hmc, ?_, q1, q2, ?_⟩
        · have h := ownsRow_chg (ownsRow_chg o1' C2 (by simp)) (Chg.setCell (S := [b]) w2 ⟨b, 0, none⟩ (.slice a2 (s1.length - N) c2) (.inl (by simp))) (by
            intro k hk hm
            have := n1 k hk
            simp at hm
            omega)
          rw [el1] at h
          simpa using h
        · intro a ha
          subst ha
          have h1 := n1 a.block rfl
          have h2 := l1 a.block rfl
          refine ⟨h1, fun hm => ?_, by simp only [World.size_setCell]; omega⟩
          simp only [List.mem_cons, List.mem_append, Option.mem_toList] at hm
          rcases hm with hm | hm | hm
          · omega
          · first | (have := n2 _ hm; omega) | (have := lo0 _ hm; omega)
          · first | (have := n2 _ hm; omega) | (have := lo1 _ hm; omega)
      have FIN := Lib.hid fin
      clear fin q1 q2 n2 o2' o2 hb2
      go_wp2_with fail
      refine (ref_set1 b _ _ _ _ _ d0 df).mono ?_
      rintro r w' ⟨rfl, rfl⟩
      go_wp2_with fail
      go_ret2
      exact FIN.out

set_option maxHeartbeats 2000000 in
theorem ref_deliver2 (b : Nat) (L : LinkS) (F : List Nat) (n : Int) (hn : 0 ≤ n) (w : World) (hL : RefAt w b L F) (hl1 : L.s2.length ≤ 262144) :
    Calls Try.prog 23 #[.pointer (some ⟨b, 0, none⟩), .int .i64 2, .int .i64 n] w (RefTook w b F ((L.s2.take n.toNat, 0), ⟨L.s1, L.s2.drop n.toNat, L.e⟩)) := by
  obtain ⟨v0, v1, ⟨hb, ho0, ho1⟩, hd, hF⟩ := hL
  have HF := Lib.hid hF
  clear hF
  obtain ⟨s1, s2, e⟩ := L
  dsimp only at *
  obtain ⟨ax, kx, rfl, hkx, hnx⟩ := ownsRow_slice ho1
  have hbs : b < w.heap.size := lt_of_block hb
  have c0 : w.cell? ⟨b, 1, none⟩ = some (.slice ax s2.length kx) := by rw [cell_of_row w b 1 _ _ _ hb]; rfl
  have hsx := ownsRow_src ho1
  obtain ⟨i0, hi, hz0, hz1, hz2⟩ := info_parts Try.info5
  obtain ⟨N, rfl⟩ := Int.eq_ofNat_of_zero_le hn
  rw [Int.toNat_natCast]
  have hnneg : ¬ ((N : Int) < 0) := by omega
  go_enter Try.func23, Try.ntmps23
  go_wp2_with fail
  refine (ref_flight2 b _ _ c0).mono ?_
  rintro r w' ⟨rfl, rfl⟩
  go_wp2_with (at_builtin; refine wpList_append_x _ rfl (.tmp 30) (.tmp 33) 27 rfl 5 i0 _ 1 1 Try.underlying27 hi hz0 hz1 hz2 rfl (by decide) (.slice none 0 0) 0 [] rfl (World.ownsRow_nil _ _ _ _) ax _ _ (bvs (s2.take N)) rfl ?_ ?_ ?_ ?_ ?_ ?_ ?_)
  all_goals first | (simp [bvs_length]; omega) | (rw [bvs_take]; exact hsx.take N) | exact bvs_one _ | (unfold maxLen; omega) | omega | (intro h; have := hnx h; simp_all; done) | (intro h; have := hnx h; omega) | skip
  · intro a1 c1 w1 o1 g1 hb1
    have C1 : Chg [] w w1 := Chg.grown g1 (by intro k hk; cases hk)
    have n1 : ∀ k, (Value.slice a1 s2.length c1).ownBlock = some k → w.heap.size ≤ k := by
      intro k hk
      rcases hb1 with h1 | h1 <;> rw [h1] at hk
      · cases hk
      · have := Option.some.inj hk; omega
    have S8 : Src w1 (if kx = s2.length then ax else Option.map (fun x => x.add s2.length) ax) (bvs (s2.drop N)) := by
      have h2 : Src w1 (Option.map (fun x => x.add N) ax) (bvs (s2.drop N)) := by
        rw [bvs_drop]
        exact (hsx.drop N).chg C1 (by simp)
      by_cases hN : s2.length ≤ N
      · rw [List.drop_of_length_le hN]; exact Src.empty _ _
      · have e1 : s2.length = N := by omega
        rw [if_neg (by omega), e1]; exact h2
    have C8 : (if kx = s2.length then ax else Option.map (fun x => x.add s2.length) ax) = none → kx - s2.length = 0 := by
      intro h
      by_cases hk : kx = s2.length
      · omega
      · rw [if_neg hk] at h
        have := hnx (by simpa using h)
        omega
    skip
    rcases Classical.em (kx = s2.length) with hkN | hkN
    · have hkN2 := hkN.symm
      subst hkN2
      clear hkN
      rw [if_pos rfl] at S8
      clear C8
      go_wp2_with (at_builtin; refine wpList_append_x _ rfl (.tmp 35) (.tmp 38) 27 rfl 5 i0 _ 1 1 Try.underlying27 hi hz0 hz1 hz2 rfl (by decide) (.slice none 0 0) 0 [] rfl (World.ownsRow_nil _ _ _ _) _ 0 _ (bvs (s2.drop N)) rfl (by simp [bvs_length]; try omega) S8 (fun _ => rfl) (bvs_one _) (by unfold maxLen; omega) (by omega) ?_)
      intro a2 c2 w2 o2 g2 hb2
      have C2 : Chg [] w1 w2 := Chg.grown g2 (by intro k hk; cases hk)
      have n2 : ∀ k, (Value.slice a2 (0 + 0) c2).ownBlock = some k → w1.heap.size ≤ k := by
        intro k hk
        rcases hb2 with h1 | h1 <;> (try simp only [Nat.zero_add] at h1 hk) <;> rw [h1] at hk
        · cases hk
        · have := Option.some.inj hk; omega
      have el : (s2.drop N).length = 0 + 0 := by simp; try omega
      have o2' : w2.ownsRow 0 5 1 (Value.slice a2 (0 + 0) c2) (s2.drop N).length (bvs (s2.drop N)) := by rw [el]; simpa using o2
      have bb := ((C1.trans C2 (by simp)).block b hbs (by simp)).trans hb
      have d0 : w2.cell? ⟨b, 1, none⟩ = some (.slice ax s2.length s2.length) := by rw [cell_of_row w2 b 1 _ _ _ bb]; rfl
      have df := frozen_of_row w2 b 1 _ _ bb
      obtain ⟨q1, q2⟩ := RefAt.put2 (L := ⟨s1, s2, e⟩) (s2.drop N) ⟨hb, ho0, ho1⟩ hd ((C1.trans C2 (by simp)).mono (by simp)) o2' (fun k hk => .inr (by have := n2 k hk; have := C1.size; omega))
      rw [← HF.out] at q2
      have el1 : (s2.take N).length = 0 + s2.length := by simp; try omega
      have o1' : w1.ownsRow 0 5 1 (Value.slice a1 s2.length c1) (s2.take N).length (bvs (s2.take N)) := by rw [el1]; simpa using o1
      have l1 := ownsRow_lt o1'
      have lo0 := ownsRow_lt ho0
      have lo1 := ownsRow_lt ho1
      simp only [Nat.zero_add] at q1 q2 n2
      have hmc : s2.length ≤ c1 := by
        obtain ⟨_, _, hv, hx, _⟩ := ownsRow_slice o1'
        simp only [Value.slice.injEq] at hv
        obtain ⟨_, h1, h2⟩ := hv
        rw [el1] at hx
        omega
      have hsz2 := C2.size
      have fin : RefTook w b F ((s2.take N, 0), ⟨s1, s2.drop N, e⟩) (.returned (.tuple #[.slice a1 s2.length c1, .int .i64 0])) (w2.setCell ⟨b, 1, none⟩ (.slice a2 0 c2)) := by
        refine ⟨a1, s2.length, c1, _, rfl, by rw [el1]; simp, hmc, ?_, q1, q2, ?_⟩
        · have h := ownsRow_chg (ownsRow_chg o1' C2 (by simp)) (Chg.setCell (S := [b]) w2 ⟨b, 1, none⟩ (.slice a2 0 c2) (.inl (by simp))) (by
            intro k hk hm
            have := n1 k hk
            simp at hm
            omega)
          rw [el1] at h
          simpa using h
        · intro a ha
          subst ha
          have h1 := n1 a.block rfl
          have h2 := l1 a.block rfl
          refine ⟨h1, fun hm => ?_, by simp only [World.size_setCell]; omega⟩
          simp only [List.mem_cons, List.mem_append, Option.mem_toList] at hm
          rcases hm with hm | hm | hm
          · omega
          · first | (have := n2 _ hm; omega) | (have := lo0 _ hm; omega)
          · first | (have := n2 _ hm; omega) | (have := lo1 _ hm; omega)
      have FIN := Lib.hid fin
      clear fin q1 q2 n2 o2' o2 hb2
      go_wp2_with fail
      refine (ref_set2 b _ _ _ _ _ d0 df).mono ?_
      rintro r w' ⟨rfl, rfl⟩
      go_wp2_with fail
      go_ret2
      exact FIN.out
    · rw [if_neg hkN] at S8 C8
      go_wp2_with (at_builtin; refine wpList_append_x _ rfl (.tmp 35) (.tmp 38) 27 rfl 5 i0 _ 1 1 Try.underlying27 hi hz0 hz1 hz2 rfl (by decide) (.slice none 0 0) 0 [] rfl (World.ownsRow_nil _ _ _ _) _ 0 _ (bvs (s2.drop N)) rfl (by simp [bvs_length]; try omega) S8 C8 (bvs_one _) (by unfold maxLen; omega) (by omega) ?_)
      intro a2 c2 w2 o2 g2 hb2
      have C2 : Chg [] w1 w2 := Chg.grown g2 (by intro k hk; cases hk)
      have n2 : ∀ k, (Value.slice a2 (0 + 0) c2).ownBlock = some k → w1.heap.size ≤ k := by
        intro k hk
        rcases hb2 with h1 | h1 <;> (try simp only [Nat.zero_add] at h1 hk) <;> rw [h1] at hk
        · cases hk
        · have := Option.some.inj hk; omega
      have el : (s2.drop N).length = 0 + 0 := by simp; try omega
      have o2' : w2.ownsRow 0 5 1 (Value.slice a2 (0 + 0) c2) (s2.drop N).length (bvs (s2.drop N)) := by rw [el]; simpa using o2
      have bb := ((C1.trans C2 (by simp)).block b hbs (by simp)).trans hb
      have d0 : w2.cell? ⟨b, 1, none⟩ = some (.slice ax s2.length kx) := by rw [cell_of_row w2 b 1 _ _ _ bb]; rfl
      have df := frozen_of_row w2 b 1 _ _ bb
      obtain ⟨q1, q2⟩ := RefAt.put2 (L := ⟨s1, s2, e⟩) (s2.drop N) ⟨hb, ho0, ho1⟩ hd ((C1.trans C2 (by simp)).mono (by simp)) o2' (fun k hk => .inr (by have := n2 k hk; have := C1.size; omega))
      rw [← HF.out] at q2
      have el1 : (s2.take N).length = 0 + s2.length := by simp; try omega
      have o1' : w1.ownsRow 0 5 1 (Value.slice a1 s2.length c1) (s2.take N).length (bvs (s2.take N)) := by rw [el1]; simpa using o1
      have l1 := ownsRow_lt o1'
      have lo0 := ownsRow_lt ho0
      have lo1 := ownsRow_lt ho1
      simp only [Nat.zero_add] at q1 q2 n2
      have hmc : s2.length ≤ c1 := by
        obtain ⟨_, _, hv, hx, _⟩ := ownsRow_slice o1'
        simp only [Value.slice.injEq] at hv
        obtain ⟨_, h1, h2⟩ := hv
        rw [el1] at hx
        omega
      have hsz2 := C2.size
      have fin : RefTook w b F ((s2.take N, 0), ⟨s1, s2.drop N, e⟩) (.returned (.tuple #[.slice a1 s2.length c1, .int .i64 0])) (w2.setCell ⟨b, 1, none⟩ (.slice a2 0 c2)) := by
        refine ⟨a1, s2.length, c1, _, rfl, by rw [el1]; simp, hmc, ?_, q1, q2, ?_⟩
        · have h := ownsRow_chg (ownsRow_chg o1' C2 (by simp)) (Chg.setCell (S := [b]) w2 ⟨b, 1, none⟩ (.slice a2 0 c2) (.inl (by simp))) (by
            intro k hk hm
            have := n1 k hk
            simp at hm
            omega)
          rw [el1] at h
          simpa using h
        · intro a ha
          subst ha
          have h1 := n1 a.block rfl
          have h2 := l1 a.block rfl
          refine ⟨h1, fun hm => ?_, by simp only [World.size_setCell]; omega⟩
          simp only [List.mem_cons, List.mem_append, Option.mem_toList] at hm
          rcases hm with hm | hm | hm
          · omega
          · first | (have := n2 _ hm; omega) | (have := lo0 _ hm; omega)
          · first | (have := n2 _ hm; omega) | (have := lo1 _ hm; omega)
      have FIN := Lib.hid fin
      clear fin q1 q2 n2 o2' o2 hb2
      go_wp2_with fail
      refine (ref_set2 b _ _ _ _ _ d0 df).mono ?_
      rintro r w' ⟨rfl, rfl⟩
      go_wp2_with fail
      go_ret2
      exact FIN.out
  · intro a1 c1 w1 o1 g1 hb1
    have C1 : Chg [] w w1 := Chg.grown g1 (by intro k hk; cases hk)
    have n1 : ∀ k, (Value.slice a1 N c1).ownBlock = some k → w.heap.size ≤ k := by
      intro k hk
      rcases hb1 with h1 | h1 <;> rw [h1] at hk
      · cases hk
      · have := Option.some.inj hk; omega
    have S8 : Src w1 (if kx = N then ax else Option.map (fun x => x.add N) ax) (bvs (s2.drop N)) := by
      have h2 : Src w1 (Option.map (fun x => x.add N) ax) (bvs (s2.drop N)) := by
        rw [bvs_drop]
        exact (hsx.drop N).chg C1 (by simp)
      by_cases hN : s2.length ≤ N
      · rw [List.drop_of_length_le hN]; exact Src.empty _ _
      · have e1 : N = N := by omega
        rw [if_neg (by omega), e1]; exact h2
    have C8 : (if kx = N then ax else Option.map (fun x => x.add N) ax) = none → kx - N = 0 := by
      intro h
      by_cases hk : kx = N
      · omega
      · rw [if_neg hk] at h
        have := hnx (by simpa using h)
        omega
    have hNle : (N : Int) ≤ (s2.length : Int) := by omega
    rcases Classical.em (kx = N) with hkN | hkN
    · have hkN2 := hkN.symm
      subst hkN2
      clear hkN
      rw [if_pos rfl] at S8
      clear C8
      go_wp2_with (at_builtin; refine wpList_append_x _ rfl (.tmp 35) (.tmp 38) 27 rfl 5 i0 _ 1 1 Try.underlying27 hi hz0 hz1 hz2 rfl (by decide) (.slice none 0 0) 0 [] rfl (World.ownsRow_nil _ _ _ _) _ 0 _ (bvs (s2.drop N)) rfl (by simp [bvs_length]; try omega) S8 (fun _ => rfl) (bvs_one _) (by unfold maxLen; omega) (by omega) ?_)
      intro a2 c2 w2 o2 g2 hb2
      have C2 : Chg [] w1 w2 := Chg.grown g2 (by intro k hk; cases hk)
      have n2 : ∀ k, (Value.slice a2 (0 + 0) c2).ownBlock = some k → w1.heap.size ≤ k := by
        intro k hk
        rcases hb2 with h1 | h1 <;> (try simp only [Nat.zero_add] at h1 hk) <;> rw [h1] at hk
        · cases hk
        · have := Option.some.inj hk; omega
      have el : (s2.drop N).length = 0 + 0 := by simp; try omega
      have o2' : w2.ownsRow 0 5 1 (Value.slice a2 (0 + 0) c2) (s2.drop N).length (bvs (s2.drop N)) := by rw [el]; simpa using o2
      have bb := ((C1.trans C2 (by simp)).block b hbs (by simp)).trans hb
      have d0 : w2.cell? ⟨b, 1, none⟩ = some (.slice ax s2.length N) := by rw [cell_of_row w2 b 1 _ _ _ bb]; rfl
      have df := frozen_of_row w2 b 1 _ _ bb
      obtain ⟨q1, q2⟩ := RefAt.put2 (L := ⟨s1, s2, e⟩) (s2.drop N) ⟨hb, ho0, ho1⟩ hd ((C1.trans C2 (by simp)).mono (by simp)) o2' (fun k hk => .inr (by have := n2 k hk; have := C1.size; omega))
      rw [← HF.out] at q2
      have el1 : (s2.take N).length = 0 + N := by simp; try omega
      have o1' : w1.ownsRow 0 5 1 (Value.slice a1 N c1) (s2.take N).length (bvs (s2.take N)) := by rw [el1]; simpa using o1
      have l1 := ownsRow_lt o1'
      have lo0 := ownsRow_lt ho0
      have lo1 := ownsRow_lt ho1
      simp only [Nat.zero_add] at q1 q2 n2
      have hmc : N ≤ c1 := by
        obtain ⟨_, _, hv, hx, _⟩ := ownsRow_slice o1'
        simp only [Value.slice.injEq] at hv
        obtain ⟨_, h1, h2⟩ := hv
        rw [el1] at hx
        omega
      have hsz2 := C2.size
      have fin : RefTook w b F ((s2.take N, 0), ⟨s1, s2.drop N, e⟩) (.returned (.tuple #[.slice a1 N c1, .int .i64 0])) (w2.setCell ⟨b, 1, none⟩ (.slice a2 0 c2)) := by
        refine ⟨a1, N, c1, _, rfl, by rw [el1]; simp, hmc, ?_, q1, q2, ?_⟩
        · have h := ownsRow_chg (ownsRow_chg o1' C2 (by simp)) (Chg.setCell (S := [b]) w2 ⟨b, 1, none⟩ (.slice a2 0 c2) (.inl (by simp))) (by
            intro k hk hm
            have := n1 k hk
            simp at hm
            omega)
          rw [el1] at h
          simpa using h
        · intro a ha
          subst ha
          have h1 := n1 a.block rfl
          have h2 := l1 a.block rfl
          refine ⟨h1, fun hm => ?_, by simp only [World.size_setCell]; omega⟩
          simp only [List.mem_cons, List.mem_append, Option.mem_toList] at hm
          rcases hm with hm | hm | hm
          · omega
          · first | (have := n2 _ hm; omega) | (have := lo0 _ hm; omega)
          · first | (have := n2 _ hm; omega) | (have := lo1 _ hm; omega)
      have FIN := Lib.hid fin
      clear fin q1 q2 n2 o2' o2 hb2
      go_wp2_with fail
      refine (ref_set2 b _ _ _ _ _ d0 df).mono ?_
      rintro r w' ⟨rfl, rfl⟩
      go_wp2_with fail
      go_ret2
      exact FIN.out
    · rw [if_neg hkN] at S8 C8
      go_wp2_with (at_builtin; refine wpList_append_x _ rfl (.tmp 35) (.tmp 38) 27 rfl 5 i0 _ 1 1 Try.underlying27 hi hz0 hz1 hz2 rfl (by decide) (.slice none 0 0) 0 [] rfl (World.ownsRow_nil _ _ _ _) _ (s2.length - N) _ (bvs (s2.drop N)) rfl (by simp [bvs_length]; try omega) S8 C8 (bvs_one _) (by unfold maxLen; omega) (by omega) ?_)
      intro a2 c2 w2 o2 g2 hb2
      have C2 : Chg [] w1 w2 := Chg.grown g2 (by intro k hk; cases hk)
      have n2 : ∀ k, (Value.slice a2 (0 + (s2.length - N)) c2).ownBlock = some k → w1.heap.size ≤ k := by
        intro k hk
        rcases hb2 with h1 | h1 <;> (try simp only [Nat.zero_add] at h1 hk) <;> rw [h1] at hk
        · cases hk
        · have := Option.some.inj hk; omega
      have el : (s2.drop N).length = 0 + (s2.length - N) := by simp; try omega
      have o2' : w2.ownsRow 0 5 1 (Value.slice a2 (0 + (s2.length - N)) c2) (s2.drop N).length (bvs (s2.drop N)) := by rw [el]; simpa using o2
      have bb := ((C1.trans C2 (by simp)).block b hbs (by simp)).trans hb
      have d0 : w2.cell? ⟨b, 1, none⟩ = some (.slice ax s2.length kx) := by rw [cell_of_row w2 b 1 _ _ _ bb]; rfl
      have df := frozen_of_row w2 b 1 _ _ bb
      obtain ⟨q1, q2⟩ := RefAt.put2 (L := ⟨s1, s2, e⟩) (s2.drop N) ⟨hb, ho0, ho1⟩ hd ((C1.trans C2 (by simp)).mono (by simp)) o2' (fun k hk => .inr (by have := n2 k hk; have := C1.size; omega))
      rw [← HF.out] at q2
      have el1 : (s2.take N).length = 0 + N := by simp; try omega
      have o1' : w1.ownsRow 0 5 1 (Value.slice a1 N c1) (s2.take N).length (bvs (s2.take N)) := by rw [el1]; simpa using o1
      have l1 := ownsRow_lt o1'
      have lo0 := ownsRow_lt ho0
      have lo1 := ownsRow_lt ho1
      simp only [Nat.zero_add] at q1 q2 n2
      have hmc : N ≤ c1 := by
        obtain ⟨_, _, hv, hx, _⟩ := ownsRow_slice o1'
        simp only [Value.slice.injEq] at hv
        obtain ⟨_, h1, h2⟩ := hv
        rw [el1] at hx
        omega
      have hsz2 := C2.size
      have fin : RefTook w b F ((s2.take N, 0), ⟨s1, s2.drop N, e⟩) (.returned (.tuple #[.slice a1 N c1, .int .i64 0])) (w2.setCell ⟨b, 1, none⟩ (.slice a2 (s2.length - N) c2)) := by
        refine ⟨a1, N, c1, _, rfl, by rw [el1]; simp, hmc, ?_, q1, q2, ?_⟩
        · have h := ownsRow_chg (ownsRow_chg o1' C2 (by simp)) (Chg.setCell (S := [b]) w2 ⟨b, 1, none⟩ (.slice a2 (s2.length - N) c2) (.inl (by simp))) (by
            intro k hk hm
            have := n1 k hk
            simp at hm
            omega)
          rw [el1] at h
          simpa using h
        · intro a ha
          subst ha
          have h1 := n1 a.block rfl
          have h2 := l1 a.block rfl
          refine ⟨h1, fun hm => ?_, by simp only [World.size_setCell]; omega⟩
          simp only [List.mem_cons, List.mem_append, Option.mem_toList] at hm
          rcases hm with hm | hm | hm
          · omega
          · first | (have := n2 _ hm; omega) | (have := lo0 _ hm; omega)
          · first | (have := n2 _ hm; omega) | (have := lo1 _ hm; omega)
      have FIN := Lib.hid fin
      clear fin q1 q2 n2 o2' o2 hb2
      go_wp2_with fail
      refine (ref_set2 b _ _ _ _ _ d0 df).mono ?_
      rintro r w' ⟨rfl, rfl⟩
      go_wp2_with fail
      go_ret2
      exact FIN.out

theorem ref_deliver_arg (b : Nat) (L : LinkS) (F : List Nat) (t n : Int) (w : World) (hL : RefAt w b L F) (hn : (t ≠ 1 ∧ t ≠ 2) ∨ n < 0) :
    Calls Try.prog 23 #[.pointer (some ⟨b, 0, none⟩), .int .i64 t, .int .i64 n] w (RefTook w b F (([], 2), L)) := by
  have fin : RefTook w b F (([], 2), L) (.returned (.tuple #[.slice none 0 0, .int .i64 2])) w :=
    ⟨none, 0, 0, F, rfl, rfl, Nat.le_refl _, World.ownsRow_nil _ _ _ _, hL, (hL.stay (Chg.refl [] w)).2, fun a ha => by cases ha⟩
  have FIN := Lib.hid fin
  clear fin
  by_cases h1 : t = 1
  · have h0 : n < 0 := by omega
    subst h1
    go_enter Try.func23, Try.ntmps23
    go_wp2_with fail
    go_ret2
    exact FIN.out
  by_cases h2 : t = 2
  · have h0 : n < 0 := by omega
    subst h2
    go_enter Try.func23, Try.ntmps23
    go_wp2_with fail
    go_ret2
    exact FIN.out
  have g1 : (t != 1) = true := by simpa [bne] using h1
  have g2 : (t != 2) = true := by simpa [bne] using h2
  go_enter Try.func23, Try.ntmps23
  go_wp2_with fail
  go_ret2
  exact FIN.out

theorem ref_deliver_x (b : Nat) (L : LinkS) (F : List Nat) (t n : Int) (x : (List UInt8 × Int) × LinkS) (hx : L.deliver t n = x) (w : World) (hL : RefAt w b L F) (hok : L.ok) :
    Calls Try.prog 23 #[.pointer (some ⟨b, 0, none⟩), .int .i64 t, .int .i64 n] w (RefTook w b F x) := by
  subst hx
  unfold LinkS.deliver
  by_cases h0 : 0 ≤ n
  · by_cases h1 : t = 1
    · subst h1
      simp only [h0, and_self, if_true]
      exact ref_deliver1 b L F n h0 w hL hok.1
    by_cases h2 : t = 2
    · subst h2
      simp only [h0, h1, and_self, if_true, and_true, if_false]
      exact ref_deliver2 b L F n h0 w hL hok.2.1
    rw [if_neg (by simp [h1]), if_neg (by simp [h2])]
    exact ref_deliver_arg b L F t n w hL (.inl ⟨h1, h2⟩)
  · rw [if_neg (by simp [h0]), if_neg (by simp [h0])]
    exact ref_deliver_arg b L F t n w hL (.inr (by omega))

end Go.Proofs.Ytehhnoanbdjgbaa
