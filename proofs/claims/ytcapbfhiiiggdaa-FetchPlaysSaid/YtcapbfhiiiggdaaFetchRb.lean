/- What New of the reference's fetch does to memory. No conditions beyond those that each statement types. -/
import Derived.Test.YtcapbfhiiiggdaaFetchRa
namespace Go.Proofs.Ytcapbfhiiiggdaa
open Go.RowKit

def nblk (n : Int) : RB := ⟨n, false, 0, []⟩
def bcs (l : List Int) : List Value := l.flatMap fun n => [.int .i64 n, .bool false, .int .i64 0, .slice none 0 0]
theorem bcs_cons (n : Int) (l : List Int) : bcs (n :: l) = .int .i64 n :: .bool false :: .int .i64 0 :: .slice none 0 0 :: bcs l := rfl
theorem bcs_append (a b : List Int) : bcs (a ++ b) = bcs a ++ bcs b := by simp [bcs]
theorem bcs_at : ∀ {l : List Int} {i : Nat} {n : Int}, l[i]? = some n → (bcs l)[i * 4]? = some (.int .i64 n) ∧ (bcs l)[i * 4 + 1]? = some (.bool false) ∧ (bcs l)[i * 4 + 2]? = some (.int .i64 0) ∧ (bcs l)[i * 4 + 3]? = some (.slice none 0 0)
  | [], i, n, h => by simp at h
  | x :: l, 0, n, h => by
    simp only [List.getElem?_cons_zero, Option.some.injEq] at h
    subst h
    exact ⟨rfl, rfl, rfl, rfl⟩
  | x :: l, i + 1, n, h => by
    rw [List.getElem?_cons_succ] at h
    have := bcs_at h
    rw [bcs_cons, show (i + 1) * 4 = i * 4 + 1 + 1 + 1 + 1 by omega]
    exact this
def RS.made (bs ps : List Int) : RS := ⟨bs.map nblk, ps⟩

theorem ownsRow_src4 {w : World} {B : Nat} {e : TypeId} {size : Nat} {ao : Option Addr} {n c : Nat} {xs : List Value} (h : w.ownsRow B e size (.slice ao n c) n xs) : Src w ao xs := by
  refine ⟨fun ha => ?_, fun a ha j u hu => ?_⟩
  · subst ha
    rcases h.2 with ⟨hv, hn⟩ | ⟨g, cap, cur, hv, _⟩
    · exact List.eq_nil_of_length_eq_zero (by rw [h.1, hn]; simp)
    · simp at hv
  · subst ha
    rcases h.2 with ⟨hv, hn⟩ | ⟨g, cap, cur, hv, _⟩
    · simp at hv
    · simp only [Value.slice.injEq, Option.some.injEq] at hv
      obtain ⟨rfl, _, _⟩ := hv
      exact h.cells (g := g) rfl j u hu

theorem RefAt.made {w : World} {Ad : Nat → Prop} {q N c : Nat} {a : Option Addr} {bs ps : List Int} {pv : Value} (hq : Ad q) (hN : bs.length = N) (hz : N = 0 → a = none) (hf : N ≤ 32) (head : w.heap[q]? = some (.cells #[.slice a N c, pv] 73 (0, 0)))
    (ho : w.ownsRow 0 75 4 (.slice a N c) N (bcs bs)) (hn : ∀ k, (Value.slice a N c).ownBlock = some k → Ad k ∧ k ≠ q)
    (hp : w.ownsRow 0 3 1 pv ps.length (ivs ps)) (hpn : ∀ k, pv.ownBlock = some k → Ad k ∧ k ≠ q ∧ (Value.slice a N c).ownBlock ≠ some k) : ∃ m, RefAt w Ad q (RS.made bs ps) m := by
  have hlen : (RS.made bs ps).bs.length = N := by simp [RS.made, hN]
  rcases ho.2 with ⟨hv, h0⟩ | ⟨g, cap, cur, hv, hg, hh, r⟩
  · subst h0
    have hb : (RS.made bs ps).bs = [] := List.eq_nil_of_length_eq_zero hlen
    refine ⟨⟨0, 0, fun _ => .slice none 0 0, pv⟩, hq, ?_, fun h => absurd hb h, fun i x hx => ?_, hp, fun h => absurd hb h, fun i k hi => ?_, fun i j k hi => ?_, fun k hk => ⟨(hpn k hk).1, (hpn k hk).2.1, fun h => absurd hb h⟩, fun i k hi => ?_, by rw [hlen]; omega⟩
    · rw [hlen]
      have : RM.bv ⟨0, 0, fun _ => .slice none 0 0, pv⟩ 0 = .slice a 0 c := by rw [hv]; rfl
      rw [this]; exact head
    · rw [hb] at hx; simp at hx
    · rw [hlen] at hi; omega
    · rw [hlen] at hi; omega
    · rw [hlen] at hi; omega
  · simp only [Value.slice.injEq] at hv
    obtain ⟨rfl, _, rfl⟩ := hv
    have hgn := hn g rfl
    have hgp : ∀ k, pv.ownBlock = some k → k ≠ g := fun k hk e => (hpn k hk).2.2 (by rw [e]; rfl)
    have hs := ownsRow_src4 ho
    have hcell : ∀ j u, (bcs bs)[j]? = some u → w.cell? ⟨g, j, none⟩ = some u := fun j u hu => by
      have := hs.cell _ rfl j u hu
      rw [addr_add0] at this
      exact this
    refine ⟨⟨g, c, fun _ => .slice none 0 0, pv⟩, hq, ?_, fun _ => ⟨_, hh⟩, fun i x hx => ?_, hp, fun _ => hgn, fun i k hi hk => (by cases hk), fun i j k hi hj hij hk => (by cases hk), fun k hk => ⟨(hpn k hk).1, (hpn k hk).2.1, fun _ => hgp k hk⟩, fun i k hi hk => (by cases hk), by rw [hlen]; omega⟩
    · rw [hlen]
      by_cases h0 : N = 0
      · have := hz h0
        cases this
      · have : RM.bv ⟨g, c, fun _ => .slice none 0 0, pv⟩ N = .slice (some ⟨g, 0, none⟩) N c := by unfold RM.bv; rw [if_neg h0]
        rw [this]; exact head
    · have hx' : (bs.map nblk)[i]? = some x := hx
      rw [List.getElem?_map] at hx'
      obtain ⟨n, hn1, rfl⟩ := Option.map_eq_some_iff.1 hx'
      obtain ⟨b0, b1, b2, b3⟩ := bcs_at hn1
      exact ⟨hcell _ _ b0, hcell _ _ b1, hcell _ _ b2, hcell _ _ b3, World.ownsRow_nil _ _ _ _⟩

theorem Try.infoBlk : (Try.prog.info? 75).map (fun i => (i.zero, i.size, i.bytes)) = some (some (.agg #[.int .i64 0, .bool false, .int .i64 0, .slice none 0 0]), 4, 48) := by kernel_rfl

theorem src_one_blk {wr : World} {x : Int} : Src (wr.alloc (Obj.cells #[.int .i64 x, .bool false, .int .i64 0, .slice none 0 0] 75)) (some ⟨wr.heap.size, 0, none⟩) (bcs [x]) := by
  have hnx := heap_alloc_new wr (Obj.cells #[.int .i64 x, .bool false, .int .i64 0, .slice none 0 0] 75)
  refine ⟨fun h => by (cases h), fun q hq j u hu => ?_⟩
  cases hq
  rw [addr_add0, cell_of_row _ _ _ _ _ _ hnx]
  have e : bcs [x] = [.int .i64 x, .bool false, .int .i64 0, .slice none 0 0] := rfl
  rw [e] at hu
  simpa using hu
theorem bcs_one (l : List Int) : ∀ u ∈ bcs l, u.oneCell' = true := by
  intro u hu
  obtain ⟨p, _, h⟩ := List.mem_flatMap.1 hu
  simp at h
  rcases h with rfl | rfl | rfl | rfl <;> rfl

/-- What New leaves. -/
def RNewed (bs ps : List Int) (w : World) (r : Ending) (w' : World) : Prop :=
  if rises bs 0 31 && rises ps 1 16 then ∃ q m, r = .returned (.tuple #[.pointer (some ⟨q, 0, none⟩), .int .i64 0]) ∧ RefAt w' (fun k => w.heap.size ≤ k) q (RS.made bs ps) m ∧ Chg [] w w'
  else r = .returned (.tuple #[.pointer none, .int .i64 2]) ∧ Chg [] w w'

set_option maxRecDepth 100000 in
set_option maxHeartbeats 8000000 in
theorem ref_new (bs ps : List Int) (bo po : Option Addr) (bc pc : Nat) (w : World) (hb : Src w bo (ivs bs)) (hp : Src w po (ivs ps)) (hbl : bs.length ≤ 9223372036854775807) (hpl : ps.length ≤ 9223372036854775807) (hpc : po = none → pc = 0)
    (hfew : rises bs 0 31 = true → bs.length ≤ 32) (hpew : rises ps 1 16 = true → ps.length ≤ 1000) :
    Calls Try.prog 17 #[.slice bo bs.length bc, .slice po ps.length pc] w (RNewed bs ps w) := by
  have k1 := ref_rises bs bo bc 0 31 w hb (by omega) (by omega) hbl
  have k2 := fun w' (C : Chg [] w w') => ref_rises ps po pc 1 16 w' (hp.chg C (by simp)) (by omega) (by omega) hpl
  cases h1 : rises bs 0 31 with
  | false =>
    have HR : Hid (∀ r w', (r = .returned (.tuple #[.pointer none, .int .i64 2]) ∧ Chg [] w w') → RNewed bs ps w r w') := Lib.hid (fun r w' h => by unfold RNewed; rw [h1]; exact h)
    rw [h1] at k1
    obtain ⟨N, hN⟩ : ∃ N, bs.length = N := ⟨_, rfl⟩
    obtain ⟨M, hM⟩ : ∃ N, ps.length = N := ⟨_, rfl⟩
    rw [hN] at k1 ⊢
    rw [hM]
    clear h1 hN hM k2 hb hp hbl hpl hfew hpew
    go_enter Try.func17, Try.ntmps17
    go_wp2_with fail
    refine k1.mono ?_
    rintro r w' ⟨rfl, n, rfl⟩
    go_wp2_with fail
    go_ret2
    exact HR.out _ _ ⟨rfl, Chg.drewN [] w n⟩
  | true =>
    rw [h1] at k1
    cases h2 : rises ps 1 16 with
    | false =>
      have HR : Hid (∀ r w', (r = .returned (.tuple #[.pointer none, .int .i64 2]) ∧ Chg [] w w') → RNewed bs ps w r w') := Lib.hid (fun r w' h => by unfold RNewed; rw [h1, h2]; exact h)
      rw [h2] at k2
      obtain ⟨N, hN⟩ : ∃ N, bs.length = N := ⟨_, rfl⟩
      obtain ⟨M, hM⟩ : ∃ N, ps.length = N := ⟨_, rfl⟩
      rw [hN] at k1 ⊢
      rw [hM] at k2 ⊢
      have K2 := Lib.hid k2
      clear h1 h2 hN hM hb hp hbl hpl hfew hpew k2
      go_enter Try.func17, Try.ntmps17
      go_wp2_with fail
      refine k1.mono ?_
      rintro r w' ⟨rfl, n, rfl⟩
      go_wp2_with fail
      refine (K2.out _ (Chg.drewN [] w n)).mono ?_
      rintro r w' ⟨rfl, n2, rfl⟩
      go_wp2_with fail
      go_ret2
      exact HR.out _ _ ⟨rfl, Chg.drewN [] w (n + n2)⟩
    | true =>
      have HR : Hid (∀ r w', (∃ q m, r = .returned (.tuple #[.pointer (some ⟨q, 0, none⟩), .int .i64 0]) ∧ RefAt w' (fun k => w.heap.size ≤ k) q (RS.made bs ps) m ∧ Chg [] w w') → RNewed bs ps w r w') := Lib.hid (fun r w' h => by unfold RNewed; rw [h1, h2]; exact h)
      rw [h2] at k2
      have hN32 := hfew h1
      have hM16 := hpew h2
      obtain ⟨N, hN⟩ : ∃ N, bs.length = N := ⟨_, rfl⟩
      obtain ⟨M, hM⟩ : ∃ N, ps.length = N := ⟨_, rfl⟩
      rw [hN] at k1 hN32 ⊢
      rw [hM] at k2 hM16 ⊢
      have K2 := Lib.hid k2
      have HN := Lib.hid hN
      have HM := Lib.hid hM
      obtain ⟨i0, hi0, hz0, hz1, hz2⟩ := info_parts Try.infoBlk
      obtain ⟨i1, hi1, hy0, hy1, hy2⟩ := info_parts Try.infoInt
      clear h1 h2 hN hM hbl hpl hfew hpew k2
      go_enter Try.func17, Try.ntmps17
      go_wp2_with fail
      refine k1.mono ?_
      rintro r w' ⟨rfl, n, rfl⟩
      go_wp2_with fail
      refine (K2.out _ (Chg.drewN [] w n)).mono ?_
      rintro r w' ⟨rfl, n2, rfl⟩
      go_upto_region 4 with (fail)
      have hnx := heap_alloc_new (w.drewN (n + n2)) (Obj.cells #[.slice none 0 0, .slice none 0 0] 73)
      have C0 := (Chg.drewN [] w (n + n2)).trans (Chg.alloc [] (w.drewN (n + n2)) (Obj.cells #[.slice none 0 0, .slice none 0 0] 73)) (by simp)
      generalize (w.drewN (n + n2)).alloc (Obj.cells #[.slice none 0 0, .slice none 0 0] 73) = w0 at *
      obtain ⟨q, hq⟩ : ∃ q, w.heap.size = q := ⟨_, rfl⟩
      have hq' : (w.drewN (n + n2)).heap.size = q := hq
      rw [hq'] at hnx
      rw [hq]
      have HQ := Lib.hid hq
      clear hq hq' k1
      go_wp2_with fail
      go_loopw [7] (fun i wr => ∃ (k c : Nat) (a : Option Addr), i = .int .i64 k ∧ k ≤ N ∧ wr.heap[q]? = some (.cells #[.slice a k c, .slice none 0 0] 73 (0, 0)) ∧ wr.ownsRow 0 75 4 (.slice a k c) k (bcs (bs.take k)) ∧ (∀ g, (Value.slice a k c).ownBlock = some g → q < g) ∧ (k = 0 → a = none) ∧ Chg [] w wr) (fun i _ => N - (intOf i).toNat)
      case atStart => exact ⟨0, 0, none, rfl, by omega, hnx, World.ownsRow_nil _ _ _ _, fun g hg => (by cases hg), fun _ => rfl, C0⟩
      case round =>
        clear hnx C0
        obtain ⟨k, c, a, rfl, hk, hrow, ho, hnew, hz, C⟩ := hrel
        have c0 : wr.cell? ⟨q, 0, none⟩ = some (.slice a k c) := by rw [cell_of_row _ _ 0 _ _ _ hrow]; rfl
        have c1 : wr.cell? ⟨q, 1, none⟩ = some (.slice none 0 0) := by rw [cell_of_row _ _ 1 _ _ _ hrow]; rfl
        have f0 : wr.frozen? ⟨q, 0, none⟩ = false := frozen_of_row _ _ _ _ _ hrow
        have f1 : wr.frozen? ⟨q, 1, none⟩ = false := frozen_of_row _ _ _ _ _ hrow
        have qlt := lt_of_block hrow
        by_cases hlt : k < N
        · have hlt' : (k : Int) < N := by omega
          have hk0 : (0 : Int) ≤ k := by omega
          obtain ⟨ad, y, rfl, hy, cy⟩ := ivs_src_at (hb.chg C (by simp)) (k := k) (by rw [HN.out]; exact hlt)
          have hy2' := List.getElem?_eq_some_iff.1 hy
          have HT : Hid (bcs (bs.take (k + 1)) = bcs (bs.take k) ++ bcs [y]) := Lib.hid (by
            obtain ⟨h1, h2⟩ := hy2'
            rw [List.take_succ_eq_append_getElem h1, bcs_append, h2])
          have QS : Hid (∀ w2, Chg (Value.slice a k c).ownBlock.toList wr w2 → w2.heap[q]? = some (.cells #[.slice a k c, .slice none 0 0] 73 (0, 0))) := Lib.hid (fun w2 D => (D.block q qlt (fun hm => by
            have := hnew q (by simpa using hm)
            omega)).trans hrow)
          have HNEW := Lib.hid hnew
          have HROW := Lib.hid hrow
          have n1 := World.cell?_alloc_lt wr (.cells #[.int .i64 y, .bool false, .int .i64 0, .slice none 0 0] 75) ⟨q, 0, none⟩ qlt
          have n2' := World.cell?_alloc_lt wr (.cells #[.int .i64 y, .bool false, .int .i64 0, .slice none 0 0] 75) (ad.add k) (World.block_lt_of_cell? _ _ cy)
          clear hy hy2' hrow hnew hz
          go_wp2_with fail
          go_region_law (refine step_append_x _ rfl _ _ 71 rfl 75 i0 _ 4 48 Try.underlying71 hi0 hz0 hz1 hz2 rfl (by decide) (.slice a k c) k (bcs (bs.take k)) rfl (ownsRow_chg ho ((Chg.drewN [] _ 1).trans (Chg.alloc [] _ _) (by simp)) (by simp)) (some ⟨wr.heap.size, 0, none⟩) 1 1 (bcs [y]) rfl rfl (src_one_blk (wr := wr.drewN 1)) (fun h => by cases h) (bcs_one _) (by unfold maxLen; omega) (by omega) ?_; intro ao2 cap2 w2 hown2 hgr2 hblk2; have D2 := app_chg hgr2; have R2 := QS.out w2 D2; have p1 : w2.cell? ⟨q, 0, none⟩ = some (.slice a k c) := (by rw [cell_of_row _ _ 0 _ _ _ R2]; rfl); have p2 : w2.frozen? ⟨q, 0, none⟩ = false := frozen_of_row _ _ _ _ _ R2)
          all_goals
            go_wp2_with fail
            go_roundw
            case rel =>
              have hgt : ∀ g, (Value.slice ao2 (k + 1) cap2).ownBlock = some g → q < g := fun g hg => by
                rcases hblk2 with e | e
                · rw [e] at hg; exact HNEW.out g hg
                · rw [e] at hg
                  have := Option.some.inj hg
                  (try simp at this)
                  omega
              have CS := Chg.setCell (S := [q]) w2 ⟨q, 0, none⟩ (.slice ao2 (k + 1) cap2) (.inl (by simp))
              exact ⟨k + 1, cap2, ao2, by go_num, by omega, heap_setCell_same w2 q 0 _ _ _ R2, by rw [HT.out]; exact ownsRow_chg hown2 CS (fun g hg hm => by have := hgt g hg; simp at hm; omega), hgt, fun h => by omega,
                (C.trans D2 (fun g hg => .inr (by have := HNEW.out g (by simpa using hg); have := HQ.out; omega))).trans CS (fun g hg => .inr (by simp at hg; have := HQ.out; omega))⟩
            case measure => simp [intOf]; omega
        · have hkn : k = N := by omega
          subst hkn
          have ht : bs.take k = bs := List.take_of_length_le (by rw [HN.out]; exact Nat.le_refl _)
          rw [ht] at ho
          have hsrc := hp.chg C (by simp)
          have HNEW := Lib.hid hnew
          have HROW := Lib.hid hrow
          have HZ := Lib.hid hz
          clear hrow hnew hz ht
          go_wp2_with (at_builtin; refine wpList_append_x _ rfl _ _ 24 rfl 3 i1 _ 1 8 Try.underlying24 hi1 hy0 hy1 hy2 rfl (by decide) (.slice none 0 0) 0 [] rfl (World.ownsRow_nil _ _ _ _) po M pc (ivs ps) rfl (by rw [ivs_length, HM.out]; omega) hsrc hpc (ivs_one _) (by unfold maxLen; omega) (by omega) ?_)
          intro ao2 cap2 w2 hown2 hgr2 hblk2
          have D2 : Chg [] wr w2 := Chg.grown hgr2 (fun g hg => by cases hg)
          have R2 := (D2.block q qlt (by simp)).trans HROW.out
          have p1 : w2.cell? ⟨q, 1, none⟩ = some (.slice none 0 0) := by rw [cell_of_row _ _ 1 _ _ _ R2]; rfl
          have p2 : w2.frozen? ⟨q, 1, none⟩ = false := frozen_of_row _ _ _ _ _ R2
          have CS := Chg.setCell (S := [q]) w2 ⟨q, 1, none⟩ (.slice ao2 M cap2) (.inl (by simp))
          have hgt : ∀ g, (Value.slice ao2 M cap2).ownBlock = some g → wr.heap.size ≤ g := fun g hg => by
            rcases hblk2 with e | e
            · rw [e] at hg; cases hg
            · rw [e] at hg
              have := Option.some.inj hg
              omega
          have hfin : ∃ m, RefAt (w2.setCell ⟨q, 1, none⟩ (.slice ao2 M cap2)) (fun k => w.heap.size ≤ k) q (RS.made bs ps) m := by
            refine RefAt.made (by show w.heap.size ≤ q; have := HQ.out; omega) HN.out HZ.out hN32 (heap_setCell_same w2 q 1 _ _ _ R2) (ownsRow_chg (ownsRow_chg ho D2 (by simp)) CS (fun g hg hm => by have := HNEW.out g hg; simp at hm; omega)) (fun g hg => by have := HNEW.out g hg; have := HQ.out; exact ⟨by show w.heap.size ≤ g; omega, by omega⟩)
              (ownsRow_chg (n := ps.length) (by rw [HM.out]; simpa using hown2) CS (fun g hg hm => by have := hgt g hg; simp at hm; omega)) (fun g hg => by
                have h1 := hgt g hg
                refine ⟨by show w.heap.size ≤ g; have := HQ.out; omega, by omega, fun h2 => ?_⟩
                have := ownsRow_lt ho g h2
                omega)
          have HFIN := Lib.hid hfin
          have CF := Lib.hid ((C.trans D2 (by simp)).trans CS (fun g hg => .inr (by simp at hg; have := HQ.out; omega)))
          clear hfin hgt hown2 hgr2 hblk2 R2 ho
          go_wp2_with fail
          go_ret2
          obtain ⟨m, hm⟩ := HFIN.out
          exact HR.out _ _ ⟨q, m, rfl, by simpa using hm, by simpa using CF.out⟩
end Go.Proofs.Ytcapbfhiiiggdaa
