/- The reference's element, walked. No conditions beyond those that each statement types. -/
import Derived.Test.YtnbeamggbehclaaGlobW
namespace Go.Proofs.Ytnbeamggbehclaa
open Go.RowKit

theorem rtook_store {w wx wz : World} {g n c : Nat} {a : Option Addr} {x : El} {r : List UInt8} (hg : w.heap.size = g) (C : Chg [] w wx) (H : RgAt (g + 1) wx a n c x.rs) (C2 : Chg [g] wx wz) :
    RTook w (some (x, r)) (.returned (.tuple #[.agg (elC x a n c), .string (bs r), .bool true])) wz :=
  ⟨C.trans C2 (fun k hk => by simp at hk; right; omega), _, _, _, rfl, (H.chg C2 (fun k hk => by simp at hk; omega)).low (by omega)⟩
theorem rtook_none {w wx wz : World} {g n c : Nat} {a : Option Addr} {x : El} {t : ByteArray} (hg : w.heap.size = g) (C : Chg [] w wx) (C2 : Chg [g] wx wz) :
    RTook w none (.returned (.tuple #[.agg (elC x a n c), .string t, .bool false])) wz :=
  ⟨C.trans C2 (fun k hk => by simp at hk; right; omega), _, _, _, _, _, rfl⟩
theorem chg_draw_row (w : World) (g : Nat) (cs : Array Value) : Chg [g] w ((w.drewN 1).setRow g cs) := (Chg.drewN [g] w 1).trans (Chg.setRow (S := [g]) _ _ _ (.inl (by simp))) (fun _ hk => .inl hk)
theorem chg_row (w : World) (g : Nat) (cs : Array Value) : Chg [g] w (w.setRow g cs) := Chg.setRow (S := [g]) _ _ _ (.inl (by simp))

set_option maxRecDepth 100000 in
set_option maxHeartbeats 8000000 in
theorem ref_element (l : List UInt8) (h0 : 0 < l.length) (hl : l.length ≤ 1000) (w : World) : Calls Try.prog 28 #[.string (bs l)] w (RTook w (elem1 l)) := by
  have K1 := Lib.hid (ref_begins (bs l) ⟨#[42, 42]⟩)
  have e1 : (⟨#[42, 42]⟩ : ByteArray).data.toList = [42, 42] := rfl
  rw [e1, bs_data] at K1
  have KC := Lib.hid (fun t ht w => ref_class t ht w)
  have KW := Lib.hid (fun t ht w => ref_written t ht w)
  obtain ⟨RES, hRES⟩ : ∃ RES, elem1 l = RES := ⟨_, rfl⟩
  rw [hRES]
  unfold elem1 at hRES
  obtain ⟨P, hP⟩ : ∃ P, pre [42, 42] l = P := ⟨_, rfl⟩
  have HP := Lib.hid hP
  rw [hP] at K1 hRES
  obtain ⟨s, hs⟩ : ∃ s, bs l = s := ⟨_, rfl⟩
  have hsz : s.size = l.length := by rw [← hs]; rfl
  have HSZ := Lib.hid hsz
  have h0s : 0 < s.size := by omega
  obtain ⟨t1, ht1⟩ : ∃ t1, l.drop 1 = t1 := ⟨_, rfl⟩
  obtain ⟨t2, ht2⟩ : ∃ t2, l.drop 2 = t2 := ⟨_, rfl⟩
  have hc1 : s.extract 1 s.size = bs t1 := by show cutB s 1 = _; rw [← hs, bs_cut, ht1]
  have HC2 : Hid (s.extract 2 s.size = bs t2) := Lib.hid (by show cutB s 2 = _; rw [← hs, bs_cut, ht2])
  have ht1l : t1.length ≤ 1000 := by rw [← ht1, List.length_drop]; omega
  rw [ht1, ht2] at hRES
  have hb0 := bs_get hs 0 h0s
  rw [← hb0] at hRES
  have HS := Lib.hid hs
  rw [hs] at K1 ⊢
  have h0' : (0 : Int) < s.size := by omega
  have h1' : (1 : Int) ≤ s.size := by omega
  have ne : ∀ n : UInt8, s[0] = n ↔ (s[0].toNat : Int) = n.toNat := fun n => by rw [u8_eq]; omega
  have n42 : (42 : UInt8).toNat = 42 := rfl
  have n63 : (63 : UInt8).toNat = 63 := rfl
  have n47 : (47 : UInt8).toNat = 47 := rfl
  have n91 : (91 : UInt8).toNat = 91 := rfl
  clear hP hs hsz hb0 e1 ht1 ht2
  have hx := heap_alloc_new w (.cells #[.int .i64 0, .int .u8 0, .bool false, .slice none 0 0] 53)
  have C1 := Chg.alloc [] w (.cells #[.int .i64 0, .int .u8 0, .bool false, .slice none 0 0] 53)
  have HS1 := Lib.hid (show (w.alloc (.cells #[.int .i64 0, .int .u8 0, .bool false, .slice none 0 0] 53)).heap.size = w.heap.size + 1 by simp)
  go_enter Try.func28, Try.ntmps28
  go_upto_region 1 with (fail)
  generalize w.alloc (.cells #[.int .i64 0, .int .u8 0, .bool false, .slice none 0 0] 53) = w1 at *
  obtain ⟨g, hg⟩ : ∃ g, w.heap.size = g := ⟨_, rfl⟩
  rw [hg] at hx HS1 ⊢
  have HG := Lib.hid hg
  clear hg
  go_wp2_with fail
  refine (K1.out _).mono ?_
  rintro e w1' ⟨rfl, rfl⟩
  clear K1
  rcases P with _ | _
  case true =>
    rw [if_pos rfl] at hRES
    have hlen := pre_len HP.out
    have h2' : (2 : Int) ≤ s.size := by have := HSZ.out; simp at hlen; omega
    have hc2 := HC2.out
    subst hRES
    clear hlen ne
    go_upto_region 2 with (fail)
    refine wp_region_any (by kernel_rfl) ?_
    try (change wpAny _ _ _ _ _ _ _ (World.drew _))
    refine' wpAny_take (i := 0) (v := _) rfl (by kernel_rfl) (by kernel_rfl) (by kernel_rfl) (fun _ _ _ h => h) (Or.inl ⟨by rfl, ?hys10⟩) ?rests10
    case hys10 =>
      intro w
      go_simp
      try with_reducible rfl
    (try simp only [Act.put, List.getElem_toArray, List.getElem_cons_zero, List.setIfInBounds_toArray, List.set_cons_zero, List.set_cons_succ])
    refine' wpAny_take (i := 1) (v := _) rfl (by kernel_rfl) (by kernel_rfl) (by kernel_rfl) (fun _ _ _ h => h) (Or.inl ⟨by rfl, ?hys11⟩) ?rests11
    case hys11 =>
      intro w
      go_simp
      try with_reducible rfl
    (try simp only [Act.put, List.getElem_toArray, List.getElem_cons_succ, List.getElem_cons_zero, List.setIfInBounds_toArray, List.set_cons_zero, List.set_cons_succ])
    refine' wpAny_take (i := 2) (v := _) rfl (by kernel_rfl) (by kernel_rfl) (by kernel_rfl) (fun _ _ _ h => h) (Or.inl ⟨by rfl, ?hys12⟩) ?rests12
    case hys12 =>
      intro w
      go_simp
      try with_reducible rfl
    (try simp only [Act.put, List.getElem_toArray, List.getElem_cons_succ, List.getElem_cons_zero, List.setIfInBounds_toArray, List.set_cons_zero, List.set_cons_succ])
    refine wpAny_ready (rs := [3]) (by kernel_rfl) (by simp) (AllReady.cons rfl (fun K hK => ?_) AllReady.nil)
    refine step_store_x _ rfl 53 (.tmp 2) (.tmp 10) rfl _ (store_elr _ g _ (.all) none 0 0 hx rfl) ?_
    refine hK _ _ ?_
    clear hK K
    refine' wpAny_take (i := 4) (v := _) rfl (by kernel_rfl) (by kernel_rfl) (by kernel_rfl) (fun _ _ _ h => h) (Or.inl ⟨by rfl, ?hyu14⟩) ?restu14
    case hyu14 =>
      intro w
      go_simp
      try with_reducible rfl
    (try simp only [Act.put, List.getElem_toArray, List.getElem_cons_succ, List.getElem_cons_zero, List.setIfInBounds_toArray, List.set_cons_zero, List.set_cons_succ])
    refine' wpAny_take (i := 5) (v := _) rfl (by kernel_rfl) (by kernel_rfl) (by kernel_rfl) (fun _ _ _ h => h) (Or.inl ⟨by rfl, ?hyu15⟩) ?restu15
    case hyu15 =>
      intro w
      go_simp
      try with_reducible rfl
    (try simp only [Act.put, List.getElem_toArray, List.getElem_cons_succ, List.getElem_cons_zero, List.setIfInBounds_toArray, List.set_cons_zero, List.set_cons_succ])
    refine wpAny_done (by kernel_rfl) ?_ _
    go_wp2_with fail
    exact bodyPost_ret (results_elr rfl _ _ g _ _ (.all) none 0 0 (.string (bs t2)) (.bool true) rfl rfl rfl (setRow_heap _ g _ _ _ _ hx)) rfl (rtook_store HG.out C1 (RgAt.none _ _) (chg_draw_row _ _ _))
  case false =>
  rw [if_neg (by simp)] at hRES
  by_cases h42 : s[0] = 42
  · rw [if_pos h42] at hRES
    have b42 : ((s[0].toNat : Int) == 42) = true := beq_iff_eq.2 (by have := (ne 42).1 h42; omega)
    subst hRES
    clear h42 ne
    go_upto_region 4 with (fail)
    refine wp_region_any (by kernel_rfl) ?_
    try (change wpAny _ _ _ _ _ _ _ (World.drew _))
    refine' wpAny_take (i := 0) (v := _) rfl (by kernel_rfl) (by kernel_rfl) (by kernel_rfl) (fun _ _ _ h => h) (Or.inl ⟨by rfl, ?hys20⟩) ?rests20
    case hys20 =>
      intro w
      go_simp
      try with_reducible rfl
    (try simp only [Act.put, List.getElem_toArray, List.getElem_cons_zero, List.setIfInBounds_toArray, List.set_cons_zero, List.set_cons_succ])
    refine' wpAny_take (i := 1) (v := _) rfl (by kernel_rfl) (by kernel_rfl) (by kernel_rfl) (fun _ _ _ h => h) (Or.inl ⟨by rfl, ?hys21⟩) ?rests21
    case hys21 =>
      intro w
      go_simp
      try with_reducible rfl
    (try simp only [Act.put, List.getElem_toArray, List.getElem_cons_succ, List.getElem_cons_zero, List.setIfInBounds_toArray, List.set_cons_zero, List.set_cons_succ])
    refine' wpAny_take (i := 2) (v := _) rfl (by kernel_rfl) (by kernel_rfl) (by kernel_rfl) (fun _ _ _ h => h) (Or.inl ⟨by rfl, ?hys22⟩) ?rests22
    case hys22 =>
      intro w
      go_simp
      try with_reducible rfl
    (try simp only [Act.put, List.getElem_toArray, List.getElem_cons_succ, List.getElem_cons_zero, List.setIfInBounds_toArray, List.set_cons_zero, List.set_cons_succ])
    refine wpAny_ready (rs := [3]) (by kernel_rfl) (by simp) (AllReady.cons rfl (fun K hK => ?_) AllReady.nil)
    refine step_store_x _ rfl 53 (.tmp 2) (.tmp 16) rfl _ (store_elr _ g _ (.some) none 0 0 hx rfl) ?_
    refine hK _ _ ?_
    clear hK K
    refine' wpAny_take (i := 4) (v := _) rfl (by kernel_rfl) (by kernel_rfl) (by kernel_rfl) (fun _ _ _ h => h) (Or.inl ⟨by rfl, ?hyu24⟩) ?restu24
    case hyu24 =>
      intro w
      go_simp
      try with_reducible rfl
    (try simp only [Act.put, List.getElem_toArray, List.getElem_cons_succ, List.getElem_cons_zero, List.setIfInBounds_toArray, List.set_cons_zero, List.set_cons_succ])
    refine' wpAny_take (i := 5) (v := _) rfl (by kernel_rfl) (by kernel_rfl) (by kernel_rfl) (fun _ _ _ h => h) (Or.inl ⟨by rfl, ?hyu25⟩) ?restu25
    case hyu25 =>
      intro w
      go_simp
      try with_reducible rfl
    (try simp only [Act.put, List.getElem_toArray, List.getElem_cons_succ, List.getElem_cons_zero, List.setIfInBounds_toArray, List.set_cons_zero, List.set_cons_succ])
    refine wpAny_done (by kernel_rfl) ?_ _
    go_wp2_with fail
    exact bodyPost_ret (results_elr rfl _ _ g _ _ (.some) none 0 0 (.string (bs t1)) (.bool true) rfl rfl rfl (setRow_heap _ g _ _ _ _ hx)) rfl (rtook_store HG.out C1 (RgAt.none _ _) (chg_draw_row _ _ _))
  rw [if_neg h42] at hRES
  have b42 : ((s[0].toNat : Int) == 42) = false := beq_eq_false_iff_ne.2 (fun h => h42 ((ne 42).2 (by omega)))
  by_cases h63 : s[0] = 63
  · rw [if_pos h63] at hRES
    have b63 : ((s[0].toNat : Int) == 63) = true := beq_iff_eq.2 (by have := (ne 63).1 h63; omega)
    subst hRES
    clear h63 ne
    go_upto_region 6 with (fail)
    refine wp_region_any (by kernel_rfl) ?_
    try (change wpAny _ _ _ _ _ _ _ (World.drew _))
    refine' wpAny_take (i := 0) (v := _) rfl (by kernel_rfl) (by kernel_rfl) (by kernel_rfl) (fun _ _ _ h => h) (Or.inl ⟨by rfl, ?hys30⟩) ?rests30
    case hys30 =>
      intro w
      go_simp
      try with_reducible rfl
    (try simp only [Act.put, List.getElem_toArray, List.getElem_cons_zero, List.setIfInBounds_toArray, List.set_cons_zero, List.set_cons_succ])
    refine' wpAny_take (i := 1) (v := _) rfl (by kernel_rfl) (by kernel_rfl) (by kernel_rfl) (fun _ _ _ h => h) (Or.inl ⟨by rfl, ?hys31⟩) ?rests31
    case hys31 =>
      intro w
      go_simp
      try with_reducible rfl
    (try simp only [Act.put, List.getElem_toArray, List.getElem_cons_succ, List.getElem_cons_zero, List.setIfInBounds_toArray, List.set_cons_zero, List.set_cons_succ])
    refine' wpAny_take (i := 2) (v := _) rfl (by kernel_rfl) (by kernel_rfl) (by kernel_rfl) (fun _ _ _ h => h) (Or.inl ⟨by rfl, ?hys32⟩) ?rests32
    case hys32 =>
      intro w
      go_simp
      try with_reducible rfl
    (try simp only [Act.put, List.getElem_toArray, List.getElem_cons_succ, List.getElem_cons_zero, List.setIfInBounds_toArray, List.set_cons_zero, List.set_cons_succ])
    refine wpAny_ready (rs := [3]) (by kernel_rfl) (by simp) (AllReady.cons rfl (fun K hK => ?_) AllReady.nil)
    refine step_store_x _ rfl 53 (.tmp 2) (.tmp 22) rfl _ (store_elr _ g _ (.any) none 0 0 hx rfl) ?_
    refine hK _ _ ?_
    clear hK K
    refine' wpAny_take (i := 4) (v := _) rfl (by kernel_rfl) (by kernel_rfl) (by kernel_rfl) (fun _ _ _ h => h) (Or.inl ⟨by rfl, ?hyu34⟩) ?restu34
    case hyu34 =>
      intro w
      go_simp
      try with_reducible rfl
    (try simp only [Act.put, List.getElem_toArray, List.getElem_cons_succ, List.getElem_cons_zero, List.setIfInBounds_toArray, List.set_cons_zero, List.set_cons_succ])
    refine' wpAny_take (i := 5) (v := _) rfl (by kernel_rfl) (by kernel_rfl) (by kernel_rfl) (fun _ _ _ h => h) (Or.inl ⟨by rfl, ?hyu35⟩) ?restu35
    case hyu35 =>
      intro w
      go_simp
      try with_reducible rfl
    (try simp only [Act.put, List.getElem_toArray, List.getElem_cons_succ, List.getElem_cons_zero, List.setIfInBounds_toArray, List.set_cons_zero, List.set_cons_succ])
    refine wpAny_done (by kernel_rfl) ?_ _
    go_wp2_with fail
    exact bodyPost_ret (results_elr rfl _ _ g _ _ (.any) none 0 0 (.string (bs t1)) (.bool true) rfl rfl rfl (setRow_heap _ g _ _ _ _ hx)) rfl (rtook_store HG.out C1 (RgAt.none _ _) (chg_draw_row _ _ _))
  rw [if_neg h63] at hRES
  have b63 : ((s[0].toNat : Int) == 63) = false := beq_eq_false_iff_ne.2 (fun h => h63 ((ne 63).2 (by omega)))
  by_cases h47 : s[0] = 47
  · rw [if_pos h47] at hRES
    have b47 : ((s[0].toNat : Int) == 47) = true := beq_iff_eq.2 (by have := (ne 47).1 h47; omega)
    subst hRES
    have b91 : ((s[0].toNat : Int) == 91) = false := beq_eq_false_iff_ne.2 (by have := (ne 47).1 h47; omega)
    clear h47 ne
    go_upto_region 10 with (fail)
    refine wp_region_any (by kernel_rfl) ?_
    try (change wpAny _ _ _ _ _ _ _ (World.drew _))
    refine' wpAny_take (i := 0) (v := _) rfl (by kernel_rfl) (by kernel_rfl) (by kernel_rfl) (fun _ _ _ h => h) (Or.inl ⟨by rfl, ?hys40⟩) ?rests40
    case hys40 =>
      intro w
      go_simp
      try with_reducible rfl
    (try simp only [Act.put, List.getElem_toArray, List.getElem_cons_zero, List.setIfInBounds_toArray, List.set_cons_zero, List.set_cons_succ])
    refine' wpAny_take (i := 1) (v := _) rfl (by kernel_rfl) (by kernel_rfl) (by kernel_rfl) (fun _ _ _ h => h) (Or.inl ⟨by rfl, ?hys41⟩) ?rests41
    case hys41 =>
      intro w
      go_simp
      try with_reducible rfl
    (try simp only [Act.put, List.getElem_toArray, List.getElem_cons_succ, List.getElem_cons_zero, List.setIfInBounds_toArray, List.set_cons_zero, List.set_cons_succ])
    refine' wpAny_take (i := 2) (v := _) rfl (by kernel_rfl) (by kernel_rfl) (by kernel_rfl) (fun _ _ _ h => h) (Or.inl ⟨by rfl, ?hys42⟩) ?rests42
    case hys42 =>
      intro w
      go_simp
      try with_reducible rfl
    (try simp only [Act.put, List.getElem_toArray, List.getElem_cons_succ, List.getElem_cons_zero, List.setIfInBounds_toArray, List.set_cons_zero, List.set_cons_succ])
    refine wpAny_ready (rs := [3]) (by kernel_rfl) (by simp) (AllReady.cons rfl (fun K hK => ?_) AllReady.nil)
    refine step_store_x _ rfl 53 (.tmp 2) (.tmp 37) rfl _ (store_elr _ g _ (.byt 47) none 0 0 hx rfl) ?_
    refine hK _ _ ?_
    clear hK K
    refine' wpAny_take (i := 4) (v := _) rfl (by kernel_rfl) (by kernel_rfl) (by kernel_rfl) (fun _ _ _ h => h) (Or.inl ⟨by rfl, ?hyu44⟩) ?restu44
    case hyu44 =>
      intro w
      go_simp
      try with_reducible rfl
    (try simp only [Act.put, List.getElem_toArray, List.getElem_cons_succ, List.getElem_cons_zero, List.setIfInBounds_toArray, List.set_cons_zero, List.set_cons_succ])
    refine' wpAny_take (i := 5) (v := _) rfl (by kernel_rfl) (by kernel_rfl) (by kernel_rfl) (fun _ _ _ h => h) (Or.inl ⟨by rfl, ?hyu45⟩) ?restu45
    case hyu45 =>
      intro w
      go_simp
      try with_reducible rfl
    (try simp only [Act.put, List.getElem_toArray, List.getElem_cons_succ, List.getElem_cons_zero, List.setIfInBounds_toArray, List.set_cons_zero, List.set_cons_succ])
    refine wpAny_done (by kernel_rfl) ?_ _
    go_wp2_with fail
    exact bodyPost_ret (results_elr rfl _ _ g _ _ (.byt 47) none 0 0 (.string (bs t1)) (.bool true) rfl rfl rfl (setRow_heap _ g _ _ _ _ hx)) rfl (rtook_store HG.out C1 (RgAt.none _ _) (chg_draw_row _ _ _))
  rw [if_neg h47] at hRES
  have b47 : ((s[0].toNat : Int) == 47) = false := beq_eq_false_iff_ne.2 (fun h => h47 ((ne 47).2 (by omega)))
  by_cases h91 : s[0] = 91
  · rw [if_pos h91] at hRES
    have b91 : ((s[0].toNat : Int) == 91) = true := beq_iff_eq.2 (by have := (ne 91).1 h91; omega)
    have K2 := Lib.hid (KC.out t1 ht1l w1')
    obtain ⟨o, ho⟩ : ∃ o, class1 t1 = o := ⟨_, rfl⟩
    rw [ho] at K2 hRES
    subst hRES
    clear h42 h63 h47 h91 ne ho
    generalize bs t1 = u1 at *
    go_wp2_with fail
    cases o with
    | none =>
      refine K2.out.mono ?_
      rintro e w2 ⟨C2, x, a, n, c, t, rfl⟩
      have hx2 := (C2.block _ (lt_of_block hx) (by simp)).trans hx
      go_wp2_with (refine wpList_store_y 53 (.tmp 2) (.tmp 31) rfl rfl (.pointer (some ⟨g, 0, none⟩)) (.agg (elC x a n c)) _ (store_elr _ _ _ _ _ _ _ hx2 rfl) rfl rfl ?_)
      exact bodyPost_ret (results_elr rfl _ _ g _ _ x a n c (.string t) (.bool false) rfl rfl rfl (setRow_heap _ g _ _ _ _ hx2)) rfl (rtook_none HG.out (C1.trans C2 (by simp)) (chg_row _ _ _))
    | some o =>
      obtain ⟨x, r⟩ := o
      refine K2.out.mono ?_
      rintro e w2 ⟨C2, a, n, c, rfl, hrg⟩
      rw [HS1.out] at hrg
      have hx2 := (C2.block _ (lt_of_block hx) (by simp)).trans hx
      go_wp2_with (refine wpList_store_y 53 (.tmp 2) (.tmp 31) rfl rfl (.pointer (some ⟨g, 0, none⟩)) (.agg (elC x a n c)) _ (store_elr _ _ _ _ _ _ _ hx2 rfl) rfl rfl ?_)
      exact bodyPost_ret (results_elr rfl _ _ g _ _ x a n c (.string (bs r)) (.bool true) rfl rfl rfl (setRow_heap _ g _ _ _ _ hx2)) rfl (rtook_store HG.out (C1.trans C2 (by simp)) hrg (chg_row _ _ _))
  rw [if_neg h91] at hRES
  have b91 : ((s[0].toNat : Int) == 91) = false := beq_eq_false_iff_ne.2 (fun h => h91 ((ne 91).2 (by omega)))
  clear h42 h63 h47 h91 ne
  have K2 := KW.out l hl w1'
  rw [HS.out] at K2
  have hwr : writ l = (one1 l).map fun p => (p.1, l.drop p.2) := rfl
  obtain ⟨o, ho⟩ : ∃ o, one1 l = o := ⟨_, rfl⟩
  rw [ho] at hRES hwr
  rw [hwr] at K2
  clear hwr ho
  cases o with
  | none =>
    rw [Option.map_none, writV_none] at K2
    have HK := Lib.hid K2
    clear K2
    subst hRES
    go_wp2_with fail
    refine HK.out.mono ?_
    rintro e w2 ⟨rfl, C2⟩
    have hx2 := (C2.block _ (lt_of_block hx) (by simp)).trans hx
    go_wp2_with (refine wpList_store_y 53 (.tmp 2) (.tmp 47) rfl rfl (.pointer (some ⟨g, 0, none⟩)) (.agg (elC (.byt 0) none 0 0)) _ (store_elr _ _ _ _ _ _ _ hx2 rfl) rfl rfl ?_)
    exact bodyPost_ret (results_elr rfl _ _ g _ _ (.byt 0) none 0 0 (.string ⟨#[]⟩) (.bool false) rfl rfl rfl (setRow_heap _ g _ _ _ _ hx2)) rfl (rtook_none HG.out (C1.trans C2 (by simp)) (chg_row _ _ _))
  | some o =>
    obtain ⟨c, n⟩ := o
    rw [Option.map_some, writV_some] at K2
    have HK := Lib.hid K2
    clear K2
    subst hRES
    go_wp2_with fail
    refine HK.out.mono ?_
    rintro e w2 ⟨rfl, C2⟩
    have hx2 := (C2.block _ (lt_of_block hx) (by simp)).trans hx
    go_wp2_with (refine wpList_store_y 53 (.tmp 2) (.tmp 47) rfl rfl (.pointer (some ⟨g, 0, none⟩)) (.agg (elC (.byt c) none 0 0)) _ (store_elr _ _ _ _ _ _ _ hx2 rfl) rfl rfl ?_)
    exact bodyPost_ret (results_elr rfl _ _ g _ _ (.byt c) none 0 0 (.string (bs (l.drop n))) (.bool true) rfl rfl rfl (setRow_heap _ g _ _ _ _ hx2)) rfl (rtook_store HG.out (C1.trans C2 (by simp)) (RgAt.none _ _) (chg_row _ _ _))
end Go.Proofs.Ytnbeamggbehclaa
