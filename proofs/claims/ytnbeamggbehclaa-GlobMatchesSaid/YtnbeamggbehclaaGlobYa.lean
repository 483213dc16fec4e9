/- The reference's Parse, walked. No conditions beyond those that each statement types. -/
import Derived.Test.YtnbeamggbehclaaGlobY
namespace Go.Proofs.Ytnbeamggbehclaa
open Go.RowKit

theorem begins_is (u : List UInt8) (s p : ByteArray) (hs : bs u = s) (l : List UInt8) (hp : p.data.toList = l) (b : Bool) (h : pre l u = b) : Hid (∀ w, Calls Try.prog 27 #[.string s, .string p] w fun e w' => e = .returned (.bool b) ∧ w = w') :=
  Lib.hid (fun w => (ref_begins s p w).mono fun e w' ⟨h1, h2⟩ => ⟨by rw [h1, hp, ← hs, bs_data, h], h2.symm⟩)
theorem mark1_neg {u : List UInt8} (h : pre [33] u = true) : mark1 u = some (.neg, 1) := by unfold mark1; rw [if_pos h]
theorem mark1_fold {u : List UInt8} (h : pre [33] u = false) (h2 : pre [40, 63, 105, 41] u = true) : mark1 u = some (.fold, 4) := by unfold mark1; rw [h, h2]; rfl
theorem mark1_del {u : List UInt8} (h : pre [33] u = false) (h2 : pre [40, 63, 105, 41] u = false) (h3 : pre [40, 63, 100, 41] u = true) : mark1 u = some (.del, 4) := by unfold mark1; rw [h, h2, h3]; rfl
theorem mark1_none {u : List UInt8} (h : pre [33] u = false) (h2 : pre [40, 63, 105, 41] u = false) (h3 : pre [40, 63, 100, 41] u = false) : mark1 u = none := by unfold mark1; rw [h, h2, h3]; rfl
theorem marks_none {u : List UInt8} {m : Mk} {R : Option (Mk × List UInt8)} (h : marksOf u m = R) (hm : mark1 u = none) : R = some (m, u) := by rw [← h, marksOf_eq, hm]
theorem marks_twice {u : List UInt8} {m : Mk} {d : MKd} {n : Nat} {R : Option (Mk × List UInt8)} (h : marksOf u m = R) (hm : mark1 u = some (d, n)) (hg : m.get d = true) : R = none := by rw [← h, marksOf_eq, hm]; simp only [hg, if_true]
theorem marks_once {u : List UInt8} {m : Mk} {d : MKd} {n : Nat} {R : Option (Mk × List UInt8)} (h : marksOf u m = R) (hm : mark1 u = some (d, n)) (hg : m.get d = false) : marksOf (u.drop n) (m.put d) = R := by rw [← h, marksOf_eq u m, hm]; simp only [hg, Bool.false_eq_true, if_false]
theorem els_none {u : List UInt8} {acc : List El} {R : Option (List El)} (h : elsOf u acc = R) (hu : 0 < u.length) (he : elem1 u = none) : R = none := by rw [← h, elsOf_eq, if_neg (by omega), he]
theorem els_end {u : List UInt8} {acc : List El} {R : Option (List El)} (h : elsOf u acc = R) (hu : u.length = 0) : R = some acc := by rw [← h, elsOf_eq, if_pos hu]
theorem els_next {u r : List UInt8} {x : El} {acc : List El} {R : Option (List El)} (h : elsOf u acc = R) (hu : 0 < u.length) (he : elem1 u = some (x, r)) : elsOf r (acc ++ [x]) = R := by rw [← h, elsOf_eq u, if_neg (by omega), he]
theorem src_el {wr : World} {p : REl} {fr : Nat × Nat} : Src (wr.alloc (Obj.cells (REl.cells p) 53 fr)) (some ⟨wr.heap.size, 0, none⟩) (esV [p]) := by
  have hnx := heap_alloc_new wr (.cells (REl.cells p) 53 fr)
  refine ⟨fun h => by (cases h), fun q hq j u hu => ?_⟩
  cases hq
  rw [addr_add0, cell_of_row _ _ j _ _ _ hnx]
  simpa [esV] using hu
/-- A world behind an append of one element: nothing of the pattern has turned but the row. -/
theorem RP.grown {w wr w1 : World} {g n c : Nat} {m : Mk} {root : Bool} {a : Option Addr} {es : List REl} (H : RP w wr g m root a n c es) {o : Obj} (hgr : (wr.alloc o).grownBy w1 (Value.slice a n c).ownBlock) :
    (∀ k, k ≤ g + 1 → w1.heap[k]? = wr.heap[k]?) ∧ Chg [] w w1 ∧ wr.heap.size < w1.heap.size ∧ Chg (Value.slice a n c).ownBlock.toList wr w1 := by
  have hl := lt_of_block H.pat
  have CA := Chg.alloc (Value.slice a n c).ownBlock.toList wr o
  have CG := Chg.grown hgr (S := (Value.slice a n c).ownBlock.toList) (fun k hk => .inl (by simp [hk]))
  have CT := CA.trans CG (fun k hk => .inl hk)
  have hsz := hgr.size
  simp only [World.size_alloc] at hsz
  refine ⟨fun k hk => CT.block k (by omega) (fun hm => ?_), H.chg.trans CT (fun k hk => .inr ?_), by omega, CT⟩
  · have := H.els.new k (by simpa using hm); omega
  · have := H.els.new k (by simpa using hk); have := H.size; omega
theorem RgAt.row {lo : Nat} {w w1 : World} {a a' : Option Addr} {n c n' c' : Nat} {rs : List (UInt8 × UInt8)} {xs : List Value} (H : RgAt lo w a n c rs) (ho : w.ownsRow 0 53 4 (.slice a' n' c') n' xs) (C : Chg (Value.slice a' n' c').ownBlock.toList w w1) : RgAt lo w1 a n c rs := by
  refine ⟨H.len, ownsRow_chg H.own C (fun k hk hm => ?_), H.new⟩
  have hk' : (Value.slice a' n' c').ownBlock = some k := by simpa using hm
  rcases ho.2 with ⟨hv, _⟩ | ⟨gg, cap, cur, hv, _, hh, _⟩
  · rw [hv] at hk'; cases hk'
  · rw [hv] at hk'
    have : gg = k := by simpa [Value.ownBlock] using hk'
    subst this
    exact ownsRow_ne H.own hh (by decide) hk
theorem RP.push {w wr w1 : World} {g n c c' : Nat} {m : Mk} {root : Bool} {a ao' : Option Addr} {es : List REl} (H : RP w wr g m root a n c es) {o : Obj} {p : REl} (hgr : (wr.alloc o).grownBy w1 (Value.slice a n c).ownBlock)
    (hp : RgAt (g + 2) wr p.2.1 p.2.2.1 p.2.2.2 p.1.rs)
    (hown : w1.ownsRow 0 53 4 (.slice ao' (n + 1) c') (n + 1) (esV es ++ esV [p])) (hblk : (Value.slice ao' (n + 1) c').ownBlock = (Value.slice a n c).ownBlock ∨ (Value.slice ao' (n + 1) c').ownBlock = some (wr.heap.size + 1)) :
    RP w (w1.setCell ⟨g + 1, 4, none⟩ (.slice ao' (n + 1) c')) g m root ao' (n + 1) c' (es ++ [p]) := by
  obtain ⟨hb, hc, hsz, CT⟩ := H.grown hgr
  have hl := lt_of_block H.pat
  have hnew : ∀ k, (Value.slice ao' (n + 1) c').ownBlock = some k → g + 2 ≤ k := by
    intro k hk
    rcases hblk with h1 | h1 <;> rw [h1] at hk
    · exact H.els.new k hk
    · have := Option.some.inj hk
      omega
  have CS : Chg [g + 1] w1 (w1.setCell ⟨g + 1, 4, none⟩ (.slice ao' (n + 1) c')) := Chg.setCell _ _ _ (.inl (by simp))
  have hs := H.size
  refine ⟨?_, ?_, ⟨by rw [List.length_append, H.els.len]; rfl, ?_, hnew, fun q hq => ?_⟩, hc.trans CS (fun k hk => .inr (by simp at hk; omega)), hs⟩
  · exact (heap_setCell_other _ _ _ _ (by simp)).trans ((hb _ (by omega)).trans H.res)
  · exact heap_setCell_same _ _ _ _ _ _ ((hb _ (by omega)).trans H.pat)
  · rw [esV_append]
    exact ownsRow_chg hown CS (fun k hk hm => by have := hnew k hk; simp at hm; omega)
  · rcases List.mem_append.1 hq with h1 | h1
    · exact ((H.els.rg q h1).row H.els.own CT).chg CS (fun k hk => by simp at hk; omega)
    · simp at h1
      subst h1
      exact (hp.row H.els.own CT).chg CS (fun k hk => by simp at hk; omega)

set_option maxRecDepth 100000 in
set_option maxHeartbeats 8000000 in
theorem ref_parse_long (l : List UInt8) (hl : 128 < l.length) (w : World) : Calls Try.prog 10 #[.string (bs l)] w (RParsed w .long) := by
  have h0 := heap_alloc_new w (.cells #[.bool false, .bool false, .bool false, .bool false, .slice none 0 0] 29)
  have C1 := Chg.alloc [] w (.cells #[.bool false, .bool false, .bool false, .bool false, .slice none 0 0] 29)
  have hl' : (128 : Int) < (bs l).size := by rw [bs_size]; omega
  generalize bs l = s at *
  go_enter Try.func10, Try.ntmps10
  go_upto_region 1 with (fail)
  generalize w.alloc (.cells #[.bool false, .bool false, .bool false, .bool false, .slice none 0 0] 29) = w1 at *
  obtain ⟨g, hg⟩ : ∃ g, w.heap.size = g := ⟨_, rfl⟩
  rw [hg] at h0 ⊢
  go_wp2_with (refine wpList_store_y 29 (.tmp 2) (.tmp 12) rfl rfl (.pointer (some ⟨g, 0, none⟩)) (.agg (patC mk0 false none 0 0)) _ (store_pat _ _ _ _ _ _ _ _ h0 rfl) rfl rfl ?_)
  exact bodyPost_ret (results_pat rfl _ _ g _ _ _ _ _ _ _ (.int .i64 3) rfl rfl (setRow_heap _ g _ _ _ _ h0)) rfl ⟨C1.trans (Chg.setRow (S := [g]) _ _ _ (.inl (by simp))) (fun k hk => by simp at hk; right; omega), rfl⟩

set_option maxRecDepth 100000 in
set_option maxHeartbeats 16000000 in
theorem ref_parse_short (l : List UInt8) (hl : l.length ≤ 128) (w : World) : Calls Try.prog 10 #[.string (bs l)] w (RParsed w (parse l)) := by
  obtain ⟨RES, hRES⟩ : ∃ RES, parse l = RES := ⟨_, rfl⟩
  rw [hRES]
  unfold parse at hRES
  rw [if_neg (by omega)] at hRES
  obtain ⟨R, hR⟩ : ∃ R, marksOf l ⟨false, false, false⟩ = R := ⟨_, rfl⟩
  rw [hR] at hRES
  have HR := Lib.hid hR
  have HRES := Lib.hid hRES
  clear hR hRES
  have h0 := heap_alloc_new w (.cells #[.bool false, .bool false, .bool false, .bool false, .slice none 0 0] 29)
  have C1 := Chg.alloc [] w (.cells #[.bool false, .bool false, .bool false, .bool false, .slice none 0 0] 29)
  have HS1 := Lib.hid (show (w.alloc (.cells #[.bool false, .bool false, .bool false, .bool false, .slice none 0 0] 29)).heap.size = w.heap.size + 1 by simp)
  obtain ⟨s, hs⟩ : ∃ s, bs l = s := ⟨_, rfl⟩
  have hl' : ¬ (128 : Int) < s.size := by rw [← hs, bs_size]; omega
  have HS := Lib.hid hs
  rw [hs]
  clear hs
  go_enter Try.func10, Try.ntmps10
  go_upto_region 1 with (fail)
  generalize w.alloc (.cells #[.bool false, .bool false, .bool false, .bool false, .slice none 0 0] 29) = w1 at *
  obtain ⟨g, hg⟩ : ∃ g, w.heap.size = g := ⟨_, rfl⟩
  rw [hg] at h0 HS1 ⊢
  have HG := Lib.hid hg
  clear hg
  go_wp2_with fail
  have h1 := heap_alloc_new w1 (.cells #[.bool false, .bool false, .bool false, .bool false, .slice none 0 0] 29)
  have C2 := Chg.alloc [] w1 (.cells #[.bool false, .bool false, .bool false, .bool false, .slice none 0 0] 29)
  generalize w1.alloc (.cells #[.bool false, .bool false, .bool false, .bool false, .slice none 0 0] 29) = w2 at *
  rw [HS1.out] at h1 ⊢
  have HRP : Hid (RP w w2 g ⟨false, false, false⟩ false none 0 0 []) := Lib.hid ⟨(C2.block _ (lt_of_block h0) (by simp)).trans h0, h1, ElsAt.none _ _, C1.trans C2 (by simp), HG.out⟩
  clear h0 h1 C1 C2 HS1 hl'
  rw [← HS.out]
  clear HS
  go_loopw [0] (fun v wr => ∃ (u : List UInt8) (m : Mk), v = .string (bs u) ∧ u.length ≤ 128 ∧ Hid (marksOf u m = R) ∧ Hid (RP w wr g m false none 0 0 [])) (fun v _ => lenOf v)
  case atStart => exact ⟨l, _, rfl, hl, HR, HRP⟩
  case round =>
    obtain ⟨u, m, rfl, hu, hR, hP⟩ := hrel
    clear HR HRP
    obtain ⟨s, hs⟩ : ∃ s, bs u = s := ⟨_, rfl⟩
    have HSZ := Lib.hid (show s.size = u.length by rw [← hs]; rfl)
    obtain ⟨b1, hb1⟩ : ∃ b, pre [33] u = b := ⟨_, rfl⟩
    obtain ⟨b2, hb2⟩ : ∃ b, pre [40, 63, 105, 41] u = b := ⟨_, rfl⟩
    obtain ⟨b3, hb3⟩ : ∃ b, pre [40, 63, 100, 41] u = b := ⟨_, rfl⟩
    have K1 := begins_is u s ⟨#[33]⟩ hs _ rfl b1 hb1
    have K2 := begins_is u s ⟨#[40, 63, 105, 41]⟩ hs _ rfl b2 hb2
    have K3 := begins_is u s ⟨#[40, 63, 100, 41]⟩ hs _ rfl b3 hb3
    have HB1 := Lib.hid hb1
    have HB2 := Lib.hid hb2
    have HB3 := Lib.hid hb3
    have HS := Lib.hid hs
    rw [hs]
    obtain ⟨c0, c1, c2, _, _⟩ := hP.out.flag
    have f0 := frozen_of_row wr (g + 1) 0 _ _ hP.out.pat
    have f1 := frozen_of_row wr (g + 1) 1 _ _ hP.out.pat
    have f2 := frozen_of_row wr (g + 1) 2 _ _ hP.out.pat
    clear hb1 hb2 hb3 hs
    cases b1 with
    | true =>
      obtain ⟨t, ht⟩ : ∃ t, u.drop 1 = t := ⟨_, rfl⟩
      have hM := mark1_neg HB1.out
      have hlen := mark1_pos hM
      have hcut : s.extract 1 s.size = bs t := by show cutB s 1 = _; rw [← HS.out, bs_cut, ht]
      have hns : (1 : Int) ≤ s.size := by have := HSZ.out; omega
      have htl : t.length < u.length := by rw [← ht, List.length_drop]; omega
      have HM := Lib.hid hM
      have HT := Lib.hid ht
      have HP3 := Lib.hid (hP.out.set 0 true (m.put .neg) false rfl)
      clear ht hM c1 f1 c2 f2 hlen
      obtain ⟨q, hq⟩ : ∃ q, m.neg = q := ⟨_, rfl⟩
      rw [hq] at c0
      have HQ := Lib.hid hq
      clear hq
      cases q with
      | true =>
        have HRE : Said.form = RES := by
          rw [← HRES.out, marks_twice hR.out HM.out HQ.out]
        have hr := HP3.out.res
        have HF := Lib.hid HP3.out.bad
        go_wp2_with (first
          | (go_at_call 27; (first | (with_reducible refine (K1.out _).mono ?_) | (with_reducible refine (K2.out _).mono ?_) | (with_reducible refine (K3.out _).mono ?_)); rintro e w' ⟨rfl, rfl⟩)
          | refine wpList_store_y 29 (.tmp 2) (.tmp 43) rfl rfl (.pointer (some ⟨g, 0, none⟩)) (.agg (patC mk0 false none 0 0)) _ (store_pat _ _ _ _ _ _ _ _ hr rfl) rfl rfl ?_)
        subst HRE
        exact bodyPost_ret (results_pat rfl _ _ g _ _ _ _ _ _ _ (.int .i64 4) rfl rfl (setRow_heap _ g _ _ _ _ hr)) rfl HF.out
      | false =>
        have HR2 := Lib.hid (marks_once hR.out HM.out HQ.out)
        rw [HT.out] at HR2
        go_wp2_with (go_at_call 27; (first | (with_reducible refine (K1.out _).mono ?_) | (with_reducible refine (K2.out _).mono ?_) | (with_reducible refine (K3.out _).mono ?_)); rintro e w' ⟨rfl, rfl⟩)
        go_roundw
        case rel => exact ⟨t, _, rfl, by omega, HR2, HP3⟩
        case measure => simp only [lenOf]; rw [bs_size]; have := HSZ.out; omega
    | false =>
    cases b2 with
    | true =>
      obtain ⟨t, ht⟩ : ∃ t, u.drop 4 = t := ⟨_, rfl⟩
      have hM := mark1_fold HB1.out HB2.out
      have hlen := mark1_pos hM
      have hcut : s.extract 4 s.size = bs t := by show cutB s 4 = _; rw [← HS.out, bs_cut, ht]
      have hns : (4 : Int) ≤ s.size := by have := HSZ.out; omega
      have htl : t.length < u.length := by rw [← ht, List.length_drop]; omega
      have HM := Lib.hid hM
      have HT := Lib.hid ht
      have HP3 := Lib.hid (hP.out.set 1 true (m.put .fold) false rfl)
      clear ht hM c0 f0 c2 f2 hlen
      obtain ⟨q, hq⟩ : ∃ q, m.fold = q := ⟨_, rfl⟩
      rw [hq] at c1
      have HQ := Lib.hid hq
      clear hq
      cases q with
      | true =>
        have HRE : Said.form = RES := by
          rw [← HRES.out, marks_twice hR.out HM.out HQ.out]
        have hr := HP3.out.res
        have HF := Lib.hid HP3.out.bad
        go_wp2_with (first
          | (go_at_call 27; (first | (with_reducible refine (K1.out _).mono ?_) | (with_reducible refine (K2.out _).mono ?_) | (with_reducible refine (K3.out _).mono ?_)); rintro e w' ⟨rfl, rfl⟩)
          | refine wpList_store_y 29 (.tmp 2) (.tmp 43) rfl rfl (.pointer (some ⟨g, 0, none⟩)) (.agg (patC mk0 false none 0 0)) _ (store_pat _ _ _ _ _ _ _ _ hr rfl) rfl rfl ?_)
        subst HRE
        exact bodyPost_ret (results_pat rfl _ _ g _ _ _ _ _ _ _ (.int .i64 4) rfl rfl (setRow_heap _ g _ _ _ _ hr)) rfl HF.out
      | false =>
        have HR2 := Lib.hid (marks_once hR.out HM.out HQ.out)
        rw [HT.out] at HR2
        go_wp2_with (go_at_call 27; (first | (with_reducible refine (K1.out _).mono ?_) | (with_reducible refine (K2.out _).mono ?_) | (with_reducible refine (K3.out _).mono ?_)); rintro e w' ⟨rfl, rfl⟩)
        go_roundw
        case rel => exact ⟨t, _, rfl, by omega, HR2, HP3⟩
        case measure => simp only [lenOf]; rw [bs_size]; have := HSZ.out; omega
    | false =>
    cases b3 with
    | true =>
      obtain ⟨t, ht⟩ : ∃ t, u.drop 4 = t := ⟨_, rfl⟩
      have hM := mark1_del HB1.out HB2.out HB3.out
      have hlen := mark1_pos hM
      have hcut : s.extract 4 s.size = bs t := by show cutB s 4 = _; rw [← HS.out, bs_cut, ht]
      have hns : (4 : Int) ≤ s.size := by have := HSZ.out; omega
      have htl : t.length < u.length := by rw [← ht, List.length_drop]; omega
      have HM := Lib.hid hM
      have HT := Lib.hid ht
      have HP3 := Lib.hid (hP.out.set 2 true (m.put .del) false rfl)
      clear ht hM c0 f0 c1 f1 hlen
      obtain ⟨q, hq⟩ : ∃ q, m.del = q := ⟨_, rfl⟩
      rw [hq] at c2
      have HQ := Lib.hid hq
      clear hq
      cases q with
      | true =>
        have HRE : Said.form = RES := by
          rw [← HRES.out, marks_twice hR.out HM.out HQ.out]
        have hr := HP3.out.res
        have HF := Lib.hid HP3.out.bad
        go_wp2_with (first
          | (go_at_call 27; (first | (with_reducible refine (K1.out _).mono ?_) | (with_reducible refine (K2.out _).mono ?_) | (with_reducible refine (K3.out _).mono ?_)); rintro e w' ⟨rfl, rfl⟩)
          | refine wpList_store_y 29 (.tmp 2) (.tmp 43) rfl rfl (.pointer (some ⟨g, 0, none⟩)) (.agg (patC mk0 false none 0 0)) _ (store_pat _ _ _ _ _ _ _ _ hr rfl) rfl rfl ?_)
        subst HRE
        exact bodyPost_ret (results_pat rfl _ _ g _ _ _ _ _ _ _ (.int .i64 4) rfl rfl (setRow_heap _ g _ _ _ _ hr)) rfl HF.out
      | false =>
        have HR2 := Lib.hid (marks_once hR.out HM.out HQ.out)
        rw [HT.out] at HR2
        go_wp2_with (go_at_call 27; (first | (with_reducible refine (K1.out _).mono ?_) | (with_reducible refine (K2.out _).mono ?_) | (with_reducible refine (K3.out _).mono ?_)); rintro e w' ⟨rfl, rfl⟩)
        go_roundw
        case rel => exact ⟨t, _, rfl, by omega, HR2, HP3⟩
        case measure => simp only [lenOf]; rw [bs_size]; have := HSZ.out; omega
    | false =>
    have hRm := marks_none hR.out (mark1_none HB1.out HB2.out HB3.out)
    have hRES := HRES.out
    rw [hRm] at hRES
    clear hRm c0 c1 c2 f0 f1 f2 HB1 HB2 HB3 hR HRES
    obtain ⟨P47, hP47⟩ : ∃ b, pre [47] u = b := ⟨_, rfl⟩
    have K4 := begins_is u s ⟨#[47]⟩ HS.out _ rfl P47 hP47
    obtain ⟨u0, hu0⟩ : ∃ u0, (if P47 then u.drop 1 else u) = u0 := ⟨_, rfl⟩
    simp only [hP47, hu0] at hRES
    have hu0l : u0.length ≤ 128 := by
      rw [← hu0]
      split
      · rw [List.length_drop]; omega
      · exact hu
    have HL : Hid (P47 = true → 0 < s.size) := Lib.hid (fun h => by rw [h] at hP47; have h1 : 1 ≤ u.length := pre_len hP47; have := HSZ.out; omega)
    have HV : Hid (Value.string (if P47 then cutB s 1 else s) = .string (bs u0)) := Lib.hid (by rw [← HS.out, ← hu0, bs_cut]; cases P47 <;> rfl)
    have HRES := Lib.hid hRES
    clear hRES hP47 hu0
    go_wp2_with (go_at_call 27; (first | (with_reducible refine (K1.out _).mono ?_) | (with_reducible refine (K2.out _).mono ?_) | (with_reducible refine (K3.out _).mono ?_)); rintro e w' ⟨rfl, rfl⟩)
    refine (K4.out _).mono ?_
    rintro e w' ⟨rfl, rfl⟩
    go_upto_if 45 with (fail)
    go_cut [0] (fun v w' => v = .string (bs u0) ∧ Hid (RP w w' g m P47 none 0 0 []))
    case first =>
      cases P47 with
      | true =>
        have h1s : (1 : Int) ≤ s.size := by have := HL.out rfl; omega
        have hcut : s.extract 1 s.size = cutB s 1 := rfl
        have HX : Hid (Value.string (cutB s 1) = .string (bs u0)) := Lib.hid HV.out
        have HT := Lib.hid (hP.out.set 3 true m true rfl)
        obtain ⟨_, _, _, c3, _⟩ := hP.out.flag
        have f3 := frozen_of_row wr (g + 1) 3 _ _ hP.out.pat
        generalize cutB s 1 = u1 at *
        go_wp2_with fail
        go_meet
        case rel => exact ⟨HX.out, HT⟩
      | false =>
        have HX : Hid (Value.string s = .string (bs u0)) := Lib.hid HV.out
        go_wp2_with fail
        go_meet
        case rel => exact ⟨HX.out, hP⟩
    case rest =>
    obtain ⟨rfl, hP⟩ := hcut
    obtain ⟨s, hs⟩ : ∃ s, bs u0 = s := ⟨_, rfl⟩
    have HSZ := Lib.hid (show s.size = u0.length by rw [← hs]; rfl)
    by_cases h0 : u0.length = 0
    · have HRE : Said.form = RES := by rw [← HRES.out, if_pos h0]
      have hz : ((s.size : Int) == 0) = true := beq_iff_eq.2 (by have := HSZ.out; omega)
      rw [hs]
      clear hs h0
      have hr := hP.out.res
      have HF := Lib.hid hP.out.bad
      go_wp2_with (refine wpList_store_y 29 (.tmp 2) (.tmp 52) rfl rfl (.pointer (some ⟨g, 0, none⟩)) (.agg (patC mk0 false none 0 0)) _ (store_pat _ _ _ _ _ _ _ _ hr rfl) rfl rfl ?_)
      subst HRE
      exact bodyPost_ret (results_pat rfl _ _ g _ _ _ _ _ _ _ (.int .i64 4) rfl rfl (setRow_heap _ g _ _ _ _ hr)) rfl HF.out
    rw [if_neg h0] at HRES
    have hz : ((s.size : Int) == 0) = false := beq_eq_false_iff_ne.2 (by have := HSZ.out; omega)
    obtain ⟨R2, hR2⟩ : ∃ R2, elsOf u0 [] = R2 := ⟨_, rfl⟩
    have hRES := HRES.out
    rw [hR2] at hRES
    have HRES := Lib.hid hRES
    have HR2 := Lib.hid hR2
    rw [hs]
    have HS := Lib.hid hs
    clear hs hR2 hRES h0 K1 K2 K3 K4 HL HV
    go_wp2_with fail
    rw [← HS.out]
    go_loopw [0] (fun v wr => ∃ (u : List UInt8) (n c : Nat) (a : Option Addr) (es : List REl), v = .string (bs u) ∧ n + u.length ≤ 128 ∧ Hid (elsOf u (es.map (·.1)) = R2) ∧ Hid (RP w wr g m P47 a n c es)) (fun v _ => lenOf v)
    case atStart => exact ⟨u0, 0, 0, none, [], rfl, by omega, HR2, hP⟩
    case round =>
      obtain ⟨u, n, c, a, es, rfl, hn, hR, hP⟩ := hrel
      clear HR2
      obtain ⟨s, hs⟩ : ∃ s, bs u = s := ⟨_, rfl⟩
      have HSZ := Lib.hid (show s.size = u.length by rw [← hs]; rfl)
      rcases Nat.eq_zero_or_pos u.length with hu0 | hu0
      · have HRE : Said.pat m P47 (es.map (·.1)) = RES := by rw [← HRES.out, els_end hR.out hu0]
        have hlt : ¬ (0 : Int) < s.size := by have := HSZ.out; omega
        have hr := hP.out.res
        have hp := hP.out.pat
        have HF := Lib.hid hP.out.good
        rw [hs]
        clear hs hu0
        go_wp2_with (first
          | refine wpList_load_y 29 (.tmp 4) rfl rfl (.pointer (some ⟨g + 1, 0, none⟩)) (.agg (patC m P47 a n c)) (load_pat _ _ _ _ _ _ _ hp) rfl ?_
          | refine wpList_store_y 29 (.tmp 2) (.tmp 72) rfl rfl (.pointer (some ⟨g, 0, none⟩)) (.agg (patC m P47 a n c)) _ (store_pat _ _ _ _ _ _ _ _ hr rfl) rfl rfl ?_)
        subst HRE
        exact bodyPost_ret (results_pat rfl _ _ g _ _ _ _ _ _ _ (.int .i64 0) rfl rfl (setRow_heap _ g _ _ _ _ hr)) rfl HF.out
      · have hlt : (0 : Int) < s.size := by have := HSZ.out; omega
        have KE := ref_element u hu0 (by omega) wr
        obtain ⟨o, ho⟩ : ∃ o, elem1 u = o := ⟨_, rfl⟩
        rw [ho, hs] at KE
        rw [hs]
        have HO := Lib.hid ho
        have HK := Lib.hid KE
        clear hs KE ho
        go_wp2_with fail
        cases o with
        | none =>
          have HRE : Said.form = RES := by rw [← HRES.out, els_none hR.out hu0 HO.out]
          refine HK.out.mono ?_
          rintro e w2 ⟨C2, x, a', n', c', t', rfl⟩
          have HP2 := Lib.hid ((hP.out.next C2).next (Chg.alloc [] w2 (.cells (elC x a' n' c') 53)))
          go_upto_region 26 with (refine wpList_store_y 53 (.tmp 6) (.tmp 59) rfl rfl (.pointer (some ⟨w2.heap.size, 0, none⟩)) (.agg (elC x a' n' c')) _ (run_storeAt_new w2 _ #[.int .i64 0, .int .u8 0, .bool false, .slice none 0 0] (elC x a' n' c') Try.infoElR rfl (elC_one ..)) rfl rfl ?_)
          generalize w2.alloc (.cells (elC x a' n' c') 53) = w3 at *
          have hr := HP2.out.res
          have HF := Lib.hid HP2.out.bad
          go_wp2_with (refine wpList_store_y 29 (.tmp 2) (.tmp 64) rfl rfl (.pointer (some ⟨g, 0, none⟩)) (.agg (patC mk0 false none 0 0)) _ (store_pat _ _ _ _ _ _ _ _ hr rfl) rfl rfl ?_)
          subst HRE
          exact bodyPost_ret (results_pat rfl _ _ g _ _ _ _ _ _ _ (.int .i64 4) rfl rfl (setRow_heap _ g _ _ _ _ hr)) rfl HF.out
        | some o =>
          obtain ⟨x, r⟩ := o
          refine HK.out.mono ?_
          rintro e w2 ⟨C2, a', n', c', rfl, hrg⟩
          have hrl := elem1_len hu0 HO.out
          have HR3 := Lib.hid (els_next hR.out hu0 HO.out)
          have HP2 := Lib.hid ((hP.out.next C2).next (Chg.alloc [] w2 (.cells (elC x a' n' c') 53)))
          have HRG := Lib.hid ((hrg.chg (Chg.alloc [] w2 (.cells (elC x a' n' c') 53)) (by simp)).low (show g + 2 ≤ wr.heap.size from lt_of_block hP.out.pat))
          have hx := heap_alloc_new w2 (.cells (elC x a' n' c') 53)
          clear C2 hrg
          go_upto_region 26 with (refine wpList_store_y 53 (.tmp 6) (.tmp 59) rfl rfl (.pointer (some ⟨w2.heap.size, 0, none⟩)) (.agg (elC x a' n' c')) _ (run_storeAt_new w2 _ #[.int .i64 0, .int .u8 0, .bool false, .slice none 0 0] (elC x a' n' c') Try.infoElR rfl (elC_one ..)) rfl rfl ?_)
          obtain ⟨q, hq⟩ : ∃ q, w2.heap.size = q := ⟨_, rfl⟩
          rw [hq] at hx
          generalize w2.alloc (.cells (elC x a' n' c') 53) = w3 at *
          (try rw [hq])
          clear hq
          obtain ⟨ip, hip, hipz, hips, hipb⟩ := info_parts Try.infoElRU
          have hown := ownsRow_chg HP2.out.els.own (Chg.alloc [] w3 (.cells (REl.cells (x, a', n', c')) 53)) (by simp)
          have hsrc := src_el (wr := w3) (p := (x, a', n', c')) (fr := (0, 0))
          have hsz4 : (elC x a' n' c').size = 4 := rfl
          obtain ⟨_, _, _, _, cr⟩ := HP2.out.flag
          go_upto_region 28 with (fail)
          go_wp2_with (first
            | refine wpList_load_y 53 (.tmp 6) rfl rfl (.pointer (some ⟨q, 0, none⟩)) (.agg (elC x a' n' c')) (load_elr _ _ _ _ _ _ hx) rfl ?_
            | (at_builtin; refine wpList_append_y (.tmp 66) (.tmp 68) 27 rfl rfl 53 ip _ 4 40 Try.underlying27 hip hipz hips hipb rfl (by decide) (.slice a n c) n (esV es) hown (some ⟨w3.heap.size, 0, none⟩) 1 1 (esV [(x, a', n', c')]) rfl hsrc (fun h => by cases h) (esV_one _) (by unfold maxLen; omega) (by omega) rfl rfl ?_))
          intro ao' c2 w5 hown5 hgr hblk
          have HP5 := Lib.hid (HP2.out.push (p := (x, a', n', c')) hgr HRG.out hown5 hblk)
          obtain ⟨hgb, _⟩ := HP2.out.grown hgr
          have hpat5 := (hgb _ (Nat.le_refl _)).trans HP2.out.pat
          have cr5 : w5.cell? ⟨g + 1, 4, none⟩ = some (.slice a n c) := by rw [cell_of_row _ _ _ _ _ _ hpat5]; rfl
          have fr5 := frozen_of_row w5 (g + 1) 4 _ _ hpat5
          clear hown5 hgr hblk hown hsrc cr hipz hips hipb hip hgb hpat5 hx
          go_wp2_with fail
          go_roundw
          case rel => exact ⟨r, n + 1, c2, ao', es ++ [(x, a', n', c')], rfl, by omega, by rw [List.map_append]; exact HR3, HP5⟩
          case measure => simp only [lenOf]; rw [bs_size]; have := HSZ.out; omega
theorem ref_parse (l : List UInt8) (w : World) : Calls Try.prog 10 #[.string (bs l)] w (RParsed w (parse l)) := by
  by_cases h : 128 < l.length
  · have : parse l = .long := by unfold parse; rw [if_pos h]
    rw [this]
    exact ref_parse_long l h w
  · exact ref_parse_short l (by omega) w
end Go.Proofs.Ytnbeamggbehclaa
