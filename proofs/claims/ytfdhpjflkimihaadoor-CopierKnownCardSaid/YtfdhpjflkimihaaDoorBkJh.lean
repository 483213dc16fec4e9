/- cmp.Compare, cmp.Or and before, walked. No conditions beyond those that each statement types. -/
import Derived.Test.YtfdhpjflkimihaaDoorBkF
namespace Go.Proofs.YtfdhpjflkimihaaDoor
open Go.RowKit

def cmpS (a b : ByteArray) : Int := if Op.bytesLess a.toList b.toList then -1 else if a.toList == b.toList then 0 else 1
def cmpI (a b : Int) : Int := if a < b then -1 else if b < a then 1 else 0
theorem nan_s (x : ByteArray) (w : World) : Calls Tryd.prog 105 #[.string x] w fun e w' => e = .returned (.bool false) ∧ w = w' := by
  have hx : (x.toList == x.toList) = true := by simp
  go_enter Tryd.func105, Tryd.ntmps105
  go_wp2_with fail
  go_ret
  exact ⟨by first | rfl | simp, rfl⟩
theorem nan_i (x : Int) (w : World) : Calls Tryd.prog 106 #[.int .i64 x] w fun e w' => e = .returned (.bool false) ∧ w = w' := by
  have hx : (x != x) = false := by simp
  go_enter Tryd.func106, Tryd.ntmps106
  go_wp2_with fail
  go_ret
  exact ⟨by first | rfl | simp, rfl⟩
set_option maxHeartbeats 1000000 in
theorem cmp_s (a b : ByteArray) (w : World) : Calls Tryd.prog 96 #[.string a, .string b] w fun e w' => e = .returned (.int .i64 (cmpS a b)) ∧ w' = w := by
  have K1 := Lib.hid (nan_s a w)
  have K2 := Lib.hid (nan_s b w)
  obtain ⟨L, hL⟩ : ∃ L, Op.bytesLess a.toList b.toList = L := ⟨_, rfl⟩
  obtain ⟨E, hE⟩ : ∃ E, (a.toList == b.toList) = E := ⟨_, rfl⟩
  have hr : cmpS a b = if L then -1 else if E then 0 else 1 := by unfold cmpS; rw [hL, hE]
  rw [hr]
  clear hr
  cases L with
  | true =>
    go_enter Tryd.func96, Tryd.ntmps96
    go_wp2_with fail
    refine K1.out.mono ?_
    rintro e w' ⟨rfl, rfl⟩
    go_wp2_with fail
    refine K2.out.mono ?_
    rintro e w' ⟨rfl, rfl⟩
    go_wp2_with fail
    go_ret
    exact ⟨rfl, rfl⟩
  | false =>
    cases E with
    | true =>
      go_enter Tryd.func96, Tryd.ntmps96
      go_wp2_with fail
      refine K1.out.mono ?_
      rintro e w' ⟨rfl, rfl⟩
      go_wp2_with fail
      refine K2.out.mono ?_
      rintro e w' ⟨rfl, rfl⟩
      go_wp2_with fail
      go_ret
      exact ⟨rfl, rfl⟩
    | false =>
      go_enter Tryd.func96, Tryd.ntmps96
      go_wp2_with fail
      refine K1.out.mono ?_
      rintro e w' ⟨rfl, rfl⟩
      go_wp2_with fail
      refine K2.out.mono ?_
      rintro e w' ⟨rfl, rfl⟩
      go_wp2_with fail
      go_ret
      exact ⟨rfl, rfl⟩
set_option maxHeartbeats 1000000 in
theorem cmp_i (a b : Int) (w : World) : Calls Tryd.prog 97 #[.int .i64 a, .int .i64 b] w fun e w' => e = .returned (.int .i64 (cmpI a b)) ∧ w' = w := by
  have K1 := Lib.hid (nan_i a w)
  have K2 := Lib.hid (nan_i b w)
  by_cases h1 : a < b
  · have hr : cmpI a b = -1 := by unfold cmpI; rw [if_pos h1]
    rw [hr]
    clear hr
    go_enter Tryd.func97, Tryd.ntmps97
    go_wp2_with fail
    refine K1.out.mono ?_
    rintro e w' ⟨rfl, rfl⟩
    go_wp2_with fail
    refine K2.out.mono ?_
    rintro e w' ⟨rfl, rfl⟩
    go_wp2_with fail
    go_ret
    exact ⟨rfl, rfl⟩
  · by_cases h2 : b < a
    · have hr : cmpI a b = 1 := by unfold cmpI; rw [if_neg h1, if_pos h2]
      rw [hr]
      clear hr
      go_enter Tryd.func97, Tryd.ntmps97
      go_wp2_with fail
      refine K1.out.mono ?_
      rintro e w' ⟨rfl, rfl⟩
      go_wp2_with fail
      refine K2.out.mono ?_
      rintro e w' ⟨rfl, rfl⟩
      go_wp2_with fail
      go_ret
      exact ⟨rfl, rfl⟩
    · have hr : cmpI a b = 0 := by unfold cmpI; rw [if_neg h1, if_neg h2]
      rw [hr]
      clear hr
      go_enter Tryd.func97, Tryd.ntmps97
      go_wp2_with fail
      refine K1.out.mono ?_
      rintro e w' ⟨rfl, rfl⟩
      go_wp2_with fail
      refine K2.out.mono ?_
      rintro e w' ⟨rfl, rfl⟩
      go_wp2_with fail
      go_ret
      exact ⟨rfl, rfl⟩
/-- The first of two that is not 0. -/
theorem cmp_or (x y : Int) (g c : Nat) (w : World) (h0 : w.cell? ⟨g, 0, none⟩ = some (.int .i64 x)) (h1 : w.cell? ⟨g, 1, none⟩ = some (.int .i64 y)) :
    Calls Tryd.prog 95 #[.slice (some ⟨g, 0, none⟩) 2 c] w fun e w' => e = .returned (.int .i64 (if x = 0 then y else x)) ∧ w' = w := by
  obtain ⟨R, hR⟩ : ∃ R, (if x = 0 then y else x) = R := ⟨_, rfl⟩
  have HR := Lib.hid hR
  rw [hR]
  clear hR
  go_enter Tryd.func95, Tryd.ntmps95
  go_wp2_with fail
  go_loop [8] (fun v => ∃ k : Nat, v = .int .i64 k ∧ Hid (k = 0 ∨ (k = 1 ∧ x = 0) ∨ (k = 2 ∧ x = 0 ∧ y = 0))) (fun v => 2 - (intOf v).toNat)
  case atStart => exact ⟨0, rfl, Lib.hid (.inl rfl)⟩
  case round =>
    obtain ⟨k, rfl, hk⟩ := hrel
    have hk2 : k ≤ 2 := by have := hk.out; omega
    rcases Nat.eq_zero_or_pos k with h | h
    · subst h
      by_cases hx : x = 0
      · have hx' : (x != 0) = false := by simp [hx]
        have HX := Lib.hid hx
        clear hx
        go_wp2_with fail
        go_round
        case rel => exact ⟨1, by go_num, Lib.hid (.inr (.inl ⟨rfl, HX.out⟩))⟩
        case measure => simp [intOf] <;> omega
      · have hx' : (x != 0) = true := by simp [hx]
        have HX : Hid (x = R) := Lib.hid (by rw [← HR.out, if_neg hx])
        clear hx
        go_wp2_with fail
        go_ret
        exact ⟨by rw [← HX.out]; rfl, rfl⟩
    · have HX : Hid (x = 0) := Lib.hid (by have := hk.out; omega)
      rcases Nat.lt_or_ge k 2 with h2 | h2
      · obtain rfl : k = 1 := by omega
        by_cases hy : y = 0
        · have hy' : (y != 0) = false := by simp [hy]
          have HY := Lib.hid hy
          clear hy
          go_wp2_with fail
          go_round
          case rel => exact ⟨2, by go_num, Lib.hid (.inr (.inr ⟨rfl, HX.out, HY.out⟩))⟩
          case measure => simp [intOf] <;> omega
        · have hy' : (y != 0) = true := by simp [hy]
          have HY : Hid (y = R) := Lib.hid (by rw [← HR.out, if_pos HX.out])
          clear hy
          go_wp2_with fail
          go_ret
          exact ⟨by rw [← HY.out]; rfl, rfl⟩
      · obtain rfl : k = 2 := by omega
        have HY : Hid (0 = R) := Lib.hid (by rw [← HR.out, if_pos HX.out]; have := hk.out; omega)
        go_wp2_with fail
        go_ret
        exact ⟨by rw [← HY.out]; rfl, rfl⟩
/-- The order of places. -/
def befo (p q : ByteArray × Nat) : Int := if cmpS p.1 q.1 = 0 then cmpI p.2 q.2 else cmpS p.1 q.1
set_option maxRecDepth 100000 in
set_option maxHeartbeats 2000000 in
theorem blk_before (p q : ByteArray × Nat) (w : World) : Calls Tryd.prog 69 #[.agg #[.string p.1, .int .i64 p.2], .agg #[.string q.1, .int .i64 q.2]] w fun e w' => e = .returned (.int .i64 (befo p q)) ∧ Chg [] w w' := by
  obtain ⟨s, i⟩ := p
  obtain ⟨t, j⟩ := q
  obtain ⟨a, ha⟩ : ∃ a, cmpS s t = a := ⟨_, rfl⟩
  obtain ⟨b, hb⟩ : ∃ b, cmpI i j = b := ⟨_, rfl⟩
  have hr : befo (s, i) (t, j) = if a = 0 then b else a := by unfold befo; rw [ha, hb]
  have K1 := Lib.hid (fun w => cmp_s s t w)
  have K2 := Lib.hid (fun w => cmp_i i j w)
  rw [ha] at K1
  rw [hb] at K2
  have KOR := Lib.hid (fun g w h0 h1 => cmp_or a b g 2 w h0 h1)
  obtain ⟨R, hR⟩ : ∃ R, (if a = 0 then b else a) = R := ⟨_, rfl⟩
  rw [hr]
  rw [hR] at KOR ⊢
  clear hr ha hb hR
  have C1 := Chg.alloc [] w (.cells #[.string s, .int .i64 i] 57)
  have C2 := Chg.alloc [] (w.alloc (.cells #[.string s, .int .i64 i] 57)) (.cells #[.string t, .int .i64 j] 57)
  have hp := heap_alloc_new w (.cells #[.string s, .int .i64 i] 57)
  have hq := heap_alloc_new (w.alloc (.cells #[.string s, .int .i64 i] 57)) (.cells #[.string t, .int .i64 j] 57)
  have hp2 := (C2.block _ (lt_of_block hp) (by simp)).trans hp
  have T2 := C1.trans C2 (by simp)
  simp only [World.size_alloc] at hq
  go_enter Tryd.func69, Tryd.ntmps69
  go_upto_region 1 with (fail)
  generalize (w.alloc (.cells #[.string s, .int .i64 i] 57)).alloc (.cells #[.string t, .int .i64 j] 57) = w2 at *
  obtain ⟨g, hg⟩ : ∃ g, w.heap.size = g := ⟨_, rfl⟩
  rw [hg] at hp2 hq ⊢
  have p0 : w2.cell? ⟨g, 0, none⟩ = some (.string s) := by rw [cell_of_row _ _ _ _ _ _ hp2]; rfl
  have p1 : w2.cell? ⟨g, 1, none⟩ = some (.int .i64 i) := by rw [cell_of_row _ _ _ _ _ _ hp2]; rfl
  have q0 : w2.cell? ⟨g + 1, 0, none⟩ = some (.string t) := by rw [cell_of_row _ _ _ _ _ _ hq]; rfl
  have q1 : w2.cell? ⟨g + 1, 1, none⟩ = some (.int .i64 j) := by rw [cell_of_row _ _ _ _ _ _ hq]; rfl
  clear hp hp2 hq hg C1 C2
  refine wp_region_still_tail 10 (by kernel_rfl) (by kernel_rfl) ?_
  simp only [List.take_succ_cons, List.take_zero, List.drop_succ_cons, List.drop_zero]
  repeat still_step
  still_call (K1.out _)
  repeat still_step
  still_call (K2.out _)
  repeat still_step
  refine wpStill_nil ?_
  change wpList _ _ _ _ _ w2.drew
  have CA := Chg.alloc [] w2 (.cells #[.int .i64 a, .int .i64 b] 3)
  have ho := heap_alloc_new w2 (.cells #[.int .i64 a, .int .i64 b] 3)
  go_wp2_with fail
  refine (KOR.out w2.heap.size _ (by show World.cell? (w2.alloc _) _ = _; rw [cell_of_row _ _ _ _ _ _ ho]; rfl) (by show World.cell? (w2.alloc _) _ = _; rw [cell_of_row _ _ _ _ _ _ ho]; rfl)).mono ?_
  rintro e w' ⟨rfl, rfl⟩
  go_wp2_with fail
  go_ret
  exact ⟨rfl, (T2.trans CA (by simp)).trans (Chg.drewN [] _ 1) (by simp)⟩
end Go.Proofs.YtfdhpjflkimihaaDoor
/- slices.MinFunc of places, walked. No conditions beyond those that each statement types. -/
namespace Go.Proofs.YtfdhpjflkimihaaDoor
open Go.RowKit

abbrev Pl := ByteArray × Nat
def plC (p : Pl) : Array Value := #[.string p.1, .int .i64 p.2]
theorem plC_one (p : Pl) : (plC p).all (·.oneCell') = true := by simp [plC, Value.oneCell']
theorem Tryd.infoPl : (Tryd.prog.info? 57).map (·.size) = some 2 := by kernel_rfl
/-- The least of places, as the program seeks it. -/
def minTo (p : Pl) (r : List Pl) : Nat → Pl
  | 0 => p
  | k + 1 => match r[k]? with
    | none => minTo p r k
    | some x => if befo x (minTo p r k) < 0 then x else minTo p r k
theorem store_pl (w : World) (g : Nat) (old : Array Value) (p : Pl) (h : w.heap[g]? = some (.cells old 57 (0, 0))) (ho : old.size = 2) :
    (Instr.storeAt 57 (.pointer (some ⟨g, 0, none⟩)) (.agg (plC p))).run Tryd.prog w = .ok () (w.setRow g (plC p)) :=
  run_storeAt_row w g _ _ old (plC p) h Tryd.infoPl ho (plC_one p)
theorem load_pl (w : World) (g : Nat) (p : Pl) (h : w.heap[g]? = some (.cells (plC p) 57 (0, 0))) :
    (Instr.loadAt 57 (.pointer (some ⟨g, 0, none⟩))).run Tryd.prog w = .ok (.agg (plC p)) w := by
  simp only [Instr.loadAt, Instr.sureAddr, Sem.run_bind, Sem.run_pure, Result.andThen]
  exact run_loadVar_row w g _ _ (plC p) (0, 0) _ h Tryd.underlying57 rfl Tryd.infoPl
set_option maxRecDepth 100000 in
set_option maxHeartbeats 4000000 in
theorem blk_min (p : Pl) (r : List Pl) (g c : Nat) (w : World) (ho : w.ownsRow 0 57 2 (.slice (some ⟨g, 0, none⟩) (r.length + 1) c) (r.length + 1) (plvs (p :: r))) (hn : r.length ≤ 1000000) :
    Calls Tryd.prog 68 #[.slice (some ⟨g, 0, none⟩) (r.length + 1) c, .func (.func 69) #[] #[]] w fun e w' => e = .returned (.agg (plC (minTo p r r.length))) ∧ Chg [] w w' := by
  have hcell : Hid (∀ k x wr, (p :: r)[k]? = some x → Chg [] w wr → wr.cell? ⟨g, k * 2, none⟩ = some (.string x.1) ∧ wr.cell? ⟨g, k * 2 + 1, none⟩ = some (.int .i64 x.2)) := Lib.hid (fun k x wr hk C => by
    obtain ⟨h1, h2⟩ := plvs_at hk
    have e1 := ho.cells (g := g) rfl _ _ h1
    have e2 := ho.cells (g := g) rfl _ _ h2
    rw [addr_add0] at e1 e2
    exact ⟨C.cell_some e1 (by simp), C.cell_some e2 (by simp)⟩)
  have hgl : g < w.heap.size := by
    have := (hcell.out 0 p w rfl (Chg.refl _ _)).1
    exact World.block_lt_of_cell? _ _ this
  obtain ⟨n, hn1⟩ : ∃ n, r.length + 1 = n := ⟨_, rfl⟩
  have HN := Lib.hid hn1
  have hn0 : 1 ≤ n := by omega
  have hn2 : n ≤ 1000001 := by omega
  have hn3 : ¬ (n : Int) < 1 := by omega
  rw [hn1]
  clear ho hn hn1
  have C1 := Chg.alloc [] w (.cells #[.string ⟨#[]⟩, .int .i64 0] 57)
  have h0 := heap_alloc_new w (.cells #[.string ⟨#[]⟩, .int .i64 0] 57)
  have HS1 := Lib.hid (show (w.alloc (.cells #[.string ⟨#[]⟩, .int .i64 0] 57)).heap.size = w.heap.size + 1 by simp)
  obtain ⟨x0, x1⟩ := hcell.out 0 p _ rfl C1
  simp only [Nat.zero_mul, Nat.zero_add] at x0 x1
  go_enter Tryd.func68, Tryd.ntmps68
  go_upto_region 1 with (fail)
  generalize w.alloc (.cells #[.string ⟨#[]⟩, .int .i64 0] 57) = w1 at *
  obtain ⟨q, hq⟩ : ∃ q, w.heap.size = q := ⟨_, rfl⟩
  rw [hq] at h0 HS1 ⊢
  have HQ := Lib.hid hq
  clear hq
  go_upto_region 4 with (refine wpList_store_y 57 (.tmp 5) (.tmp 13) rfl rfl (.pointer (some ⟨w1.heap.size, 0, none⟩)) (.agg (plC p)) _ (run_storeAt_new w1 _ #[.string ⟨#[]⟩, .int .i64 0] (plC p) Tryd.infoPl rfl (plC_one p)) rfl rfl ?_)
  have h1 := heap_alloc_new w1 (.cells (plC p) 57)
  have C2 := Chg.alloc [] w1 (.cells (plC p) 57)
  generalize w1.alloc (.cells (plC p) 57) = w2 at *
  rw [HS1.out] at h1 ⊢
  have H0 := Lib.hid ((C2.block _ (lt_of_block h0) (by simp)).trans h0)
  have H1 := Lib.hid h1
  have HC := Lib.hid (C1.trans C2 (by simp))
  clear h0 h1 C1 C2 x0 x1 HS1
  go_wp2_with fail
  go_loopw [6] (fun v wr => ∃ k : Nat, v = .int .i64 ((k : Int) + 1) ∧ k + 1 ≤ n ∧ Hid (wr.heap[q]? = some (.cells #[.string ⟨#[]⟩, .int .i64 0] 57 (0, 0))) ∧ Hid (wr.heap[q + 1]? = some (.cells (plC (minTo p r k)) 57 (0, 0))) ∧ Hid (Chg [] w wr)) (fun v _ => n + 1 - (intOf v).toNat)
  case atStart => exact ⟨0, by go_num, by omega, H0, H1, HC⟩
  case round =>
    obtain ⟨k, rfl, hk, H0, H1, HC⟩ := hrel
    by_cases hlt : k + 1 < n
    · have e1 : (k : Int) + 1 < n := by omega
      have e2 : ((k : Int) + 1).toNat = k + 1 := by omega
      have e3 : (0 : Int) ≤ (k : Int) + 1 := by omega
      obtain ⟨x, hx⟩ : ∃ x, r[k]? = some x := ⟨_, List.getElem?_eq_getElem (by have := HN.out; omega)⟩
      have hx' : (p :: r)[k + 1]? = some x := by simpa using hx
      obtain ⟨m, hm⟩ : ∃ m, minTo p r k = m := ⟨_, rfl⟩
      have HM : Hid (minTo p r (k + 1) = if befo x m < 0 then x else m) := Lib.hid (by rw [minTo, hx, hm])
      rw [hm] at H1
      obtain ⟨y0, y1⟩ := hcell.out (k + 1) x wr hx' HC.out
      have z0 : wr.cell? ⟨q + 1, 0, none⟩ = some (.string m.1) := by rw [cell_of_row _ _ _ _ _ _ H1.out]; rfl
      have z1 : wr.cell? ⟨q + 1, 1, none⟩ = some (.int .i64 m.2) := by rw [cell_of_row _ _ _ _ _ _ H1.out]; rfl
      obtain ⟨B, hB⟩ : ∃ B, befo x m = B := ⟨_, rfl⟩
      have KB := blk_before x m wr.drew
      rw [hB] at KB
      rw [hB] at HM
      have HK := Lib.hid KB
      clear hm hx hB KB
      go_upto_region 7 with (fail)
      go_still_tail 6, (by kernel_rfl)
      change wpList _ _ _ _ _ wr.drew
      go_wp2_with fail
      go_outline
      refine HK.out.mono ?_
      rintro e w5 ⟨rfl, C5⟩
      have HC5 := Lib.hid (HC.out.trans ((Chg.drewN [] wr 1).trans C5 (by simp)) (by simp))
      have h0 := (C5.block q (lt_of_block H0.out) (by simp)).trans H0.out
      have h1 := (C5.block (q + 1) (lt_of_block H1.out) (by simp)).trans H1.out
      by_cases hB : B < 0
      · rw [if_pos hB] at HM
        obtain ⟨u0, u1⟩ := hcell.out (k + 1) x w5 hx' HC5.out
        have hr := setRow_heap w5 (q + 1) _ (plC x) _ _ h1
        have C6 : Chg [] w (w5.setRow (q + 1) (plC x)) := HC5.out.trans (Chg.setRow (S := [q + 1]) w5 (q + 1) (plC x) (.inl (by simp))) (fun j hj => by simp at hj; right; have := HQ.out; omega)
        have hh := (setRow_other w5 (q + 1) q (plC x) (by omega)).trans h0
        have HR0 := Lib.hid hh
        have HR1 : Hid ((w5.setRow (q + 1) (plC x)).heap[q + 1]? = some (.cells (plC (minTo p r (k + 1))) 57 (0, 0))) := Lib.hid (by rw [HM.out]; exact hr)
        have HC6 := Lib.hid C6
        clear hh hr C6 y0 y1 z0 z1 h0
        go_upto_region 6 with (refine wpList_store_y 57 (.tmp 5) (.tmp 31) rfl rfl (.pointer (some ⟨q + 1, 0, none⟩)) (.agg (plC x)) _ (store_pl w5 (q + 1) _ x h1 rfl) rfl rfl ?_)
        go_wp2_with fail
        refine ⟨⟨k + 1, by rw [Int.natCast_add]; rfl, by omega, HR0, HR1, HC6⟩, ?_⟩
        show n + 1 - ((k : Int) + 1 + 1).toNat < n + 1 - ((k : Int) + 1).toNat
        omega
      · rw [if_neg hB] at HM
        rw [← HM.out] at h1
        have HR0 := Lib.hid h0
        have HR1 := Lib.hid h1
        clear h0 h1 y0 y1 z0 z1
        go_wp2_with fail
        refine ⟨⟨k + 1, by rw [Int.natCast_add]; rfl, by omega, HR0, HR1, HC5⟩, ?_⟩
        show n + 1 - ((k : Int) + 1 + 1).toNat < n + 1 - ((k : Int) + 1).toNat
        omega
    · have hkr : k = r.length := by have := HN.out; omega
      obtain ⟨m, hm⟩ : ∃ m, minTo p r k = m := ⟨_, rfl⟩
      have HM : Hid (minTo p r r.length = m) := Lib.hid (by rw [← hkr, hm])
      rw [hm] at H1
      have z0 : wr.cell? ⟨q + 1, 0, none⟩ = some (.string m.1) := by rw [cell_of_row _ _ _ _ _ _ H1.out]; rfl
      have z1 : wr.cell? ⟨q + 1, 1, none⟩ = some (.int .i64 m.2) := by rw [cell_of_row _ _ _ _ _ _ H1.out]; rfl
      have hr := setRow_heap wr q _ (plC m) _ _ H0.out
      have C6 : Chg [] w (wr.setRow q (plC m)) := HC.out.trans (Chg.setRow (S := [q]) wr q (plC m) (.inl (by simp))) (fun j hj => by simp at hj; right; have := HQ.out; omega)
      have HR := Lib.hid hr
      have HC6 := Lib.hid C6
      have e1 : ¬ ((k : Int) + 1 < n) := by omega
      clear hr hkr hm C6
      go_upto_region 9 with (fail)
      go_wp2_with (refine wpList_store_y 57 (.tmp 4) (.tmp 32) rfl rfl (.pointer (some ⟨q, 0, none⟩)) (.agg (plC m)) _ (store_pl wr q _ m H0.out rfl) rfl rfl ?_)
      exact bodyPost_ret (results_cell_row rfl _ _ q _ (plC m) _ _ rfl HR.out Tryd.underlying57 rfl Tryd.infoPl) rfl ⟨by rw [HM.out], HC6.out⟩
end Go.Proofs.YtfdhpjflkimihaaDoor
/- Len, the test by name, slices.IndexFunc of places, walked. No conditions beyond those that each statement types. -/
namespace Go.Proofs.YtfdhpjflkimihaaDoor
open Go.RowKit

theorem blk_named (p : Pl) (nm : ByteArray) (g : Nat) (w : World) (h : w.cell? ⟨g, 0, none⟩ = some (.string nm)) :
    Calls Tryd.prog 67 #[.agg (plC p), .pointer (some ⟨g, 0, none⟩)] w fun e w' => e = .returned (.bool (p.1.toList == nm.toList)) ∧ Chg [] w w' := by
  obtain ⟨s, i⟩ := p
  have C1 := Chg.alloc [] w (.cells (plC (s, i)) 57)
  have h' := C1.cell_some h (by simp)
  have hx := heap_alloc_new w (.cells (plC (s, i)) 57)
  have z0 : (w.alloc (.cells (plC (s, i)) 57)).cell? ⟨w.heap.size, 0, none⟩ = some (.string s) := by rw [cell_of_row _ _ _ _ _ _ hx]; rfl
  clear hx
  go_enter Tryd.func67, Tryd.ntmps67
  go_wp2_with fail
  go_ret
  exact ⟨rfl, C1⟩
set_option maxRecDepth 100000 in
set_option maxHeartbeats 4000000 in
theorem blk_len (b bf bp : Nat) (F : Files) (G : HKey → List Pl) (fv : List (ByteArray × Value)) (pv : List (HKey × Value)) (S : List Nat) (w : World) (H : FinderIs w b bf bp F G fv pv S) :
    Calls Tryd.prog 33 #[.pointer (some ⟨b, 0, none⟩)] w fun e w' => e = .returned (.int .i64 F.length) ∧ w = w' := by
  have hm := H.map.1
  have hl : fv.length = F.length := by have := congrArg List.length H.names; simpa using this
  obtain ⟨es, c, hb, hsz⟩ := H.files.len
  rw [hl] at hsz
  have hlen : (Builtin.len_ #[66] 3 #[.map (some bf)]).run Tryd.prog w = .ok (.int .i64 (F.length : Int)) w := by
    rw [← hsz]
    simp [Builtin.len_, run_underlying Tryd.underlying66, MapKept.run_getObj_map hb, goInt, Result.andThen]
  have K := Lib.hid (blk_is_map b (some bf) w hm)
  go_enter Tryd.func33, Tryd.ntmps33
  go_wp2_with fail
  refine K.out.mono ?_
  rintro e w5 ⟨rfl, rfl⟩
  go_wp2_with fail
  go_ret
  exact ⟨rfl, rfl⟩
set_option maxRecDepth 100000 in
set_option maxHeartbeats 4000000 in
/-- IndexFunc of the places of a name: K is the first that bears it, or -1. -/
theorem blk_index (ps : List Pl) (nm : ByteArray) (K : Int) (ao : Option Addr) (c gb : Nat) (w : World) (ho : w.ownsRow 0 57 2 (.slice ao ps.length c) ps.length (plvs ps)) (hn : ps.length ≤ 1000000)
    (hb : w.cell? ⟨gb, 0, none⟩ = some (.string nm)) (h1 : ∀ (i : Nat) (x : Pl), ps[i]? = some x → x.1.toList = nm.toList → K ≠ -1 ∧ K ≤ (i : Int)) (h2 : K = -1 ∨ ∃ (n : Nat) (x : Pl), K = n ∧ ps[n]? = some x ∧ x.1.toList = nm.toList) :
    Calls Tryd.prog 94 #[.slice ao ps.length c, .func (.func 67) #[] #[.pointer (some ⟨gb, 0, none⟩)]] w fun e w' => e = .returned (.int .i64 K) ∧ Chg [] w w' := by
  have hcell : Hid (∀ g k x wr, ao = some ⟨g, 0, none⟩ → ps[k]? = some x → Chg [] w wr → wr.cell? ⟨g, k * 2, none⟩ = some (.string x.1) ∧ wr.cell? ⟨g, k * 2 + 1, none⟩ = some (.int .i64 x.2)) := Lib.hid (fun g k x wr hg hk C => by
    subst hg
    obtain ⟨h1, h2⟩ := plvs_at hk
    have e1 := ho.cells (g := g) rfl _ _ h1
    have e2 := ho.cells (g := g) rfl _ _ h2
    rw [addr_add0] at e1 e2
    exact ⟨C.cell_some e1 (by simp), C.cell_some e2 (by simp)⟩)
  have hgo : Hid (0 < ps.length → ∃ g, ao = some ⟨g, 0, none⟩) := Lib.hid (fun h => by
    rcases ho.2 with ⟨_, h0⟩ | ⟨g, cap, cur, hv, _⟩
    · omega
    · cases hv; exact ⟨g, rfl⟩)
  have HB := Lib.hid (fun wr (C : Chg [] w wr) (p : Pl) => blk_named p nm gb wr (C.cell_some hb (by simp)))
  obtain ⟨n, hn1⟩ : ∃ n, ps.length = n := ⟨_, rfl⟩
  have HN := Lib.hid hn1
  have hn2 : n ≤ 1000000 := by omega
  have HK1 := Lib.hid h1
  have HK2 := Lib.hid h2
  rw [hn1]
  clear ho hn hn1 h1 h2 hb
  have HC := Lib.hid (Chg.refl [] w)
  have HX := Lib.hid (show ∀ (i : Nat) (x : Pl), i < 0 → ps[i]? = some x → x.1.toList ≠ nm.toList from fun i x h => by omega)
  go_enter Tryd.func94, Tryd.ntmps94
  go_wp2_with fail
  go_loopw [8] (fun v wr => ∃ k : Nat, v = .int .i64 (k : Int) ∧ k ≤ n ∧ Hid (∀ (i : Nat) (x : Pl), i < k → ps[i]? = some x → x.1.toList ≠ nm.toList) ∧ Hid (Chg [] w wr)) (fun v _ => n - (intOf v).toNat)
  case atStart => exact ⟨0, rfl, by omega, HX, HC⟩
  case round =>
    obtain ⟨k, rfl, hk, HX, HC⟩ := hrel
    by_cases hlt : k < n
    · have e1 : (k : Int) < n := by omega
      obtain ⟨x, hx⟩ : ∃ x, ps[k]? = some x := ⟨_, List.getElem?_eq_getElem (by have := HN.out; omega)⟩
      obtain ⟨g, rfl⟩ := hgo.out (by have := HN.out; omega)
      obtain ⟨y0, y1⟩ := hcell.out g k x wr rfl hx HC.out
      have KB := Lib.hid (HB.out wr HC.out x)
      go_wp2_with fail
      refine KB.out.mono ?_
      rintro e w5 ⟨rfl, C5⟩
      have HC5 := Lib.hid (HC.out.trans C5 (by simp))
      by_cases hB : x.1.toList = nm.toList
      · have hb : (x.1.toList == nm.toList) = true := by simpa using hB
        have hK : Hid (K = (k : Int)) := Lib.hid (by
          obtain ⟨a1, a2⟩ := HK1.out k x hx hB
          rcases HK2.out with h | ⟨m, y, h, hy, hye⟩
          · exact absurd h a1
          · by_cases hmk : m < k
            · exact absurd hye (HX.out m y hmk hy)
            · omega)
        clear hB hx y0 y1
        go_wp2_with fail
        go_ret
        exact ⟨by rw [hK.out]; rfl, HC5.out⟩
      · have hb : (x.1.toList == nm.toList) = false := by simpa using hB
        have HX5 : Hid (∀ (i : Nat) (x : Pl), i < k + 1 → ps[i]? = some x → x.1.toList ≠ nm.toList) := Lib.hid (fun i y hi hy => by
          by_cases hik : i < k
          · exact HX.out i y hik hy
          · have : i = k := by omega
            subst this
            rw [hx] at hy
            cases hy
            exact hB)
        clear hB hx y0 y1
        go_wp2_with fail
        refine ⟨⟨k + 1, by rw [Int.natCast_add]; rfl, by omega, HX5, HC5⟩, ?_⟩
        show n - ((k : Int) + 1).toNat < n - (k : Int).toNat
        omega
    · have e1 : ¬ ((k : Int) < n) := by omega
      have hK : Hid (K = -1) := Lib.hid (by
        rcases HK2.out with h | ⟨m, y, h, hy, hye⟩
        · exact h
        · have := (List.getElem?_eq_some_iff.1 hy).1
          exact absurd hye (HX.out m y (by have := HN.out; omega) hy))
      go_wp2_with fail
      go_ret
      exact ⟨by rw [hK.out]; rfl, HC.out⟩
end Go.Proofs.YtfdhpjflkimihaaDoor
