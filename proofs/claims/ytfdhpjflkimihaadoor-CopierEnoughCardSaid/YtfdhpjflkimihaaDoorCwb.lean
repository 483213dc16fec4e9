/- The copier's may, walked. No conditions beyond those that each statement types. -/
import Derived.Test.YtfdhpjflkimihaaDoorCwa
import Derived.Test.YtfdhpjflkimihaaDoorBkXr
import Derived.Test.YtfdhpjflkimihaaDoorBkWm
namespace Go.Proofs.YtfdhpjflkimihaaDoor
open Go.RowKit

/-- May no step of block k be so? -/
def badS (k : Nat) (s : StepV) : Bool := decide (s.block ≠ (k : Int) ∨ s.from_ < 1 ∨ 4 < s.from_ ∨ (s.from_ = 3 ∧ (s.same < 0 ∨ (k : Int) ≤ s.same)))
def mayB (l : List StepV) (many : Nat) : Bool := ((List.range l.length).all fun k => !badS k (l.getD k ⟨0, 0, ⟨#[]⟩, 0, 0⟩)) && decide (l.length = many)
theorem mayB_bad {l : List StepV} {many k : Nat} {s : StepV} (h : l[k]? = some s) (hb : badS k s = true) : mayB l many = false := by
  unfold mayB
  rw [Bool.and_eq_false_iff]
  left
  rw [List.all_eq_false]
  refine ⟨k, List.mem_range.2 (List.getElem?_eq_some_iff.1 h).1, ?_⟩
  rw [List.getD, h, Option.getD_some, hb]
  decide
theorem mayB_all {l : List StepV} {many : Nat} (h : ∀ t s, t < l.length → l[t]? = some s → badS t s = false) : mayB l many = decide (l.length = many) := by
  unfold mayB
  rw [List.all_eq_true.2, Bool.true_and]
  intro k hk
  have hk := List.mem_range.1 hk
  rw [List.getD, List.getElem?_eq_getElem hk, Option.getD_some, h k _ hk (List.getElem?_eq_getElem hk)]
  rfl
set_option maxRecDepth 100000 in
set_option maxHeartbeats 4000000 in
theorem cp_may (l : List StepV) (so : Option Addr) (sc many : Nat) (w : World) (hs : Src w so (svs l)) (hlc : l.length ≤ sc) (hl : l.length ≤ 1000000) :
    Calls Tryd.prog 86 #[.slice so l.length sc, .int .i64 many] w fun e w' => e = .returned (.bool (mayB l many)) ∧ Chg [] w w' := by
  have HST := Lib.hid (fun (k : Nat) (s : StepV) (h : l[k]? = some s) (wr : World) (C : Chg [] w wr) => show ∃ a, so = some a ∧ (Instr.loadAt 85 (.pointer (some (a.add (k * 5))))).run Tryd.prog wr = .ok (.agg s.cells) wr from by
    obtain ⟨a, rfl, _⟩ := hs.lt (by
      have h1 := (List.getElem?_eq_some_iff.1 h).1
      rw [show (svs l).length = l.length * 5 from flat_length (enc := fun s : StepV => s.cells.toList) (size := 5) (fun _ => rfl) l]
      omega)
    exact ⟨a, rfl, load_step (hs.chg C (by simp)) h⟩)
  have HGE := Lib.hid (fun k (hk : k < l.length) => show ∃ s, l[k]? = some s from ⟨_, List.getElem?_eq_getElem hk⟩)
  obtain ⟨n, hn⟩ : ∃ n, l.length = n := ⟨_, rfl⟩
  have HNN := Lib.hid hn
  rw [hn] at hl hlc HGE ⊢
  clear hs hn
  go_enter Tryd.func86, Tryd.ntmps86
  go_wp2_with fail
  go_loopw [9] (fun v9 wr => ∃ k : Nat, v9 = .int .i64 (k : Int) ∧ k ≤ n ∧ Hid (∀ t s, t < k → l[t]? = some s → badS t s = false) ∧ Hid (Chg [] w wr)) (fun v _ => n - (intOf v).toNat)
  case atStart => exact ⟨0, rfl, Nat.zero_le _, Lib.hid (fun t s ht => by omega), Lib.hid (Chg.refl _ _)⟩
  case round =>
    obtain ⟨k, rfl, hk, HB, HC⟩ := hrel
    by_cases hlt : k < n
    · have e1 : (k : Int) < n := Int.ofNat_lt.2 hlt
      have e0 : (0 : Int) ≤ k := Int.natCast_nonneg _
      have hkc : k < sc := by omega
      obtain ⟨s, hsk⟩ := HGE.out k hlt
      obtain ⟨a, rfl, hld⟩ := HST.out k s hsk wr HC.out
      obtain ⟨s1, s2, s3, s4, s5⟩ := s
      have HSK := Lib.hid hsk
      simp only [StepV.cells] at hld
      have CA := Chg.alloc [] wr (.cells #[.int .i64 s1, .int .i64 s2, .string s3, .int .i64 s4, .int .i64 s5] 85)
      have hx4 := heap_alloc_new wr (.cells #[.int .i64 s1, .int .i64 s2, .string s3, .int .i64 s4, .int .i64 s5] 85)
      clear hsk
      go_upto_region 4 with (refine wpList_load_y 85 (.tmp 12) rfl (by go_simp) (.pointer (some (a.add (k * 5)))) (.agg #[.int .i64 s1, .int .i64 s2, .string s3, .int .i64 s4, .int .i64 s5]) hld rfl ?_)
      obtain ⟨q, hq⟩ : ∃ q, wr.heap.size = q := ⟨_, rfl⟩
      rw [hq] at hx4 ⊢
      generalize wr.alloc (.cells #[.int .i64 s1, .int .i64 s2, .string s3, .int .i64 s4, .int .i64 s5] 85) = w4 at *
      have c0 : w4.cell? ⟨q, 0, none⟩ = some (.int .i64 s1) := by rw [cell_of_row _ _ _ _ _ _ hx4]; rfl
      have c1 : w4.cell? ⟨q, 1, none⟩ = some (.int .i64 s2) := by rw [cell_of_row _ _ _ _ _ _ hx4]; rfl
      have c4 : w4.cell? ⟨q, 4, none⟩ = some (.int .i64 s5) := by rw [cell_of_row _ _ _ _ _ _ hx4]; rfl
      have HC4 := Lib.hid (HC.out.trans CA (by simp))
      clear hld hx4 CA hq
      by_cases h1 : s1 = (k : Int)
      · by_cases h2 : s2 < 1
        · have HBD : Hid (badS k ⟨s1, s2, s3, s4, s5⟩ = true) := Lib.hid (by unfold badS; simp only []; rw [decide_eq_true_iff]; omega)
          have HR : Hid (mayB l many = false) := Lib.hid (mayB_bad HSK.out HBD.out)
          clear HB
          go_wp2_with fail
          go_ret
          exact ⟨by rw [HR.out]; rfl, HC4.out⟩
        · by_cases h3 : 4 < s2
          · have HBD : Hid (badS k ⟨s1, s2, s3, s4, s5⟩ = true) := Lib.hid (by unfold badS; simp only []; rw [decide_eq_true_iff]; omega)
            have HR : Hid (mayB l many = false) := Lib.hid (mayB_bad HSK.out HBD.out)
            clear HB
            go_wp2_with fail
            go_ret
            exact ⟨by rw [HR.out]; rfl, HC4.out⟩
          · by_cases h4 : s2 = 3
            · by_cases h5 : s5 < 0
              · have HBD : Hid (badS k ⟨s1, s2, s3, s4, s5⟩ = true) := Lib.hid (by unfold badS; simp only []; rw [decide_eq_true_iff]; omega)
                have HR : Hid (mayB l many = false) := Lib.hid (mayB_bad HSK.out HBD.out)
                clear HB
                go_wp2_with fail
                go_ret
                exact ⟨by rw [HR.out]; rfl, HC4.out⟩
              · by_cases h6 : (k : Int) ≤ s5
                · have HBD : Hid (badS k ⟨s1, s2, s3, s4, s5⟩ = true) := Lib.hid (by unfold badS; simp only []; rw [decide_eq_true_iff]; omega)
                  have HR : Hid (mayB l many = false) := Lib.hid (mayB_bad HSK.out HBD.out)
                  clear HB
                  go_wp2_with fail
                  go_ret
                  exact ⟨by rw [HR.out]; rfl, HC4.out⟩
                · have HBD : Hid (badS k ⟨s1, s2, s3, s4, s5⟩ = false) := Lib.hid (by unfold badS; simp only []; rw [decide_eq_false_iff_not]; omega)
                  have HB2 : Hid (∀ t s, t < k + 1 → l[t]? = some s → badS t s = false) := Lib.hid (fun t s ht hs => by
                    rcases Nat.lt_succ_iff_lt_or_eq.1 ht with h | h
                    · exact HB.out t s h hs
                    · subst h
                      rw [HSK.out] at hs
                      cases hs
                      exact HBD.out)
                  clear HB
                  go_wp2_with fail
                  go_roundw
                  case rel => exact ⟨k + 1, by go_num, hlt, HB2, HC4⟩
                  case measure => simp [intOf] <;> omega
            · have HBD : Hid (badS k ⟨s1, s2, s3, s4, s5⟩ = false) := Lib.hid (by unfold badS; simp only []; rw [decide_eq_false_iff_not]; omega)
              have HB2 : Hid (∀ t s, t < k + 1 → l[t]? = some s → badS t s = false) := Lib.hid (fun t s ht hs => by
                rcases Nat.lt_succ_iff_lt_or_eq.1 ht with h | h
                · exact HB.out t s h hs
                · subst h
                  rw [HSK.out] at hs
                  cases hs
                  exact HBD.out)
              clear HB
              go_wp2_with fail
              go_roundw
              case rel => exact ⟨k + 1, by go_num, hlt, HB2, HC4⟩
              case measure => simp [intOf] <;> omega
      · have HBD : Hid (badS k ⟨s1, s2, s3, s4, s5⟩ = true) := Lib.hid (by unfold badS; simp only []; rw [decide_eq_true_iff]; omega)
        have HR : Hid (mayB l many = false) := Lib.hid (mayB_bad HSK.out HBD.out)
        clear HB
        go_wp2_with fail
        go_ret
        exact ⟨by rw [HR.out]; rfl, HC4.out⟩
    · have e1 : ¬ (k : Int) < n := fun h => hlt (Int.ofNat_lt.1 h)
      have hkn : k = n := by omega
      have HR : Hid (mayB l many = decide (n = many)) := Lib.hid (by rw [mayB_all (fun t s ht hs => HB.out t s (by rw [hkn, ← HNN.out]; exact ht) hs), HNN.out])
      clear HB hkn
      by_cases hm : n = many
      · have HR2 : Hid (mayB l many = true) := Lib.hid (by rw [HR.out, decide_eq_true hm])
        subst hm
        go_wp2_with fail
        go_ret
        exact ⟨by rw [HR2.out]; rfl, HC.out⟩
      · have HR2 : Hid (mayB l many = false) := Lib.hid (by rw [HR.out, decide_eq_false hm])
        have hm2 : ¬ (n : Int) = (many : Int) := by omega
        have hm3 : ((n : Int) == (many : Int)) = false := by simp; omega
        go_wp2_with fail
        go_ret
        exact ⟨by rw [HR2.out]; rfl, HC.out⟩
end Go.Proofs.YtfdhpjflkimihaaDoor
/- The law's step, walked. No conditions beyond those that each statement types. -/
namespace Go.Proofs.YtfdhpjflkimihaaDoor
open Go.RowKit

theorem infoStepR : (Tryd.prog.info? 93).map (·.size) = some 5 := by kernel_rfl
set_option maxRecDepth 100000 in
set_option maxHeartbeats 4000000 in
theorem lw_step (s : StepV) (w : World) : Calls Tryd.prog 48 #[.agg s.cells] w fun e w' => e = .returned (.agg s.cells) ∧ Chg [] w w' := by
  obtain ⟨s1, s2, s3, s4, s5⟩ := s
  have C1 := Chg.alloc [] w (.cells #[.int .i64 s1, .int .i64 s2, .string s3, .int .i64 s4, .int .i64 s5] 85)
  have x1 := heap_alloc_new w (.cells #[.int .i64 s1, .int .i64 s2, .string s3, .int .i64 s4, .int .i64 s5] 85)
  have C2 := Chg.alloc [] (w.alloc (.cells #[.int .i64 s1, .int .i64 s2, .string s3, .int .i64 s4, .int .i64 s5] 85)) (.cells #[.int .i64 0, .int .i64 0, .string ⟨#[]⟩, .int .i64 0, .int .i64 0] 93)
  have x2 := heap_alloc_new (w.alloc (.cells #[.int .i64 s1, .int .i64 s2, .string s3, .int .i64 s4, .int .i64 s5] 85)) (.cells #[.int .i64 0, .int .i64 0, .string ⟨#[]⟩, .int .i64 0, .int .i64 0] 93)
  have sz : (w.alloc (.cells #[.int .i64 s1, .int .i64 s2, .string s3, .int .i64 s4, .int .i64 s5] 85)).heap.size = w.heap.size + 1 := by simp
  rw [sz] at x2
  have x1' := (C2.block _ (lt_of_block x1) (by simp)).trans x1
  simp only [StepV.cells]
  go_enter Tryd.func48, Tryd.ntmps48
  go_upto_region 1 with (fail)
  obtain ⟨q, hq⟩ : ∃ q, w.heap.size = q := ⟨_, rfl⟩
  rw [hq] at x1' x2 sz
  try rw [hq]
  try rw [sz]
  have C0 := C1.trans C2 (by simp)
  generalize (w.alloc (.cells #[.int .i64 s1, .int .i64 s2, .string s3, .int .i64 s4, .int .i64 s5] 85)).alloc (.cells #[.int .i64 0, .int .i64 0, .string ⟨#[]⟩, .int .i64 0, .int .i64 0] 93) = w1 at *
  have hc : w1.cell? ⟨q, 0, none⟩ = some (.int .i64 s1) ∧ w1.cell? ⟨q, 1, none⟩ = some (.int .i64 s2) ∧ w1.cell? ⟨q, 2, none⟩ = some (.string s3) ∧ w1.cell? ⟨q, 3, none⟩ = some (.int .i64 s4) ∧ w1.cell? ⟨q, 4, none⟩ = some (.int .i64 s5) := by
    refine ⟨?_, ?_, ?_, ?_, ?_⟩ <;> (rw [cell_of_row _ _ _ _ _ _ x1']; rfl)
  obtain ⟨c0, c1, c2, c3, c4⟩ := hc
  have hst := run_storeAt_row (P := Tryd.prog) w1 (q + 1) _ 93 _ #[.int .i64 s1, .int .i64 s2, .string s3, .int .i64 s4, .int .i64 s5] x2 infoStepR rfl (by simp [Value.oneCell'])
  have hh := setRow_heap w1 (q + 1) _ #[.int .i64 s1, .int .i64 s2, .string s3, .int .i64 s4, .int .i64 s5] _ _ x2
  have CF : Chg [] w (w1.setRow (q + 1) #[.int .i64 s1, .int .i64 s2, .string s3, .int .i64 s4, .int .i64 s5]) := C0.trans (Chg.setRow (S := [q + 1]) w1 (q + 1) _ (.inl (by simp))) (fun j hj => by simp at hj; omega)
  clear C1 C2 x1 sz
  go_wp2_with (refine wpList_store_y 93 (.tmp 2) (.tmp 15) rfl (by first | rfl | go_simp) (.pointer (some ⟨q + 1, 0, none⟩)) (.agg #[.int .i64 s1, .int .i64 s2, .string s3, .int .i64 s4, .int .i64 s5]) _ hst rfl rfl ?_)
  exact bodyPost_ret (v := .agg #[.int .i64 s1, .int .i64 s2, .string s3, .int .i64 s4, .int .i64 s5]) (results_cell_row rfl _ _ _ _ #[.int .i64 s1, .int .i64 s2, .string s3, .int .i64 s4, .int .i64 s5] _ _ rfl hh Tryd.underlying93 rfl infoStepR) rfl ⟨rfl, CF⟩
end Go.Proofs.YtfdhpjflkimihaaDoor
/- What was got, and slices.IndexFunc of it, walked. No conditions beyond those that each statement types. -/
namespace Go.Proofs.YtfdhpjflkimihaaDoor
open Go.RowKit

/-- A block that was got. -/
structure GotV where
  block : Int
  ao : Option Addr
  xs : List UInt8
  cap : Nat
def GotV.cells (g : GotV) : Array Value := #[.int .i64 g.block, .slice g.ao g.xs.length g.cap]
def gvs (l : List GotV) : List Value := l.flatMap fun g => g.cells.toList
theorem gvs_len (l : List GotV) : (gvs l).length = l.length * 2 := flat_length (enc := fun g : GotV => g.cells.toList) (size := 2) (fun _ => rfl) l
theorem infoGot : (Tryd.prog.info? 104).map (·.size) = some 2 := by kernel_rfl
theorem load_got {w : World} {a : Addr} {l : List GotV} (hs : Src w (some a) (gvs l)) {i : Nat} {s : GotV} (h : l[i]? = some s) :
    (Instr.loadAt 104 (.pointer (some (a.add (i * 2))))).run Tryd.prog w = .ok (.agg s.cells) w := by
  have h := src_flat (w := w) (a := a) (cells := fun s : GotV => s.cells.toList) (size := 2) (fun _ => rfl) (hs.cell a rfl) h
  exact run_loadAt_any _ _ s.cells.toList _ h Tryd.underlying104 rfl infoGot
def gotIx (G : List GotV) (i : Int) : Option Nat := G.findIdx? fun g => decide (g.block = i)
def ixZ : Option Nat → Int
  | none => -1
  | some k => k
theorem gotIx_at {G : List GotV} {i : Int} {k : Nat} {g : GotV} (hk : G[k]? = some g) (hg : g.block = i) (hb : ∀ (t : Nat) (x : GotV), t < k → G[t]? = some x → x.block ≠ i) : gotIx G i = some k := by
  unfold gotIx
  rw [List.findIdx?_eq_some_iff_getElem]
  obtain ⟨h, rfl⟩ := List.getElem?_eq_some_iff.1 hk
  refine ⟨h, by simpa using hg, fun j hj => ?_⟩
  have := hb j G[j] hj (List.getElem?_eq_getElem (by omega))
  simpa using this
theorem gotIx_no {G : List GotV} {i : Int} (hb : ∀ (t : Nat) (x : GotV), G[t]? = some x → x.block ≠ i) : gotIx G i = none := by
  unfold gotIx
  rw [List.findIdx?_eq_none_iff]
  intro x hx
  obtain ⟨t, h, rfl⟩ := List.getElem_of_mem hx
  simpa using hb t _ (List.getElem?_eq_getElem h)
theorem gotIx_lt {G : List GotV} {i : Int} {k : Nat} (h : gotIx G i = some k) : ∃ g, G[k]? = some g ∧ g.block = i := by
  unfold gotIx at h
  rw [List.findIdx?_eq_some_iff_getElem] at h
  obtain ⟨h1, h2, _⟩ := h
  exact ⟨_, List.getElem?_eq_getElem h1, by simpa using h2⟩

theorem cp_named (g : GotV) (i : Int) (q : Nat) (w : World) (h : w.cell? ⟨q, 0, none⟩ = some (.int .i64 i)) :
    Calls Tryd.prog 89 #[.agg g.cells, .pointer (some ⟨q, 0, none⟩)] w fun e w' => e = .returned (.bool (decide (g.block = i))) ∧ Chg [] w w' := by
  obtain ⟨b, ao, xs, c⟩ := g
  have C1 := Chg.alloc [] w (.cells #[.int .i64 b, .slice ao xs.length c] 104)
  have h' := C1.cell_some h (by simp)
  have hx := heap_alloc_new w (.cells #[.int .i64 b, .slice ao xs.length c] 104)
  have z0 : (w.alloc (.cells #[.int .i64 b, .slice ao xs.length c] 104)).cell? ⟨w.heap.size, 0, none⟩ = some (.int .i64 b) := by rw [cell_of_row _ _ _ _ _ _ hx]; rfl
  simp only [GotV.cells]
  clear hx
  go_enter Tryd.func89, Tryd.ntmps89
  go_wp2_with fail
  go_ret
  exact ⟨by congr, C1⟩

set_option maxRecDepth 100000 in
set_option maxHeartbeats 4000000 in
theorem cp_index (G : List GotV) (i : Int) (so : Option Addr) (c q : Nat) (w : World) (hs : Src w so (gvs G)) (hlc : G.length ≤ c) (hl : G.length ≤ 1000000) (hb : w.cell? ⟨q, 0, none⟩ = some (.int .i64 i)) :
    Calls Tryd.prog 88 #[.slice so G.length c, .func (.func 89) #[] #[.pointer (some ⟨q, 0, none⟩)]] w fun e w' => e = .returned (.int .i64 (ixZ (gotIx G i))) ∧ Chg [] w w' := by
  have HST := Lib.hid (fun (k : Nat) (s : GotV) (h : G[k]? = some s) (wr : World) (C : Chg [] w wr) => show ∃ a, so = some a ∧ (Instr.loadAt 104 (.pointer (some (a.add (k * 2))))).run Tryd.prog wr = .ok (.agg s.cells) wr from by
    obtain ⟨a, rfl, _⟩ := hs.lt (by
      have h1 := (List.getElem?_eq_some_iff.1 h).1
      rw [gvs_len]
      omega)
    exact ⟨a, rfl, load_got (hs.chg C (by simp)) h⟩)
  have HGE := Lib.hid (fun k (hk : k < G.length) => show ∃ s, G[k]? = some s from ⟨_, List.getElem?_eq_getElem hk⟩)
  have HB := Lib.hid (fun wr (C : Chg [] w wr) (g : GotV) => cp_named g i q wr (C.cell_some hb (by simp)))
  have HAT := Lib.hid (fun (k : Nat) (g : GotV) (h : G[k]? = some g) => gotIx_at (i := i) h)
  have HNO := Lib.hid (gotIx_no (G := G) (i := i))
  have HNL := Lib.hid (fun (k : Nat) (h : ¬ k < G.length) => List.getElem?_eq_none (by omega : G.length ≤ k))
  obtain ⟨n, hn⟩ : ∃ n, G.length = n := ⟨_, rfl⟩
  rw [hn] at hl hlc HGE HNL ⊢
  clear hs hn hb
  go_enter Tryd.func88, Tryd.ntmps88
  go_wp2_with fail
  go_loopw [8] (fun v wr => ∃ k : Nat, v = .int .i64 (k : Int) ∧ k ≤ n ∧ Hid (∀ (t : Nat) (x : GotV), t < k → G[t]? = some x → x.block ≠ i) ∧ Hid (Chg [] w wr)) (fun v _ => n - (intOf v).toNat)
  case atStart => exact ⟨0, rfl, Nat.zero_le _, Lib.hid (fun t x ht => by omega), Lib.hid (Chg.refl _ _)⟩
  case round =>
    obtain ⟨k, rfl, hk, HX, HC⟩ := hrel
    by_cases hlt : k < n
    · have e1 : (k : Int) < n := Int.ofNat_lt.2 hlt
      have e0 : (0 : Int) ≤ k := Int.natCast_nonneg _
      have hkc : k < c := by omega
      obtain ⟨g, hg⟩ := HGE.out k hlt
      obtain ⟨a, rfl, hld⟩ := HST.out k g hg wr HC.out
      have KB := Lib.hid (HB.out wr HC.out g)
      have HG := Lib.hid hg
      generalize g.cells = gc at *
      clear hg
      go_wp2_with (refine wpList_load_y 104 (.tmp 14) rfl (by go_simp) (.pointer (some (a.add (k * 2)))) (.agg gc) hld rfl ?_)
      refine KB.out.mono ?_
      rintro e w5 ⟨rfl, C5⟩
      have HC5 := Lib.hid (HC.out.trans C5 (by simp))
      clear C5 hld
      by_cases hB : g.block = i
      · have hK : Hid (ixZ (gotIx G i) = (k : Int)) := Lib.hid (by rw [HAT.out k g HG.out hB HX.out]; rfl)
        have hd : decide (g.block = i) = true := decide_eq_true hB
        rw [hd]
        clear hB hd
        go_wp2_with fail
        go_ret
        exact ⟨by rw [hK.out]; rfl, HC5.out⟩
      · have hd : decide (g.block = i) = false := decide_eq_false hB
        have HX5 : Hid (∀ (t : Nat) (x : GotV), t < k + 1 → G[t]? = some x → x.block ≠ i) := Lib.hid (fun t y ht hy => by
          by_cases hik : t < k
          · exact HX.out t y hik hy
          · have : t = k := by omega
            subst this
            rw [HG.out] at hy
            cases hy
            exact hB)
        rw [hd]
        clear hB hd
        go_wp2_with fail
        go_roundw
        case rel => exact ⟨k + 1, by go_num, hlt, HX5, HC5⟩
        case measure => simp [intOf] <;> omega
    · have e1 : ¬ (k : Int) < n := fun h => hlt (Int.ofNat_lt.1 h)
      have hK : Hid (ixZ (gotIx G i) = -1) := Lib.hid (by
        rw [HNO.out (fun t x hx => HX.out t x (by
          refine Decidable.byContradiction (fun h => ?_)
          rw [HNL.out t (by omega)] at hx
          cases hx) hx)]
        rfl)
      go_wp2_with fail
      go_ret
      exact ⟨by rw [hK.out]; rfl, HC.out⟩
end Go.Proofs.YtfdhpjflkimihaaDoor
/- What is built of a plan, in plain words, and where its parts lie. No conditions beyond those that each statement types. -/
namespace Go.Proofs.YtfdhpjflkimihaaDoor
open Go.RowKit

/-- A part of what is built: of block i, when ps are the parts ahead of it. -/
def partV (r : RecV) (N : Nat) (T : List UInt8) (fo : HKey → Option (Pl × List UInt8)) (G : List GotV) (ps : List (List UInt8)) (i : Nat) (s : StepV) : List UInt8 :=
  if s.from_ = 1 then plT N T i
  else if s.from_ = 2 then fX (fo (hkey (r.dig i)))
  else if s.from_ = 3 then ps.getD s.same.toNat []
  else match gotIx G i with
    | some k => (G.getD k ⟨0, none, [], 0⟩).xs
    | none => []
def partsV (r : RecV) (N : Nat) (T : List UInt8) (fo : HKey → Option (Pl × List UInt8)) (G : List GotV) (l : List StepV) : Nat → List (List UInt8)
  | 0 => []
  | k + 1 => partsV r N T fo G l k ++ [partV r N T fo G (partsV r N T fo G l k) k (l.getD k ⟨0, 0, ⟨#[]⟩, 0, 0⟩)]
theorem partsV_len (r : RecV) (N : Nat) (T : List UInt8) (fo : HKey → Option (Pl × List UInt8)) (G : List GotV) (l : List StepV) (k : Nat) : (partsV r N T fo G l k).length = k := by
  induction k with
  | zero => rfl
  | succ k ih => rw [partsV, List.length_append, ih]; rfl
def badV (r : RecV) (ps : List (List UInt8)) : List Int := ((List.range ps.length).filter fun i => !rightB r i (ps.getD i [])).map (fun i : Nat => (i : Int))
theorem badV_next (r : RecV) (ps : List (List UInt8)) (x : List UInt8) : badV r (ps ++ [x]) = badV r ps ++ if rightB r ps.length x = true then [] else [(ps.length : Int)] := by
  unfold badV
  rw [List.length_append, List.length_singleton, List.range_succ, List.filter_append, List.map_append]
  congr 1
  · congr 1
    refine List.filter_congr (fun i hi => ?_)
    have hi := List.mem_range.1 hi
    rw [List.getD, List.getD, List.getElem?_append_left hi]
  · have e : (ps ++ [x]).getD ps.length [] = x := by rw [List.getD, List.getElem?_append_right (Nat.le_refl _), Nat.sub_self]; rfl
    rw [List.filter_cons, e, List.filter_nil]
    cases rightB r ps.length x <;> rfl
theorem badV_len (r : RecV) (ps : List (List UInt8)) : (badV r ps).length ≤ ps.length := by
  unfold badV
  rw [List.length_map]
  exact Nat.le_trans (List.length_filter_le _ _) (Nat.le_of_eq List.length_range)
/-- What Build answers: the bytes, the bad ones, the error. -/
structure BuiltV where
  out : List UInt8
  bad : List Int
  err : Int
def buildV (r : RecV) (N : Nat) (T : List UInt8) (fo : HKey → Option (Pl × List UInt8)) (G : List GotV) (l : List StepV) : BuiltV :=
  if r.want ≠ 0 then ⟨[], [], r.want⟩
  else if mayB l (cntN N) = false then ⟨[], [], 2⟩
  else if badV r (partsV r N T fo G l l.length) ≠ [] then ⟨[], badV r (partsV r N T fo G l l.length), 14⟩
  else ⟨(partsV r N T fo G l l.length).flatten, [], 0⟩
/-- It is handed back so, in memory of its own. -/
def BuiltTo (w : World) (x : BuiltV) (e : Ending) (w' : World) : Prop :=
  Chg [] w w' ∧ ∃ bo bc no nc, e = .returned (.tuple #[.slice bo x.out.length bc, .slice no x.bad.length nc, .int .i64 x.err]) ∧
    w'.ownsRow 0 5 1 (.slice bo x.out.length bc) x.out.length (bvs x.out) ∧ (∀ k, (Value.slice bo x.out.length bc).ownBlock = some k → w.heap.size ≤ k) ∧
    w'.ownsRow 0 3 1 (.slice no x.bad.length nc) x.bad.length (nvs x.bad) ∧ (∀ k, (Value.slice no x.bad.length nc).ownBlock = some k → w.heap.size ≤ k)
/-- A slice of bytes that is there, in none of the blocks of X. -/
def PV (w : World) (X : List Nat) (v : Value) (xs : List UInt8) : Prop :=
  ∃ po pc, v = .slice po xs.length pc ∧ Src w po (bvs xs) ∧ xs.length ≤ pc ∧ (po = none → pc = 0) ∧ (0 < xs.length → ∀ a, po = some a → a.block ∉ X ∧ a.block < w.heap.size)
theorem PV.chg {w w' : World} {X S : List Nat} {v : Value} {xs : List UInt8} (h : PV w X v xs) (C : Chg S w w') (hS : ∀ k ∈ S, k ∈ X ∨ w.heap.size ≤ k) : PV w' X v xs := by
  obtain ⟨po, pc, e, h1, h2, h3, h4⟩ := h
  refine ⟨po, pc, e, h1.chgN C (fun hp a ha hm => ?_), h2, h3, fun hp a ha => ⟨(h4 hp a ha).1, Nat.lt_of_lt_of_le (h4 hp a ha).2 C.size⟩⟩
  rw [bvs_length] at hp
  rcases hS _ hm with h | h
  · exact (h4 hp a ha).1 h
  · exact absurd (h4 hp a ha).2 (by omega)
theorem PV.grow {w : World} {X Y : List Nat} {v : Value} {xs : List UInt8} (h : PV w X v xs) (hY : ∀ k ∈ Y, k ∈ X ∨ w.heap.size ≤ k) : PV w Y v xs := by
  obtain ⟨po, pc, e, h1, h2, h3, h4⟩ := h
  refine ⟨po, pc, e, h1, h2, h3, fun hp a ha => ⟨fun hm => ?_, (h4 hp a ha).2⟩⟩
  rcases hY _ hm with h | h
  · exact (h4 hp a ha).1 h
  · exact absurd (h4 hp a ha).2 (by omega)
theorem PV.nil (w : World) (X : List Nat) : PV w X (.slice none 0 0) [] := ⟨_, 0, rfl, Src.empty _ _, Nat.le_refl _, fun _ => rfl, fun _ a h => by cases h⟩
/-- Bytes of the call's own. -/
theorem PV.own {w : World} {X : List Nat} {po : Option Addr} {pc : Nat} {xs : List UInt8} (h : w.ownsRow 0 5 1 (.slice po xs.length pc) xs.length (bvs xs)) (hX : ∀ k, (Value.slice po xs.length pc).ownBlock = some k → k ∉ X) : PV w X (.slice po xs.length pc) xs := by
  obtain ⟨ao, c, hv, hc, h0⟩ := ownsRow_slice h
  cases hv
  refine ⟨po, pc, rfl, ownsRow_src h, hc, fun h => (h0 h).2, fun _ a ha => ?_⟩
  subst ha
  rcases h.2 with ⟨hv, _⟩ | ⟨g, cap, cur, hv, _⟩
  · cases hv
  · cases hv
    exact ⟨hX g rfl, ownsRow_lt h g rfl⟩
/-- What was got, and what lies there. -/
structure GotsAt (w : World) (so : Option Addr) (c : Nat) (G : List GotV) : Prop where
  src : Src w so (gvs G)
  cap : G.length ≤ c
  nil : so = none → c = 0
  at_ : ∀ (k : Nat) (g : GotV), G[k]? = some g → PV w [] (.slice g.ao g.xs.length g.cap) g.xs
theorem GotsAt.chg {w w' : World} {so : Option Addr} {c : Nat} {G : List GotV} (h : GotsAt w so c G) (C : Chg [] w w') : GotsAt w' so c G :=
  ⟨h.src.chg C (by simp), h.cap, h.nil, fun k g hg => (h.at_ k g hg).chg C (by simp)⟩
theorem PV.short {w : World} {X : List Nat} {v : Value} {xs : List UInt8} (h : PV w X v xs) : ∃ po pc, v = .slice po xs.length pc ∧ xs.length ≤ pc ∧ (po = none → pc = 0) := by
  obtain ⟨po, pc, e, _, h2, h3, _⟩ := h
  exact ⟨po, pc, e, h2, h3⟩
/-- Between the rounds of Build: the row of parts, the bytes, the bad ones. -/
def forb (q : Nat) (u v : Value) : List Nat := q :: (u.ownBlock.toList ++ v.ownBlock.toList)
structure BSt (w2 wr : World) (q n : Nat) (ps : List (List UInt8)) (xs : List UInt8) (bad : List Int) (u v : Value) : Prop where
  C : Chg [q] w2 wr
  lq : q < w2.heap.size
  out : wr.ownsRow 0 5 1 u xs.length (bvs xs)
  outN : ∀ k, u.ownBlock = some k → w2.heap.size ≤ k
  bad : wr.ownsRow 0 3 1 v bad.length (nvs bad)
  badN : ∀ k, v.ownBlock = some k → w2.heap.size ≤ k
  row : ∃ pf, wr.rowIs q 25 n pf ∧ (∀ j x, ps[j]? = some x → PV wr (forb q u v) (pf j) x) ∧ ∀ j, ps.length ≤ j → j < n → pf j = .slice none 0 0
theorem nvs_len (l : List Int) : (nvs l).length = l.length := by simp [nvs]
theorem BSt.keep {w2 wr w' : World} {q n : Nat} {ps : List (List UInt8)} {xs : List UInt8} {bad : List Int} {u v : Value} (h : BSt w2 wr q n ps xs bad u v) (C : Chg [] wr w') : BSt w2 w' q n ps xs bad u v := by
  obtain ⟨pf, h1, h2, h3⟩ := h.row
  exact ⟨h.C.trans C (by simp), h.lq, ownsRow_chg h.out C (by simp), h.outN, ownsRow_chg h.bad C (by simp), h.badN, pf, h1.of_block (C.block q h1.lt (by simp)), fun j x hx => (h2 j x hx).chg C (by simp), h3⟩
theorem BSt.own_ne {w2 wr : World} {q n : Nat} {ps : List (List UInt8)} {xs : List UInt8} {bad : List Int} {u v : Value} (h : BSt w2 wr q n ps xs bad u v) : u.ownBlock ≠ some q ∧ v.ownBlock ≠ some q := by
  refine ⟨fun e => ?_, fun e => ?_⟩
  · have := h.outN q e; have := h.lq; omega
  · have := h.badN q e; have := h.lq; omega
theorem BSt.own_two {w2 wr : World} {q n : Nat} {ps : List (List UInt8)} {xs : List UInt8} {bad : List Int} {u v : Value} (h : BSt w2 wr q n ps xs bad u v) {k : Nat} (hu : u.ownBlock = some k) (hv : v.ownBlock = some k) : False := by
  rcases h.out.2 with ⟨rfl, _⟩ | ⟨g, cap, cur, rfl, _, hg, _⟩
  · cases hu
  · cases hu
    exact ownsRow_ne h.bad hg (by decide) hv
theorem BSt.put {w2 wr : World} {q n : Nat} {ps : List (List UInt8)} {xs : List UInt8} {bad : List Int} {u v : Value} (h : BSt w2 wr q n ps xs bad u v) {pv : Value} {x : List UInt8} (hp : PV wr (forb q u v) pv x) :
    BSt w2 (wr.setCell ⟨q, ps.length, none⟩ pv) q n (ps ++ [x]) xs bad u v := by
  obtain ⟨pf, h1, h2, h3⟩ := h.row
  have C : Chg [q] wr (wr.setCell ⟨q, ps.length, none⟩ pv) := Chg.setCell _ _ _ (.inl (by simp))
  obtain ⟨n1, n2⟩ := h.own_ne
  have hn : ∀ k ∈ [q], k ∈ forb q u v ∨ wr.heap.size ≤ k := fun k hk => .inl (by rw [List.mem_singleton.1 hk]; exact List.mem_cons_self)
  refine ⟨h.C.trans C (by simp), h.lq, ownsRow_chg h.out C (fun k hk hm => n1 (by rw [hk, List.mem_singleton.1 hm])), h.outN, ownsRow_chg h.bad C (fun k hk hm => n2 (by rw [hk, List.mem_singleton.1 hm])), h.badN, _, h1.set ps.length pv, ?_, fun j hj hn => by
    rw [List.length_append, List.length_singleton] at hj
    simp only [if_neg (show ¬ j = ps.length by omega)]
    exact h3 j (by omega) hn⟩
  intro j y hy
  by_cases hj : j = ps.length
  · subst hj
    rw [List.getElem?_append_right (Nat.le_refl _), Nat.sub_self] at hy
    cases hy
    simp only [if_true]
    exact hp.chg C hn
  · simp only [if_neg hj]
    refine (h2 j y ?_).chg C hn
    have hl := (List.getElem?_eq_some_iff.1 hy).1
    rw [List.length_append, List.length_singleton] at hl
    rwa [List.getElem?_append_left (by omega)] at hy
/-- A part that stays nil. -/
theorem BSt.skip {w2 wr : World} {q n : Nat} {ps : List (List UInt8)} {xs : List UInt8} {bad : List Int} {u v : Value} (h : BSt w2 wr q n ps xs bad u v) (hk : ps.length < n) : BSt w2 wr q n (ps ++ [[]]) xs bad u v := by
  obtain ⟨pf, h1, h2, h3⟩ := h.row
  refine ⟨h.C, h.lq, h.out, h.outN, h.bad, h.badN, pf, h1, ?_, fun j hj hn => h3 j (by rw [List.length_append] at hj; omega) hn⟩
  intro j y hy
  by_cases hj : j = ps.length
  · subst hj
    rw [List.getElem?_append_right (Nat.le_refl _), Nat.sub_self] at hy
    cases hy
    rw [h3 _ (Nat.le_refl _) hk]
    exact PV.nil _ _
  · have hl := (List.getElem?_eq_some_iff.1 hy).1
    rw [List.length_append, List.length_singleton] at hl
    refine h2 j y ?_
    rwa [List.getElem?_append_left (by omega)] at hy
/-- What lies in the row. -/
theorem BSt.cell {w2 wr : World} {q n : Nat} {ps : List (List UInt8)} {xs : List UInt8} {bad : List Int} {u v : Value} (h : BSt w2 wr q n ps xs bad u v) {j : Nat} (hj : j < n) : ∃ pv, wr.cell? ⟨q, j, none⟩ = some pv ∧ wr.frozen? ⟨q, j, none⟩ = false ∧ (∀ x, ps[j]? = some x → PV wr (forb q u v) pv x) := by
  obtain ⟨pf, h1, h2, h3⟩ := h.row
  exact ⟨_, h1.cell hj, h1.frozen j, fun x hx => h2 j x hx⟩
theorem forb_lt {w2 wr : World} {q n : Nat} {ps : List (List UInt8)} {xs : List UInt8} {bad : List Int} {u v : Value} (h : BSt w2 wr q n ps xs bad u v) : ∀ k ∈ forb q u v, k < wr.heap.size ∧ (k = q ∨ w2.heap.size ≤ k) := by
  intro k hk
  simp only [forb, List.mem_append, List.mem_cons, Option.mem_toList] at hk
  rcases hk with rfl | hk | hk
  · exact ⟨Nat.lt_of_lt_of_le h.lq h.C.size, .inl rfl⟩
  · exact ⟨ownsRow_lt h.out k hk, .inr (h.outN k hk)⟩
  · exact ⟨ownsRow_lt h.bad k hk, .inr (h.badN k hk)⟩
theorem BSt.out_to {w2 wr w' : World} {q n m c : Nat} {ps : List (List UInt8)} {xs x : List UInt8} {bad : List Int} {u v : Value} {ao : Option Addr} (h : BSt w2 wr q n ps xs bad u v) (hm : m = (xs ++ x).length) (ho : w'.ownsRow 0 5 1 (.slice ao m c) m (bvs xs ++ bvs x))
    (hg : wr.grownBy w' u.ownBlock) (hb : (Value.slice ao m c).ownBlock = u.ownBlock ∨ (Value.slice ao m c).ownBlock = some wr.heap.size) : BSt w2 w' q n ps (xs ++ x) bad (.slice ao m c) v := by
  subst hm
  obtain ⟨pf, h1, h2, h3⟩ := h.row
  obtain ⟨n1, n2⟩ := h.own_ne
  have C : Chg u.ownBlock.toList wr w' := Chg.grown hg (fun k hk => .inl (by simp [hk]))
  have hq : q ∉ u.ownBlock.toList := fun hm => n1 (by simpa using hm)
  have hsz := h.C.size
  refine ⟨h.C.trans C (fun k hk => .inr (h.outN k (by simpa using hk))), h.lq, by rw [bvs_append]; exact ho, fun k hk => ?_, ownsRow_chg h.bad C (fun k hk hm => h.own_two (by simpa using hm) hk), h.badN, pf, h1.of_block (C.block q h1.lt hq), fun j y hy => ?_, h3⟩
  · rcases hb with e | e
    · exact h.outN k (by rw [← e]; exact hk)
    · rw [e] at hk; cases hk; exact hsz
  · refine ((h2 j y hy).grow (Y := forb q (.slice ao (xs ++ x).length c) v ++ u.ownBlock.toList) (fun k hk => ?_)).chg C (fun k hk => .inl (by simp only [List.mem_append]; exact .inr hk)) |>.grow (fun k hk => .inl (by simp only [List.mem_append]; exact .inl hk))
    simp only [forb, List.mem_append, List.mem_cons, Option.mem_toList] at hk ⊢
    rcases hk with (hk | hk | hk) | hk
    · exact .inl (.inl hk)
    · rcases hb with e | e
      · exact .inl (.inr (.inl (by rw [← e]; exact hk)))
      · rw [e] at hk; cases hk; exact .inr (Nat.le_refl _)
    · exact .inl (.inr (.inr hk))
    · exact .inl (.inr (.inl hk))
theorem BSt.bad_to {w2 wr w' : World} {q n m c : Nat} {ps : List (List UInt8)} {xs : List UInt8} {bad : List Int} {b : Int} {u v : Value} {ao : Option Addr} (h : BSt w2 wr q n ps xs bad u v) (hm : m = (bad ++ [b]).length) (ho : w'.ownsRow 0 3 1 (.slice ao m c) m (nvs bad ++ [.int .i64 b]))
    (hg : wr.grownBy w' v.ownBlock) (hb : (Value.slice ao m c).ownBlock = v.ownBlock ∨ (Value.slice ao m c).ownBlock = some wr.heap.size) : BSt w2 w' q n ps xs (bad ++ [b]) u (.slice ao m c) := by
  subst hm
  obtain ⟨pf, h1, h2, h3⟩ := h.row
  obtain ⟨n1, n2⟩ := h.own_ne
  have C : Chg v.ownBlock.toList wr w' := Chg.grown hg (fun k hk => .inl (by simp [hk]))
  have hq : q ∉ v.ownBlock.toList := fun hm => n2 (by simpa using hm)
  have hsz := h.C.size
  refine ⟨h.C.trans C (fun k hk => .inr (h.badN k (by simpa using hk))), h.lq, ownsRow_chg h.out C (fun k hk hm => h.own_two hk (by simpa using hm)), h.outN, by rw [nvs_append]; exact ho, fun k hk => ?_, pf, h1.of_block (C.block q h1.lt hq), fun j y hy => ?_, h3⟩
  · rcases hb with e | e
    · exact h.badN k (by rw [← e]; exact hk)
    · rw [e] at hk; cases hk; exact hsz
  · refine ((h2 j y hy).grow (Y := forb q u (.slice ao (bad ++ [b]).length c) ++ v.ownBlock.toList) (fun k hk => ?_)).chg C (fun k hk => .inl (by simp only [List.mem_append]; exact .inr hk)) |>.grow (fun k hk => .inl (by simp only [List.mem_append]; exact .inl hk))
    simp only [forb, List.mem_append, List.mem_cons, Option.mem_toList] at hk ⊢
    rcases hk with (hk | hk | hk) | hk
    · exact .inl (.inl hk)
    · exact .inl (.inr (.inl hk))
    · rcases hb with e | e
      · exact .inl (.inr (.inr (by rw [← e]; exact hk)))
      · rw [e] at hk; cases hk; exact .inr (Nat.le_refl _)
    · exact .inl (.inr (.inr hk))
end Go.Proofs.YtfdhpjflkimihaaDoor
/- The copier's Build, walked. No conditions beyond those that each statement types. -/
namespace Go.Proofs.YtfdhpjflkimihaaDoor
open Go.RowKit

theorem infoBytesU : (Tryd.prog.info? 25).map (fun i => (i.zero, i.size, i.bytes)) = some (some (.slice none 0 0), 1, 24) := by kernel_rfl
theorem infoByteU : (Tryd.prog.info? 5).map (fun i => (i.zero, i.size, i.bytes)) = some (some (.int .u8 0), 1, 1) := by kernel_rfl
theorem BuiltTo.none (w w' : World) (e : Int) (C : Chg [] w w') : BuiltTo w ⟨[], [], e⟩ (.returned (.tuple #[.slice none 0 0, .slice none 0 0, .int .i64 e])) w' :=
  ⟨C, Option.none, 0, Option.none, 0, rfl, World.ownsRow_nil _ _ _ _, (fun (k : Nat) (hk : Option.none = some k) => by cases hk), World.ownsRow_nil _ _ _ _, (fun (k : Nat) (hk : Option.none = some k) => by cases hk)⟩
theorem mayB_true {l : List StepV} {n : Nat} (h : mayB l n = true) : l.length = n ∧ ∀ (k : Nat) (s : StepV), l[k]? = some s → badS k s = false := by
  have hk : ∀ (k : Nat) (s : StepV), l[k]? = some s → badS k s = false := fun k s hs => by
    cases hb : badS k s with
    | false => rfl
    | true => rw [mayB_bad hs hb] at h; cases h
  rw [mayB_all (fun t s _ hs => hk t s hs)] at h
  exact ⟨of_decide_eq_true h, hk⟩
theorem badS_no {k : Nat} {s : StepV} (h : badS k s = false) : s.block = (k : Int) ∧ 1 ≤ s.from_ ∧ s.from_ ≤ 4 ∧ (s.from_ = 3 → 0 ≤ s.same ∧ s.same < (k : Int)) := by
  unfold badS at h
  have h := of_decide_eq_false h
  omega
theorem partV_short {r : RecV} {N : Nat} {T : List UInt8} {fo : HKey → Option (Pl × List UInt8)} {G : List GotV} (hfo : ∀ k, (fX (fo k)).length ≤ 128) (hG : ∀ (k : Nat) (g : GotV), G[k]? = some g → g.xs.length ≤ 1000000) (ps : List (List UInt8)) (hp : ∀ x ∈ ps, x.length ≤ 1000000) (i : Nat) (s : StepV) :
    (partV r N T fo G ps i s).length ≤ 1000000 := by
  unfold partV
  split
  · exact Nat.le_trans (plT_128 N T i) (by decide)
  · split
    · exact Nat.le_trans (hfo _) (by decide)
    · split
      · rw [List.getD]
        cases h : ps[s.same.toNat]? with
        | none => exact Nat.zero_le _
        | some x => exact hp x (List.mem_of_getElem? h)
      · split
        · rename_i k hk
          obtain ⟨g, hg, _⟩ := gotIx_lt hk
          rw [List.getD, hg]
          exact hG k g hg
        · exact Nat.zero_le _
theorem partsV_short {r : RecV} {N : Nat} {T : List UInt8} {fo : HKey → Option (Pl × List UInt8)} {G : List GotV} (hfo : ∀ k, (fX (fo k)).length ≤ 128) (hG : ∀ (k : Nat) (g : GotV), G[k]? = some g → g.xs.length ≤ 1000000) (l : List StepV) :
    ∀ k, (∀ x ∈ partsV r N T fo G l k, x.length ≤ 1000000) ∧ (partsV r N T fo G l k).flatten.length ≤ k * 1000000 := by
  intro k
  induction k with
  | zero => exact ⟨fun x hx => (List.not_mem_nil hx).elim, Nat.le_refl _⟩
  | succ k ih =>
    have h := partV_short (r := r) (N := N) (T := T) hfo hG (partsV r N T fo G l k) ih.1 k (l.getD k ⟨0, 0, ⟨#[]⟩, 0, 0⟩)
    refine ⟨fun x hx => ?_, ?_⟩
    · rw [partsV, List.mem_append, List.mem_singleton] at hx
      rcases hx with hx | rfl
      · exact ih.1 x hx
      · exact h
    · rw [partsV, List.flatten_append, List.length_append, List.flatten_cons, List.flatten_nil, List.append_nil]
      have := ih.2
      omega
set_option maxRecDepth 100000 in
theorem cp_build_not (RC : Array Value) (r : RecV) (ao : Option Addr) (c : Nat) (hw : r.want ≠ 0) (lv : Value) (p : Option Addr) (tv gv : Value) (w : World) (H : RecIs w RC r ao c) :
    Calls Tryd.prog 54 #[.agg RC, lv, .pointer p, tv, gv] w (BuiltTo w ⟨[], [], r.want⟩) := by
  have hx0 := heap_alloc_new w (.cells RC 77)
  have C0 := Chg.alloc [] w (.cells RC 77)
  have KW := Lib.hid (fun w' (C : Chg [] w w') => cp_wanted RC r ao c w' (H.chg0 C))
  have hldr := run_loadAt_rec _ _ RC _ hx0 H.size
  generalize r.want = W at *
  clear H hx0
  go_enter Tryd.func54, Tryd.ntmps54
  go_wp2_with (refine wpList_load_y 77 (.tmp 5) rfl (by go_simp) (.pointer (some ⟨w.heap.size, 0, none⟩)) (.agg RC) hldr rfl ?_)
  refine (KW.out _ C0).mono ?_
  rintro e w2 ⟨rfl, C2⟩
  have HC2 := Lib.hid (C0.trans C2 (by simp))
  clear C0 C2 hldr
  go_wp2_with fail
  go_ret3
  exact BuiltTo.none _ _ _ HC2.out
set_option maxRecDepth 100000 in
set_option maxHeartbeats 8000000 in
theorem cp_build (RC : Array Value) (r : RecV) (ao : Option Addr) (c : Nat) (N : Nat) (g : r.Good N) (l : List StepV) (so : Option Addr) (sc : Nat) (p : Option Addr) (fo : HKey → Option (Pl × List UInt8)) (ta : Option Addr) (tc : Nat) (T : List UInt8) (G : List GotV) (go : Option Addr) (gc : Nat) (w : World)
    (hL : Laid w) (H : RecIs w RC r ao c) (hF : FindsAs w p fo) (hfo : ∀ k, (fX (fo k)).length ≤ 128) (hs : Src w ta (bvs T)) (hT : T.length ≤ 9223372036854775807) (htc : T.length ≤ tc) (h0 : ta = none → tc = 0)
    (hl : Src w so (svs l)) (hlc : l.length ≤ sc) (hl6 : l.length ≤ 1000000) (hG : GotsAt w go gc G) (hG6 : G.length ≤ 1000000) (hGx : ∀ (k : Nat) (g : GotV), G[k]? = some g → g.xs.length ≤ 1000000) :
    Calls Tryd.prog 54 #[.agg RC, .slice so l.length sc, .pointer p, .slice ta T.length tc, .slice go G.length gc] w (BuiltTo w (buildV r N T fo G l)) := by
  have hx0 := heap_alloc_new w (.cells RC 77)
  have C0 := Chg.alloc [] w (.cells RC 77)
  have KW := Lib.hid (fun w' (C : Chg [] w w') => by
    have := cp_wanted RC r ao c w' (H.chg0 C)
    rewrite [g.want] at this
    exact this)
  have KM := Lib.hid (fun w' (C : Chg [] w w') => cp_may l so sc (cntN N) w' (hl.chg C (by simp)) hlc hl6)
  have HST := Lib.hid (fun (k : Nat) (s : StepV) (h : l[k]? = some s) (wr : World) (C : Chg [] w wr) => show ∃ a, so = some a ∧ (Instr.loadAt 85 (.pointer (some (a.add (k * 5))))).run Tryd.prog wr = .ok (.agg s.cells) wr from by
    obtain ⟨a, rfl, _⟩ := hl.lt (by
      have h1 := (List.getElem?_eq_some_iff.1 h).1
      rw [show (svs l).length = l.length * 5 from flat_length (enc := fun s : StepV => s.cells.toList) (size := 5) (fun _ => rfl) l]
      omega)
    exact ⟨a, rfl, load_step (hl.chg C (by simp)) h⟩)
  have HGE := Lib.hid (fun k (hk : k < l.length) => show ∃ s, l[k]? = some s from ⟨_, List.getElem?_eq_getElem hk⟩)
  have KP := Lib.hid (fun (i : Nat) (hi : i < cntN N) w' (C : Chg [] w w') => cp_placed RC r ao c N g i hi ta tc T w' (H.chg0 C) (hs.chg C (by simp)) hT htc h0)
  have KF := Lib.hid (fun w' k (C : Chg [] w w') => hF w' k C)
  have KI := Lib.hid (fun (i : Int) (q : Nat) w' (C : Chg [] w w') => cp_index G i go gc q w' (hG.src.chg C (by simp)) hG.cap hG6)
  have KR := Lib.hid (fun (i : Nat) (hi : i < cntN N) (po : Option Addr) (pc : Nat) (xs : List UInt8) w' (C : Chg [] w w') (h1 : Src w' po (bvs xs)) (h2 : xs.length ≤ 1000000) (h3 : xs.length ≤ pc) => cp_right RC r ao c N g i hi po pc xs w' (hL.chg C (by simp)) (H.chg0 C) h1 h2 h3)
  have HLD := Lib.hid (fun (k : Nat) (hk : k < cntN N) (w' : World) (C : Chg [] w w') => show ∃ a fk, ao = some a ∧ r.dig k = fk ∧ (Instr.loadAt 32 (.pointer (some (a.add (k * 32))))).run Tryd.prog w' = .ok (.agg (hashC fk)) w' from by
    obtain ⟨fk, hfk⟩ : ∃ fk, r.L[k]? = some fk := ⟨_, List.getElem?_eq_getElem (by rw [g.len]; exact hk)⟩
    have hsrc := H.src
    obtain ⟨a, rfl, _⟩ := hsrc.lt (by
      have h1 := (List.getElem?_eq_some_iff.1 hfk).1
      rw [hvs_length]
      omega)
    exact ⟨a, fk, rfl, by unfold RecV.dig; rw [List.getD, hfk]; rfl, load_blk (hsrc.chg C (by simp)) hfk⟩)
  have HGOT := Lib.hid (fun (k : Nat) (g : GotV) (h : G[k]? = some g) (wr : World) (C : Chg [] w wr) => show ∃ a, go = some a ∧ a.block < w.heap.size ∧ wr.cell? (a.add (k * 2 + 1)) = some (.slice g.ao g.xs.length g.cap) ∧ PV w [] (.slice g.ao g.xs.length g.cap) g.xs from by
    have h1 := (List.getElem?_eq_some_iff.1 h).1
    obtain ⟨a, ha, hlt⟩ := hG.src.lt (by rw [gvs_len]; omega)
    subst ha
    refine ⟨a, rfl, hlt, ?_, hG.at_ k g h⟩
    have hc := src_flat (w := wr) (a := a) (cells := fun s : GotV => s.cells.toList) (size := 2) (fun _ => rfl) ((hG.src.chg C (by simp)).cell a rfl) h 1 (.slice g.ao g.xs.length g.cap) rfl
    rwa [addr_add_add] at hc)
  have HGL := Lib.hid (fun (i : Int) (k : Nat) (h : gotIx G i = some k) => show ∃ g, G[k]? = some g ∧ k < G.length ∧ (G.getD k ⟨0, none, [], 0⟩).xs = g.xs from by
    obtain ⟨g, hg, _⟩ := gotIx_lt h
    exact ⟨g, hg, (List.getElem?_eq_some_iff.1 hg).1, by rw [List.getD, hg]; rfl⟩)
  have HGC := Lib.hid (show G.length ≤ gc from hG.cap)
  obtain ⟨n, hn⟩ : ∃ n, cntN N = n := ⟨_, rfl⟩
  have hn32 : n ≤ 32 := by rw [← hn]; exact cntN_le N
  have hbl := H.bl
  rw [g.len, hn] at hbl
  rw [hn] at KM KP KR HLD
  have hnc : n ≤ c := by have := H.cap; rw [g.len, hn] at this; exact this
  have HBL := Lib.hid hbl
  have HRS := Lib.hid H.size
  have HTS := Lib.hid (part_in_old hs)
  have HFO := Lib.hid hfo
  have HPT := Lib.hid (fun i => plT_len N T i)
  have HSH := Lib.hid (partsV_short (r := r) (N := N) (T := T) hfo hGx l)
  have HPS : Hid (∀ (k : Nat) (s : StepV), l[k]? = some s → partsV r N T fo G l (k + 1) = partsV r N T fo G l k ++ [partV r N T fo G (partsV r N T fo G l k) k s]) := Lib.hid (fun k s hs => by rw [partsV, List.getD, hs]; rfl)
  have HPL := Lib.hid (partsV_len r N T fo G l)
  have HP0 : Hid (partsV r N T fo G l 0 = []) := Lib.hid rfl
  have HPV : Hid (∀ ps i s, partV r N T fo G ps i s = if s.from_ = 1 then plT N T i else if s.from_ = 2 then fX (fo (hkey (r.dig i))) else if s.from_ = 3 then ps.getD s.same.toNat [] else match gotIx G i with | some k => (G.getD k ⟨0, none, [], 0⟩).xs | none => []) := Lib.hid (fun ps i s => rfl)
  have HBV : Hid (mayB l n = false → buildV r N T fo G l = ⟨[], [], 2⟩) := Lib.hid (fun h => by unfold buildV; rw [if_neg (by rw [g.want]; simp), hn, if_pos h])
  have HBB : Hid (mayB l n = true → badV r (partsV r N T fo G l n) ≠ [] → buildV r N T fo G l = ⟨[], badV r (partsV r N T fo G l n), 14⟩) := Lib.hid (fun h h2 => by unfold buildV; rw [if_neg (by rw [g.want]; simp), hn, if_neg (by rw [h]; decide), (mayB_true h).1, if_pos h2])
  have HBO : Hid (mayB l n = true → badV r (partsV r N T fo G l n) = [] → buildV r N T fo G l = ⟨(partsV r N T fo G l n).flatten, [], 0⟩) := Lib.hid (fun h h2 => by unfold buildV; rw [if_neg (by rw [g.want]; simp), hn, if_neg (by rw [h]; decide), (mayB_true h).1, if_neg (fun h3 => h3 h2)])
  obtain ⟨tn, htn⟩ : ∃ tn, T.length = tn := ⟨_, rfl⟩
  obtain ⟨ln, hln⟩ : ∃ ln, l.length = ln := ⟨_, rfl⟩
  obtain ⟨gn, hgn⟩ : ∃ gn, G.length = gn := ⟨_, rfl⟩
  have HTN := Lib.hid htn
  have HLNN := Lib.hid hln
  rw [hln] at KM HGE hlc
  rw [hgn] at KI HGL HGC
  rw [htn] at KP
  rw [hln, hgn, htn]
  generalize partsV r N T fo G l = PS at *
  generalize buildV r N T fo G l = BU at *
  clear H hL hF hfo hs hT htc h0 hn hbl htn hgn hl hl6 hG hG6 hGx hln
  go_enter Tryd.func54, Tryd.ntmps54
  go_upto_region 1 with (fail)
  obtain ⟨q, hq⟩ : ∃ q, w.heap.size = q := ⟨_, rfl⟩
  rw [hq] at hx0 ⊢
  generalize w.alloc (.cells RC 77) = w1 at *
  have HC0 := Lib.hid C0
  have HX0 := Lib.hid hx0
  have HLDR := Lib.hid (fun (w' : World) (C : Chg [] w1 w') => run_loadAt_rec w' q RC _ ((C.block q (lt_of_block hx0) (by simp)).trans hx0) HRS.out)
  have hldr := HLDR.out w1 (Chg.refl _ _)
  have HQ := Lib.hid hq
  clear hq hx0 C0
  go_wp2_with (refine wpList_load_y 77 (.tmp 5) rfl (by go_simp) (.pointer (some ⟨q, 0, none⟩)) (.agg RC) hldr rfl ?_)
  refine (KW.out _ HC0.out).mono ?_
  rintro e w2 ⟨rfl, C2⟩
  have HC2 := Lib.hid C2
  have c23 : w2.cell? ⟨q, 23, none⟩ = some (.slice ao n c) := by rw [cell_of_row _ _ _ _ _ _ ((C2.block q (lt_of_block HX0.out) (by simp)).trans HX0.out)]; exact HBL.out
  clear C2 hldr
  go_wp2_with fail
  refine (KM.out _ (HC0.out.trans HC2.out (by simp))).mono ?_
  rintro e w3 ⟨rfl, C3⟩
  have HC3 := Lib.hid (HC2.out.trans C3 (by simp))
  clear C3 c23 HC2
  obtain ⟨mb, hmb⟩ : ∃ mb, mayB l n = mb := ⟨_, rfl⟩
  have HMB := Lib.hid hmb
  rw [hmb]
  clear hmb
  cases mb with
  | false =>
    go_wp2_with fail
    go_ret3
    rw [HBV.out HMB.out]
    exact BuiltTo.none _ _ _ (HC0.out.trans HC3.out (by simp))
  | true =>
    have hln : ln = n := by rw [← HLNN.out]; exact (mayB_true HMB.out).1
    have HOK := Lib.hid (mayB_true HMB.out).2
    subst hln
    have hmk := fun w => run_make_row' (P := Tryd.prog) 106 25 (.slice none 0 0) 24 Tryd.underlying106 infoBytesU rfl .i64 .i64 ln (by omega) (by omega) w
    go_upto_region 7 with (fail)
    obtain ⟨q2, hq2⟩ : ∃ q2, w3.heap.size = q2 := ⟨_, rfl⟩
    have CM := Chg.alloc [] w3 (.cells (madeCells #[.slice none 0 0] ln) 25)
    have hrow := World.rowIs_made w3 (.slice none 0 0) ln 25
    have hlt2 : w3.heap.size < (w3.alloc (.cells (madeCells #[.slice none 0 0] ln) 25)).heap.size := by simp
    have hqq := HC3.out.size
    have hqx := lt_of_block HX0.out
    rw [hq2] at hrow hlt2 hqq ⊢
    generalize w3.alloc (.cells (madeCells #[.slice none 0 0] ln) 25) = w4 at *
    have HC4 := Lib.hid (HC3.out.trans CM (by simp))
    have HQ4 := Lib.hid hlt2
    have HQ2 : Hid (q < q2) := Lib.hid (by omega)
    have HB0 : Hid (BSt w4 w4 q2 ln (PS 0) (PS 0).flatten (badV r (PS 0)) (.slice none 0 0) (.slice none 0 0)) := Lib.hid (by
      rw [HP0.out]
      refine ⟨Chg.refl _ _, hlt2, World.ownsRow_nil _ _ _ _, (fun k hk => by cases hk), World.ownsRow_nil _ _ _ _, (fun k hk => by cases hk), _, hrow, (fun j x hx => by cases hx), fun j _ _ => rfl⟩)
    have HO0 : Hid (0 = (PS 0).flatten.length) := Lib.hid (by rw [HP0.out]; rfl)
    have HN0 : Hid (0 = (badV r (PS 0)).length) := Lib.hid (by rw [HP0.out]; rfl)
    clear hmk CM hrow hlt2 hqq hqx hq2
    go_wp2_with fail
    go_loopw [10, 11, 34] (fun v10 v11 v34 wr => ∃ (k ol nl oc nc : Nat) (oo no : Option Addr), v10 = .slice oo ol oc ∧ v11 = .slice no nl nc ∧ v34 = .int .i64 (k : Int) ∧ k ≤ ln ∧ Hid (ol = (PS k).flatten.length) ∧ Hid (nl = (badV r (PS k)).length) ∧ Hid (BSt w4 wr q2 ln (PS k) (PS k).flatten (badV r (PS k)) (.slice oo ol oc) (.slice no nl nc))) (fun _ _ v _ => ln - (intOf v).toNat)
    case atStart => exact ⟨0, 0, 0, 0, 0, none, none, rfl, rfl, rfl, Nat.zero_le _, HO0, HN0, HB0⟩
    case round =>
      obtain ⟨k, ol, nl, oc, nc, oo, no, rfl, rfl, rfl, hk, HOL, HNL, HB⟩ := hrel
      clear HB0 HO0 HN0
      by_cases hlt : k < ln
      · have e1 : (k : Int) < ln := Int.ofNat_lt.2 hlt
        have e0 : (0 : Int) ≤ k := Int.natCast_nonneg _
        have hkc : k < c := by omega
        have hks : k < sc := by omega
        obtain ⟨s, hsk⟩ := HGE.out k hlt
        have HCW : Hid (∀ wz, Chg [] wr wz → Chg [] w wz) := Lib.hid (fun wz C => ((HC0.out.trans HC4.out (by simp)).trans HB.out.C (fun j hj => .inr (by
          have := HQ.out
          have := HQ2.out
          rw [List.mem_singleton.1 hj]; omega))).trans C (by simp))
        obtain ⟨a, rfl, hld⟩ := HST.out k s hsk wr (HCW.out wr (Chg.refl _ _))
        have HSS := Lib.hid (HPS.out k s hsk)
        have HPX' := Lib.hid (HPV.out (PS k) k s)
        obtain ⟨hs1, hs2, hs3, hs4⟩ := badS_no (HOK.out k s hsk)
        generalize partV r N T fo G (PS k) k s = X at *
        obtain ⟨s1, s2, s3, s4, s5⟩ := s
        have HS4 : Hid (s2 = 3 → 0 ≤ s5 ∧ s5 < (k : Int)) := Lib.hid hs4
        have HSX : Hid (X = if s2 = 1 then plT N T k else if s2 = 2 then fX (fo (hkey (r.dig k))) else if s2 = 3 then (PS k).getD s5.toNat [] else match gotIx G k with | some k => (G.getD k ⟨0, none, [], 0⟩).xs | none => []) := HPX'
        simp only [StepV.cells] at hld
        simp only at hs1 hs2 hs3 
        subst hs1
        have CA := (Chg.alloc [] wr (.cells #[.int .i64 (k : Int)] 3)).trans (Chg.alloc [] (wr.alloc (.cells #[.int .i64 (k : Int)] 3)) (.cells #[.int .i64 (k : Int), .int .i64 s2, .string s3, .int .i64 s4, .int .i64 s5] 85)) (by simp)
        have xi := ((Chg.alloc [] (wr.alloc (.cells #[.int .i64 (k : Int)] 3)) (.cells #[.int .i64 (k : Int), .int .i64 s2, .string s3, .int .i64 s4, .int .i64 s5] 85)).block _ (lt_of_block (heap_alloc_new wr (.cells #[.int .i64 (k : Int)] 3))) (by simp)).trans (heap_alloc_new wr (.cells #[.int .i64 (k : Int)] 3))
        have xs5 := heap_alloc_new (wr.alloc (.cells #[.int .i64 (k : Int)] 3)) (.cells #[.int .i64 (k : Int), .int .i64 s2, .string s3, .int .i64 s4, .int .i64 s5] 85)
        have sz1 : (wr.alloc (.cells #[.int .i64 (k : Int)] 3)).heap.size = wr.heap.size + 1 := by simp
        rw [sz1] at xs5
        clear hsk hs4 HPX'
        go_upto_region 10 with (refine wpList_load_y 85 (.tmp 37) rfl (by go_simp) (.pointer (some (a.add (k * 5)))) (.agg #[.int .i64 (k : Int), .int .i64 s2, .string s3, .int .i64 s4, .int .i64 s5]) hld rfl ?_)
        obtain ⟨qi, hqi⟩ : ∃ qi, wr.heap.size = qi := ⟨_, rfl⟩
        rw [hqi] at xi xs5 sz1 ⊢
        generalize (wr.alloc (.cells #[.int .i64 (k : Int)] 3)).alloc (.cells #[.int .i64 (k : Int), .int .i64 s2, .string s3, .int .i64 s4, .int .i64 s5] 85) = w5 at *
        have X5 := Lib.hid xi
        have XS5 := Lib.hid xs5
        have HB5 := Lib.hid (HB.out.keep CA)
        have HFQ : Hid (∀ j ∈ forb q2 (.slice oo ol oc) (.slice no nl nc), j < qi) := Lib.hid (fun j hj => by rw [← hqi]; exact (forb_lt HB.out j hj).1)
        have HNE : Hid (qi ≠ q2 ∧ q ≠ q2) := Lib.hid (by
          have h1 := HB.out.C.size
          have h2 := HQ4.out
          have h3 := HQ2.out
          omega)
        have HQI : Hid (q2 < qi) := Lib.hid (by
          have h1 := HB.out.C.size
          have h2 := HQ4.out
          omega)
        have HCW5 : Hid (∀ wz, Chg [] w5 wz → Chg [] w wz) := Lib.hid (fun wz C => HCW.out wz (CA.trans C (by simp)))
        have XR5 := Lib.hid ((CA.block q (by
          have h1 := HB.out.C.size
          have h2 := HQ4.out
          have h3 := HQ2.out
          omega) (by simp)).trans ((HB.out.C.block q (by
          have h2 := HQ4.out
          have h3 := HQ2.out
          omega) (fun hm => HNE.out.2 (List.mem_singleton.1 hm))).trans ((HC4.out.block q (lt_of_block HX0.out) (by simp)).trans HX0.out)))
        have z1 : w5.cell? ⟨qi + 1, 1, none⟩ = some (.int .i64 s2) := by rw [cell_of_row _ _ _ _ _ _ xs5]; rfl
        have HPLK := Lib.hid (HPL.out k)
        clear hld CA xi xs5 sz1 hqi HCW HB
        go_cut [40] (fun v w' => v = .int .i64 s2 ∧ w5 = w')
        case first =>
          go_wp2_with fail
          all_goals go_meet
          case rel => exact ⟨rfl, rfl⟩
        case rest =>
        rename_i hK0
        obtain ⟨rfl, rfl⟩ := hcut
        refine hK0 _ _ ?_
        clear hK0 z1
        go_cut [10] (fun v w' => v = .slice oo ol oc ∧ Hid (BSt w4 w' q2 ln (PS (k + 1)) (PS k).flatten (badV r (PS k)) (.slice oo ol oc) (.slice no nl nc)) ∧ Hid (Chg [q2] w5 w'))
        case first =>
          by_cases g1 : s2 = 1
          · subst g1
            have HPX : Hid (X = plT N T k) := Lib.hid (by rw [HSX.out]; rfl)
            clear HSX
            go_upto_region 15 with (fail)
            refine wp_region_held_drew (S := fun w' => Chg [q2] w5 w') (by kernel_rfl) ((Chg.drewN [q2] w5 1)) (fun H0 => ?_)
            refine' tkH (i := 0) (v := _) rfl (Or.inl ⟨by rfl, ?hyp0⟩) H0 ?restp0
            case hyp0 =>
              intro w' hSw
              have s1 := hSw
              go_simp
              try with_reducible rfl
            (try simp only [Act.put, List.getElem_toArray, List.getElem_cons_zero, List.setIfInBounds_toArray, List.set_cons_zero, List.set_cons_succ])
            refine' tkH (i := 1) (v := _) rfl (Or.inl ⟨by rfl, ?hyp1⟩) H0 ?restp1
            case hyp1 =>
              intro w' hSw
              have s1 := hSw
              have hc := (show w'.cell? ⟨qi, 0, none⟩ = some (.int .i64 (k : Int)) by rw [cell_of_row _ _ _ _ _ _ ((Chg.block (show Chg [q2] w5 w' from s1) qi (lt_of_block X5.out) (fun hm => HNE.out.1 (List.mem_singleton.1 hm))).trans X5.out)]; rfl)
              go_simp
              try with_reducible rfl
            (try simp only [Act.put, List.getElem_toArray, List.getElem_cons_succ, List.getElem_cons_zero, List.setIfInBounds_toArray, List.set_cons_zero, List.set_cons_succ])
            refine' tkH (i := 2) (v := .agg RC) rfl (Or.inl ⟨by rfl, ?hyp2⟩) H0 ?restp2
            case hyp2 =>
              intro w' hSw
              have s1 := hSw
              have hl := run_loadAt_rec w' q RC _ ((Chg.block (show Chg [q2] w5 w' from s1) q (lt_of_block XR5.out) (fun hm => HNE.out.2 (List.mem_singleton.1 hm))).trans XR5.out) HRS.out
              simp [execOp, Act.eval, hl, Result.andThen]
            (try simp only [Act.put, List.getElem_toArray, List.getElem_cons_succ, List.getElem_cons_zero, List.setIfInBounds_toArray, List.set_cons_zero, List.set_cons_succ])
            refine' tkH (i := 3) (v := _) rfl (Or.inl ⟨by rfl, ?hyp3⟩) H0 ?restp3
            case hyp3 =>
              intro w' hSw
              have s1 := hSw
              have hc := (show w'.cell? ⟨qi, 0, none⟩ = some (.int .i64 (k : Int)) by rw [cell_of_row _ _ _ _ _ _ ((Chg.block (show Chg [q2] w5 w' from s1) qi (lt_of_block X5.out) (fun hm => HNE.out.1 (List.mem_singleton.1 hm))).trans X5.out)]; rfl)
              go_simp
              try with_reducible rfl
            (try simp only [Act.put, List.getElem_toArray, List.getElem_cons_succ, List.getElem_cons_zero, List.setIfInBounds_toArray, List.set_cons_zero, List.set_cons_succ])
            refine' tkH (i := 4) (v := _) rfl (Or.inl ⟨by rfl, ?hyp4⟩) H0 ?restp4
            case hyp4 =>
              intro w' hSw
              have s1 := hSw
              go_simp
              try with_reducible rfl
            (try simp only [Act.put, List.getElem_toArray, List.getElem_cons_succ, List.getElem_cons_zero, List.setIfInBounds_toArray, List.set_cons_zero, List.set_cons_succ])
            refine wpAnyH_ready (rs := [5]) (by kernel_rfl) (by simp) (AllReadyH.cons rfl (fun K hK => ?_) AllReadyH.nil)
            go_simp
            refine (KP.out k hlt _ (HCW5.out _ (Chg.drewN [] w5 1))).mono ?_
            rintro e wy ⟨po, pc, rfl, hsx, hpn, hpl, hpo, Cy⟩
            rw [← HPX.out] at hsx hpl hpo ⊢
            have HTX := Lib.hid (HPT.out k)
            rw [← HPX.out] at HTX
            have CY : Chg [] w5 wy := (Chg.drewN [] w5 1).trans Cy (by simp)
            have HBY := Lib.hid (HB5.out.keep CY)
            have hpv : PV wy (forb q2 (.slice oo ol oc) (.slice no nl nc)) (.slice po X.length pc) X := ⟨po, pc, rfl, hsx, hpl, hpn, fun _ a2 ha => by
              obtain ⟨hp, t, h1, h2⟩ := hpo a2 ha
              have h3 := HTS.out t h1 (Nat.lt_of_lt_of_le hp HTX.out)
              refine ⟨fun hm => ?_, by rw [h2]; have := (HCW5.out _ CY).size; omega⟩
              have hq1 := HQ.out
              have hq2 := HQ2.out
              have hq3 := HQ4.out
              rcases (forb_lt HBY.out _ hm).2 with h | h
              · omega
              · omega⟩
            obtain ⟨u0, hu0, hf0, _⟩ := HBY.out.cell hlt
            have HPP := Lib.hid (HBY.out.put hpv)
            rw [HPLK.out] at HPP
            have HXV := Lib.hid (show ∃ u, wy.cell? ⟨q2, k, none⟩ = some u ∧ wy.frozen? ⟨q2, k, none⟩ = false from ⟨u0, hu0, hf0⟩)
            have HC7 := Lib.hid (CY.mono (T := [q2]) (by simp))
            generalize X.length = xn at *
            clear hpv hsx hpn hpl hpo hu0 hf0 CY HBY Cy HTX
            go_simp
            refine hK.out _ _ HC7.out (fun H1 => ?_)
            clear hK K
            refine' tkH (i := 6) (v := _) rfl (Or.inl ⟨by rfl, ?hyp6⟩) H1 ?restp6
            case hyp6 =>
              intro w' hSw
              have s1 := hSw
              go_simp
              try with_reducible rfl
            (try simp only [Act.put, List.getElem_toArray, List.getElem_cons_succ, List.getElem_cons_zero, List.setIfInBounds_toArray, List.set_cons_zero, List.set_cons_succ])
            refine wpAnyH_ready (rs := [7]) (by kernel_rfl) (by simp) (AllReadyH.cons rfl (fun K hK => ?_) AllReadyH.nil)
            obtain ⟨u0, hu0, hf0⟩ := HXV.out
            go_simp
            refine hK.out _ _ (H1.trans (Chg.setCell (S := [q2]) wy ⟨q2, k, none⟩ (.slice po xn pc) (.inl (by simp))) (by simp)) (fun H2 => ?_)
            clear hK K
            refine wpAnyH_done (by kernel_rfl) ?_ _
            have HCR := Lib.hid H2
            go_wp2_with fail
            all_goals go_meet
            case rel => exact ⟨rfl, by rw [HSS.out]; exact HPP, HCR⟩
          · by_cases g2 : s2 = 2
            · subst g2
              have HPX : Hid (X = fX (fo (hkey (r.dig k)))) := Lib.hid (by rw [HSX.out]; rfl)
              clear HSX
              obtain ⟨ab, fk, rfl, hdg, hlk0⟩ := HLD.out k hlt w5 (HCW5.out _ (Chg.refl _ _))
              obtain ⟨Rk, hRk⟩ : ∃ Rk, hashC fk = Rk := ⟨_, rfl⟩
              have HCW2 : Hid (∀ wz, Chg [q2] w5 wz → Chg [] w wz) := Lib.hid (fun wz C => (HCW5.out w5 (Chg.refl _ _)).trans C (fun j hj => .inr (by
                have h1 := HQ.out
                have h2 := HQ2.out
                rw [List.mem_singleton.1 hj]; omega)))
              have HLK : Hid (∀ w', Chg [] w w' → (Instr.loadAt 32 (.pointer (some (ab.add (k * 32))))).run Tryd.prog w' = .ok (.agg Rk) w') := Lib.hid (fun w' C => by
                obtain ⟨ab2, fk2, h1, h2, h3⟩ := HLD.out k hlt w' C
                cases h1
                rw [hdg] at h2
                cases h2
                rw [← hRk]
                exact h3)
              have KFk := Lib.hid (fun (w' : World) (C : Chg [] w w') => by
                have := KF.out w' (hkey (r.dig k)) C
                rewrite [hdg, hkV_hkey, hashV, hRk, ← hdg] at this
                exact this)
              clear hlk0 hRk hdg
              go_upto_region 17 with (fail)
              refine wp_region_held_drew (S := fun w' => Chg [q2] w5 w') (by kernel_rfl) ((Chg.drewN [q2] w5 1)) (fun H0 => ?_)
              refine' tkH (i := 0) (v := _) rfl (Or.inl ⟨by rfl, ?hyf0⟩) H0 ?restf0
              case hyf0 =>
                intro w' hSw
                have s1 := hSw
                go_simp
                try with_reducible rfl
              (try simp only [Act.put, List.getElem_toArray, List.getElem_cons_zero, List.setIfInBounds_toArray, List.set_cons_zero, List.set_cons_succ])
              refine' tkH (i := 1) (v := _) rfl (Or.inl ⟨by rfl, ?hyf1⟩) H0 ?restf1
              case hyf1 =>
                intro w' hSw
                have s1 := hSw
                have hc := (show w'.cell? ⟨qi, 0, none⟩ = some (.int .i64 (k : Int)) by rw [cell_of_row _ _ _ _ _ _ ((Chg.block (show Chg [q2] w5 w' from s1) qi (lt_of_block X5.out) (fun hm => HNE.out.1 (List.mem_singleton.1 hm))).trans X5.out)]; rfl)
                go_simp
                try with_reducible rfl
              (try simp only [Act.put, List.getElem_toArray, List.getElem_cons_succ, List.getElem_cons_zero, List.setIfInBounds_toArray, List.set_cons_zero, List.set_cons_succ])
              refine' tkH (i := 2) (v := _) rfl (Or.inl ⟨by rfl, ?hyf2⟩) H0 ?restf2
              case hyf2 =>
                intro w' hSw
                have s1 := hSw
                go_simp
                try with_reducible rfl
              (try simp only [Act.put, List.getElem_toArray, List.getElem_cons_succ, List.getElem_cons_zero, List.setIfInBounds_toArray, List.set_cons_zero, List.set_cons_succ])
              refine' tkH (i := 3) (v := _) rfl (Or.inl ⟨by rfl, ?hyf3⟩) H0 ?restf3
              case hyf3 =>
                intro w' hSw
                have s1 := hSw
                go_simp
                try with_reducible rfl
              (try simp only [Act.put, List.getElem_toArray, List.getElem_cons_succ, List.getElem_cons_zero, List.setIfInBounds_toArray, List.set_cons_zero, List.set_cons_succ])
              refine' tkH (i := 4) (v := _) rfl (Or.inl ⟨by rfl, ?hyf4⟩) H0 ?restf4
              case hyf4 =>
                intro w' hSw
                have s1 := hSw
                have hc := (show w'.cell? ⟨q, 23, none⟩ = some (.slice (some ab) ln c) by rw [cell_of_row _ _ _ _ _ _ ((Chg.block (show Chg [q2] w5 w' from s1) q (lt_of_block XR5.out) (fun hm => HNE.out.2 (List.mem_singleton.1 hm))).trans XR5.out)]; exact HBL.out)
                go_simp
                try with_reducible rfl
              (try simp only [Act.put, List.getElem_toArray, List.getElem_cons_succ, List.getElem_cons_zero, List.setIfInBounds_toArray, List.set_cons_zero, List.set_cons_succ])
              refine' tkH (i := 5) (v := _) rfl (Or.inl ⟨by rfl, ?hyf5⟩) H0 ?restf5
              case hyf5 =>
                intro w' hSw
                have s1 := hSw
                have hc := (show w'.cell? ⟨qi, 0, none⟩ = some (.int .i64 (k : Int)) by rw [cell_of_row _ _ _ _ _ _ ((Chg.block (show Chg [q2] w5 w' from s1) qi (lt_of_block X5.out) (fun hm => HNE.out.1 (List.mem_singleton.1 hm))).trans X5.out)]; rfl)
                go_simp
                try with_reducible rfl
              (try simp only [Act.put, List.getElem_toArray, List.getElem_cons_succ, List.getElem_cons_zero, List.setIfInBounds_toArray, List.set_cons_zero, List.set_cons_succ])
              refine' tkH (i := 6) (v := _) rfl (Or.inl ⟨by rfl, ?hyf6⟩) H0 ?restf6
              case hyf6 =>
                intro w' hSw
                have s1 := hSw
                go_simp
                try with_reducible rfl
              (try simp only [Act.put, List.getElem_toArray, List.getElem_cons_succ, List.getElem_cons_zero, List.setIfInBounds_toArray, List.set_cons_zero, List.set_cons_succ])
              refine' tkH (i := 7) (v := .agg Rk) rfl (Or.inl ⟨by rfl, ?hyf7⟩) H0 ?restf7
              case hyf7 =>
                intro w' hSw
                have s1 := hSw
                have hl := HLK.out w' (HCW2.out w' s1)
                simp [execOp, Act.eval, hl, Result.andThen]
              (try simp only [Act.put, List.getElem_toArray, List.getElem_cons_succ, List.getElem_cons_zero, List.setIfInBounds_toArray, List.set_cons_zero, List.set_cons_succ])
              refine wpAnyH_ready (rs := [8]) (by kernel_rfl) (by simp) (AllReadyH.cons rfl (fun K hK => ?_) AllReadyH.nil)
              go_simp
              refine (KFk.out _ (HCW5.out _ (Chg.drewN [] w5 1))).mono ?_
              rintro e wy hfd
              obtain ⟨Cy, po, pc, rfl, hown, hnew⟩ := found_any hfd
              rw [← HPX.out] at hown hnew ⊢
              have CY : Chg [] w5 wy := (Chg.drewN [] w5 1).trans Cy (by simp)
              have HBY := Lib.hid (HB5.out.keep CY)
              have hpv : PV wy (forb q2 (.slice oo ol oc) (.slice no nl nc)) (.slice po X.length pc) X := PV.own hown (fun k hk hm => by
                have h1 := hnew k hk
                have h2 := (forb_lt HB5.out _ hm).1
                rw [heap_drewN] at h1
                omega)
              obtain ⟨u0, hu0, hf0, _⟩ := HBY.out.cell hlt
              have HPP := Lib.hid (HBY.out.put hpv)
              rw [HPLK.out] at HPP
              have HXV := Lib.hid (show ∃ u, wy.cell? ⟨q2, k, none⟩ = some u ∧ wy.frozen? ⟨q2, k, none⟩ = false from ⟨u0, hu0, hf0⟩)
              have HC7 := Lib.hid (CY.mono (T := [q2]) (by simp))
              generalize X.length = xn at *
              clear hpv hown hnew hfd hu0 hf0 CY HBY Cy
              generalize fM (fo (hkey (r.dig k))) = mm at *
              generalize (fo (hkey (r.dig k))).isSome = oks at *
              go_simp
              refine hK.out _ _ HC7.out (fun H1 => ?_)
              clear hK K
              refine' tkH (i := 9) (v := _) rfl (Or.inl ⟨by rfl, ?hyf9⟩) H1 ?restf9
              case hyf9 =>
                intro w' hSw
                have s1 := hSw
                go_simp
                try with_reducible rfl
              (try simp only [Act.put, List.getElem_toArray, List.getElem_cons_succ, List.getElem_cons_zero, List.setIfInBounds_toArray, List.set_cons_zero, List.set_cons_succ])
              refine' tkH (i := 10) (v := _) rfl (Or.inl ⟨by rfl, ?hyf10⟩) H1 ?restf10
              case hyf10 =>
                intro w' hSw
                have s1 := hSw
                go_simp
                try with_reducible rfl
              (try simp only [Act.put, List.getElem_toArray, List.getElem_cons_succ, List.getElem_cons_zero, List.setIfInBounds_toArray, List.set_cons_zero, List.set_cons_succ])
              refine' tkH (i := 11) (v := _) rfl (Or.inl ⟨by rfl, ?hyf11⟩) H1 ?restf11
              case hyf11 =>
                intro w' hSw
                have s1 := hSw
                go_simp
                try with_reducible rfl
              (try simp only [Act.put, List.getElem_toArray, List.getElem_cons_succ, List.getElem_cons_zero, List.setIfInBounds_toArray, List.set_cons_zero, List.set_cons_succ])
              refine' tkH (i := 12) (v := _) rfl (Or.inl ⟨by rfl, ?hyf12⟩) H1 ?restf12
              case hyf12 =>
                intro w' hSw
                have s1 := hSw
                go_simp
                try with_reducible rfl
              (try simp only [Act.put, List.getElem_toArray, List.getElem_cons_succ, List.getElem_cons_zero, List.setIfInBounds_toArray, List.set_cons_zero, List.set_cons_succ])
              refine' tkH (i := 13) (v := _) rfl (Or.inl ⟨by rfl, ?hyf13⟩) H1 ?restf13
              case hyf13 =>
                intro w' hSw
                have s1 := hSw
                go_simp
                try with_reducible rfl
              (try simp only [Act.put, List.getElem_toArray, List.getElem_cons_succ, List.getElem_cons_zero, List.setIfInBounds_toArray, List.set_cons_zero, List.set_cons_succ])
              refine wpAnyH_ready (rs := [14]) (by kernel_rfl) (by simp) (AllReadyH.cons rfl (fun K hK => ?_) AllReadyH.nil)
              obtain ⟨u0, hu0, hf0⟩ := HXV.out
              go_simp
              refine hK.out _ _ (H1.trans (Chg.setCell (S := [q2]) wy ⟨q2, k, none⟩ (.slice po xn pc) (.inl (by simp))) (by simp)) (fun H2 => ?_)
              clear hK K
              refine wpAnyH_done (by kernel_rfl) ?_ _
              have HCR := Lib.hid H2
              go_wp2_with fail
              all_goals go_meet
              case rel => exact ⟨rfl, by rw [HSS.out]; exact HPP, HCR⟩
            · by_cases g3 : s2 = 3
              · subst g3
                have HPX : Hid (X = (PS k).getD s5.toNat []) := Lib.hid (by rw [HSX.out]; rfl)
                clear HSX
                obtain ⟨g5, g6⟩ := HS4.out rfl
                obtain ⟨kk, rfl⟩ := Int.eq_ofNat_of_zero_le g5
                have g7 : kk < k := by omega
                have e5 : (kk : Int) < ln := by omega
                have e6 : (0 : Int) ≤ (kk : Int) := g5
                have hXK : (PS k)[kk]? = some X := by
                  have h1 : kk < (PS k).length := by rw [HPLK.out]; exact g7
                  have h2 := HPX.out
                  rw [Int.toNat_natCast, List.getD, List.getElem?_eq_getElem h1] at h2
                  rw [List.getElem?_eq_getElem h1, h2]
                  rfl
                obtain ⟨pv, hck, hfk, hpv⟩ := HB5.out.cell (show kk < ln by omega)
                have hpv := hpv X hXK
                obtain ⟨po, pc, rfl, _, _⟩ := hpv.short
                have hdr := (Chg.drewN [] w5 1)
                have HPP := Lib.hid ((HB5.out.keep hdr).put (hpv.chg hdr (by simp)))
                rw [HPLK.out] at HPP
                obtain ⟨u0, hu0, hf0, _⟩ := HB5.out.cell hlt
                have HXV := Lib.hid (show ∃ u, w5.cell? ⟨q2, k, none⟩ = some u ∧ w5.frozen? ⟨q2, k, none⟩ = false from ⟨u0, hu0, hf0⟩)
                have HNE3 : Hid (qi + 1 ≠ q2) := Lib.hid (by have := HQI.out; omega)
                generalize X.length = xn at *
                have HCK := Lib.hid hck
                clear hpv hck hfk hu0 hf0 hdr hXK
                go_upto_region 19 with (fail)
                refine wp_region_held_drew (S := fun w' => Chg [q2] w5 w' ∧ w'.cell? ⟨q2, kk, none⟩ = some (.slice po xn pc)) (by kernel_rfl) (⟨(Chg.drewN [q2] w5 1), HCK.out⟩) (fun H0 => ?_)
                refine' tkH (i := 0) (v := _) rfl (Or.inl ⟨by rfl, ?hys0⟩) H0 ?rests0
                case hys0 =>
                  intro w' hSw
                  obtain ⟨s1, s2⟩ := hSw
                  go_simp
                  try with_reducible rfl
                (try simp only [Act.put, List.getElem_toArray, List.getElem_cons_zero, List.setIfInBounds_toArray, List.set_cons_zero, List.set_cons_succ])
                refine' tkH (i := 1) (v := _) rfl (Or.inl ⟨by rfl, ?hys1⟩) H0 ?rests1
                case hys1 =>
                  intro w' hSw
                  obtain ⟨s1, s2⟩ := hSw
                  have hc := (show w'.cell? ⟨qi, 0, none⟩ = some (.int .i64 (k : Int)) by rw [cell_of_row _ _ _ _ _ _ ((Chg.block (show Chg [q2] w5 w' from s1) qi (lt_of_block X5.out) (fun hm => HNE.out.1 (List.mem_singleton.1 hm))).trans X5.out)]; rfl)
                  go_simp
                  try with_reducible rfl
                (try simp only [Act.put, List.getElem_toArray, List.getElem_cons_succ, List.getElem_cons_zero, List.setIfInBounds_toArray, List.set_cons_zero, List.set_cons_succ])
                refine' tkH (i := 2) (v := _) rfl (Or.inl ⟨by rfl, ?hys2⟩) H0 ?rests2
                case hys2 =>
                  intro w' hSw
                  obtain ⟨s1, s2⟩ := hSw
                  go_simp
                  try with_reducible rfl
                (try simp only [Act.put, List.getElem_toArray, List.getElem_cons_succ, List.getElem_cons_zero, List.setIfInBounds_toArray, List.set_cons_zero, List.set_cons_succ])
                refine' tkH (i := 3) (v := _) rfl (Or.inl ⟨by rfl, ?hys3⟩) H0 ?rests3
                case hys3 =>
                  intro w' hSw
                  obtain ⟨s1, s2⟩ := hSw
                  go_simp
                  try with_reducible rfl
                (try simp only [Act.put, List.getElem_toArray, List.getElem_cons_succ, List.getElem_cons_zero, List.setIfInBounds_toArray, List.set_cons_zero, List.set_cons_succ])
                refine' tkH (i := 4) (v := _) rfl (Or.inl ⟨by rfl, ?hys4⟩) H0 ?rests4
                case hys4 =>
                  intro w' hSw
                  obtain ⟨s1, s2⟩ := hSw
                  have hc := (show w'.cell? ⟨qi + 1, 4, none⟩ = some (.int .i64 (kk : Int)) by rw [cell_of_row _ _ _ _ _ _ ((Chg.block (show Chg [q2] w5 w' from s1) (qi + 1) (lt_of_block XS5.out) (fun hm => HNE3.out (List.mem_singleton.1 hm))).trans XS5.out)]; rfl)
                  go_simp
                  try with_reducible rfl
                (try simp only [Act.put, List.getElem_toArray, List.getElem_cons_succ, List.getElem_cons_zero, List.setIfInBounds_toArray, List.set_cons_zero, List.set_cons_succ])
                refine' tkH (i := 5) (v := _) rfl (Or.inl ⟨by rfl, ?hys5⟩) H0 ?rests5
                case hys5 =>
                  intro w' hSw
                  obtain ⟨s1, s2⟩ := hSw
                  go_simp
                  try with_reducible rfl
                (try simp only [Act.put, List.getElem_toArray, List.getElem_cons_succ, List.getElem_cons_zero, List.setIfInBounds_toArray, List.set_cons_zero, List.set_cons_succ])
                refine' tkH (i := 6) (v := _) rfl (Or.inl ⟨by rfl, ?hys6⟩) H0 ?rests6
                case hys6 =>
                  intro w' hSw
                  obtain ⟨s1, s2⟩ := hSw
                  go_simp
                  try with_reducible rfl
                (try simp only [Act.put, List.getElem_toArray, List.getElem_cons_succ, List.getElem_cons_zero, List.setIfInBounds_toArray, List.set_cons_zero, List.set_cons_succ])
                refine' tkH (i := 7) (v := _) rfl (Or.inl ⟨by rfl, ?hys7⟩) H0 ?rests7
                case hys7 =>
                  intro w' hSw
                  obtain ⟨s1, s2⟩ := hSw
                  go_simp
                  try with_reducible rfl
                (try simp only [Act.put, List.getElem_toArray, List.getElem_cons_succ, List.getElem_cons_zero, List.setIfInBounds_toArray, List.set_cons_zero, List.set_cons_succ])
                refine wpAnyH_ready (rs := [8]) (by kernel_rfl) (by simp) (AllReadyH.cons rfl (fun K hK => ?_) AllReadyH.nil)
                obtain ⟨u0, hu0, hf0⟩ := HXV.out
                have hu0 : w5.drew.cell? ⟨q2, k, none⟩ = some u0 := hu0
                have hf0 : w5.drew.frozen? ⟨q2, k, none⟩ = false := hf0
                go_simp
                refine hK.out _ _ ⟨H0.1.trans (Chg.setCell (S := [q2]) w5.drew ⟨q2, k, none⟩ (.slice po xn pc) (.inl (by simp))) (by simp), (World.cell?_setCell_other _ _ _ _ (by intro e; cases e; omega)).trans H0.2⟩ (fun H1 => ?_)
                clear hK K
                refine wpAnyH_done (by kernel_rfl) ?_ _
                have HCR := Lib.hid H1.1
                go_wp2_with fail
                all_goals go_meet
                case rel => exact ⟨rfl, by rw [HSS.out]; exact HPP, HCR⟩
              · have g4 : s2 = 4 := by omega
                subst g4
                have HPX : Hid (X = match gotIx G k with | some k => (G.getD k ⟨0, none, [], 0⟩).xs | none => []) := Lib.hid (by rw [HSX.out]; rfl)
                clear HSX
                have c0 : w5.cell? ⟨qi, 0, none⟩ = some (.int .i64 (k : Int)) := by rw [cell_of_row _ _ _ _ _ _ X5.out]; rfl
                have KIk := Lib.hid (KI.out (k : Int) qi w5 (HCW5.out _ (Chg.refl _ _)) c0)
                clear c0
                go_wp2_with fail
                refine KIk.out.mono ?_
                rintro e w6 ⟨rfl, C6⟩
                have HC6 := Lib.hid C6
                have HB6 := Lib.hid (HB5.out.keep C6)
                have XI6 := Lib.hid ((C6.block qi (lt_of_block X5.out) (by simp)).trans X5.out)
                clear C6 KIk
                obtain ⟨oi, hoi⟩ : ∃ oi, gotIx G (k : Int) = oi := ⟨_, rfl⟩
                rw [hoi]
                have HOI := Lib.hid hoi
                clear hoi
                cases oi with
                | none =>
                  have HPX2 : Hid (X = []) := Lib.hid (by rw [HPX.out, HOI.out])
                  have HPP := Lib.hid (HB6.out.skip (by rw [HPLK.out]; exact hlt))
                  rw [← HPX2.out] at HPP
                  have HCR := Lib.hid (HC6.out.mono (T := [q2]) (by simp))
                  simp only [ixZ]
                  go_wp2_with fail
                  all_goals go_meet
                  case rel => exact ⟨rfl, by rw [HSS.out]; exact HPP, HCR⟩
                | some kg =>
                  obtain ⟨gg, hgg, hgl, hgx⟩ := HGL.out k kg HOI.out
                  have HPX2 : Hid (X = gg.xs) := Lib.hid (by rw [HPX.out, HOI.out]; exact hgx)
                  have HCW6 : Hid (∀ wz, Chg [q2] w6 wz → Chg [] w wz) := Lib.hid (fun wz C => (HCW5.out w6 HC6.out).trans C (fun j hj => .inr (by
                    have h1 := HQ.out
                    have h2 := HQ2.out
                    rw [List.mem_singleton.1 hj]; omega)))
                  obtain ⟨ag, rfl, hgb, _, hpv0⟩ := HGOT.out kg gg hgg w6 (HCW5.out w6 HC6.out)
                  have hpv : PV w6 (forb q2 (.slice oo ol oc) (.slice no nl nc)) (.slice gg.ao gg.xs.length gg.cap) gg.xs := (hpv0.grow (fun j hj => .inr (by
                    have h1 := HQ.out
                    have h2 := HQ2.out
                    have h3 := HQ4.out
                    rcases (forb_lt HB6.out _ hj).2 with h | h <;> omega))).chg (HCW5.out w6 HC6.out) (by simp)
                  have HPP := Lib.hid ((HB6.out.keep (Chg.drewN [] w6 1)).put (hpv.chg (Chg.drewN [] w6 1) (by simp)))
                  rw [HPLK.out, ← HPX2.out] at HPP
                  have HGC2 : Hid (∀ w', Chg [q2] w6 w' → w'.cell? ⟨(ag.add (kg * 2)).block, (ag.add (kg * 2)).off + 1, none⟩ = some (.slice gg.ao gg.xs.length gg.cap)) := Lib.hid (fun w' C => by
                    obtain ⟨ag2, h1, _, h2, _⟩ := HGOT.out kg gg hgg w' (HCW6.out w' C)
                    cases h1
                    rw [← addr_add_add] at h2
                    exact h2)
                  obtain ⟨u0, hu0, hf0, _⟩ := HB6.out.cell hlt
                  have HXV := Lib.hid (show ∃ u, w6.cell? ⟨q2, k, none⟩ = some u ∧ w6.frozen? ⟨q2, k, none⟩ = false from ⟨u0, hu0, hf0⟩)
                  rw [← HPX2.out] at HGC2
                  have e7 : (kg : Int) < gn := by omega
                  have e8 : (0 : Int) ≤ kg := Int.natCast_nonneg _
                  have hgc := HGC.out
                  have hkgc : kg < gc := by omega
                  generalize gg.ao = po at *
                  generalize gg.cap = pc at *
                  generalize X.length = xn at *
                  simp only [ixZ]
                  clear hpv hpv0 hu0 hf0 hgg hgx
                  go_upto_region 13 with (fail)
                  refine wp_region_held_drew (S := fun w' => Chg [q2] w6 w') (by kernel_rfl) ((Chg.drewN [q2] w6 1)) (fun H0 => ?_)
                  refine' tkH (i := 0) (v := _) rfl (Or.inl ⟨by rfl, ?hyg0⟩) H0 ?restg0
                  case hyg0 =>
                    intro w' hSw
                    have s1 := hSw
                    go_simp
                    try with_reducible rfl
                  (try simp only [Act.put, List.getElem_toArray, List.getElem_cons_zero, List.setIfInBounds_toArray, List.set_cons_zero, List.set_cons_succ])
                  refine' tkH (i := 1) (v := _) rfl (Or.inl ⟨by rfl, ?hyg1⟩) H0 ?restg1
                  case hyg1 =>
                    intro w' hSw
                    have s1 := hSw
                    have hc := (show w'.cell? ⟨qi, 0, none⟩ = some (.int .i64 (k : Int)) by rw [cell_of_row _ _ _ _ _ _ ((Chg.block (show Chg [q2] w6 w' from s1) qi (lt_of_block XI6.out) (fun hm => HNE.out.1 (List.mem_singleton.1 hm))).trans XI6.out)]; rfl)
                    go_simp
                    try with_reducible rfl
                  (try simp only [Act.put, List.getElem_toArray, List.getElem_cons_succ, List.getElem_cons_zero, List.setIfInBounds_toArray, List.set_cons_zero, List.set_cons_succ])
                  refine' tkH (i := 2) (v := _) rfl (Or.inl ⟨by rfl, ?hyg2⟩) H0 ?restg2
                  case hyg2 =>
                    intro w' hSw
                    have s1 := hSw
                    go_simp
                    try with_reducible rfl
                  (try simp only [Act.put, List.getElem_toArray, List.getElem_cons_succ, List.getElem_cons_zero, List.setIfInBounds_toArray, List.set_cons_zero, List.set_cons_succ])
                  refine' tkH (i := 3) (v := _) rfl (Or.inl ⟨by rfl, ?hyg3⟩) H0 ?restg3
                  case hyg3 =>
                    intro w' hSw
                    have s1 := hSw
                    go_simp
                    try with_reducible rfl
                  (try simp only [Act.put, List.getElem_toArray, List.getElem_cons_succ, List.getElem_cons_zero, List.setIfInBounds_toArray, List.set_cons_zero, List.set_cons_succ])
                  refine' tkH (i := 4) (v := _) rfl (Or.inl ⟨by rfl, ?hyg4⟩) H0 ?restg4
                  case hyg4 =>
                    intro w' hSw
                    have s1 := hSw
                    go_simp
                    try with_reducible rfl
                  (try simp only [Act.put, List.getElem_toArray, List.getElem_cons_succ, List.getElem_cons_zero, List.setIfInBounds_toArray, List.set_cons_zero, List.set_cons_succ])
                  refine' tkH (i := 5) (v := _) rfl (Or.inl ⟨by rfl, ?hyg5⟩) H0 ?restg5
                  case hyg5 =>
                    intro w' hSw
                    have s1 := hSw
                    go_simp
                    try with_reducible rfl
                  (try simp only [Act.put, List.getElem_toArray, List.getElem_cons_succ, List.getElem_cons_zero, List.setIfInBounds_toArray, List.set_cons_zero, List.set_cons_succ])
                  refine' tkH (i := 6) (v := _) rfl (Or.inl ⟨by rfl, ?hyg6⟩) H0 ?restg6
                  case hyg6 =>
                    intro w' hSw
                    have s1 := hSw
                    have hc := HGC2.out w' s1
                    go_simp
                    try with_reducible rfl
                  (try simp only [Act.put, List.getElem_toArray, List.getElem_cons_succ, List.getElem_cons_zero, List.setIfInBounds_toArray, List.set_cons_zero, List.set_cons_succ])
                  refine' tkH (i := 7) (v := _) rfl (Or.inl ⟨by rfl, ?hyg7⟩) H0 ?restg7
                  case hyg7 =>
                    intro w' hSw
                    have s1 := hSw
                    go_simp
                    try with_reducible rfl
                  (try simp only [Act.put, List.getElem_toArray, List.getElem_cons_succ, List.getElem_cons_zero, List.setIfInBounds_toArray, List.set_cons_zero, List.set_cons_succ])
                  refine wpAnyH_ready (rs := [8]) (by kernel_rfl) (by simp) (AllReadyH.cons rfl (fun K hK => ?_) AllReadyH.nil)
                  obtain ⟨u0, hu0, hf0⟩ := HXV.out
                  have hu0 : w6.drew.cell? ⟨q2, k, none⟩ = some u0 := hu0
                  have hf0 : w6.drew.frozen? ⟨q2, k, none⟩ = false := hf0
                  go_simp
                  refine hK.out _ _ (H0.trans (Chg.setCell (S := [q2]) w6.drew ⟨q2, k, none⟩ (.slice po xn pc) (.inl (by simp))) (by simp)) (fun H1 => ?_)
                  clear hK K
                  refine wpAnyH_done (by kernel_rfl) ?_ _
                  have HCR := Lib.hid ((HC6.out.mono (T := [q2]) (by simp)).trans H1 (by simp))
                  go_wp2_with fail
                  all_goals go_meet
                  case rel => exact ⟨rfl, by rw [HSS.out]; exact HPP, HCR⟩
        case rest =>
        obtain ⟨rfl, HBC, HCC⟩ := hcut
        go_upto_region 20 with (fail)
        have HIC : Hid (wc.cell? ⟨qi, 0, none⟩ = some (.int .i64 (k : Int))) := Lib.hid (by rw [cell_of_row _ _ _ _ _ _ ((HCC.out.block qi (lt_of_block X5.out) (fun hm => HNE.out.1 (List.mem_singleton.1 hm))).trans X5.out)]; rfl)
        have HIL : Hid (qi < wc.heap.size) := Lib.hid (Nat.lt_of_lt_of_le (lt_of_block X5.out) HCC.out.size)
        have XR7 := Lib.hid ((HCC.out.block q (lt_of_block XR5.out) (fun hm => HNE.out.2 (List.mem_singleton.1 hm))).trans XR5.out)
        obtain ⟨pv, hpc, _, hpv⟩ := HBC.out.cell hlt
        have hXK : (PS (k + 1))[k]? = some X := by rw [HSS.out, List.getElem?_append_right (by rw [HPLK.out]; exact Nat.le_refl _), HPLK.out, Nat.sub_self]; rfl
        have hpv := hpv X hXK
        have HPVX := Lib.hid hpv
        obtain ⟨po, pc, rfl, hsx, hpl, hpn, hpb⟩ := hpv
        have HPB := Lib.hid (fun hp a ha => (hpb hp a ha).1)
        have HPC := Lib.hid hpc
        have HXS := Lib.hid ((HSH.out (k + 1)).1 X (List.mem_of_getElem? hXK))
        have HCW7 : Hid (∀ wz, Chg [] wc wz → Chg [] w wz) := Lib.hid (fun wz C => ((HCW5.out w5 (Chg.refl _ _)).trans HCC.out (fun j hj => .inr (by
          have h1 := HQ.out
          have h2 := HQ2.out
          rw [List.mem_singleton.1 hj]; omega))).trans C (by simp))
        have KRk := Lib.hid (KR.out k hlt po pc X wc.drew (HCW7.out _ (Chg.drewN [] wc 1)) (hsx.chg (Chg.drewN [] wc 1) (by simp)) HXS.out hpl)
        have HSX2 := Lib.hid hsx
        have HPN := Lib.hid hpn
        have HXF : Hid ((PS (k + 1)).flatten = (PS k).flatten ++ X) := Lib.hid (by rw [HSS.out, List.flatten_append, List.flatten_cons, List.flatten_nil, List.append_nil])
        have HBN : Hid (badV r (PS (k + 1)) = badV r (PS k) ++ if rightB r k X = true then [] else [(k : Int)]) := Lib.hid (by rw [HSS.out, badV_next, HPLK.out])
        have HXB : Hid (ol + X.length ≤ 32000000) := Lib.hid (by
          have h1 := (HSH.out (k + 1)).2
          rw [HXF.out, List.length_append, ← HOL.out] at h1
          have : (k + 1) * 1000000 ≤ 32 * 1000000 := Nat.mul_le_mul_right _ (by omega)
          omega)
        have HNB : Hid (nl ≤ 32) := Lib.hid (by
          have h1 := badV_len r (PS k)
          rw [HPLK.out, ← HNL.out] at h1
          omega)
        obtain ⟨xn, hxn⟩ : ∃ xn, X.length = xn := ⟨_, rfl⟩
        have HXN := Lib.hid hxn
        rw [hxn] at HPC KRk HXB
        obtain ⟨RB, hRB⟩ : ∃ RB, rightB r k X = RB := ⟨_, rfl⟩
        rw [hRB] at HBN KRk
        clear hxn hRB hXK hpv hsx hpl hpn hpb hpc HSX X5 XS5 XR5 HB5 HCC HPVX HCW5 hs2 hs3
        refine wp_region_held_drew (S := fun w' => Chg [] wc w') (by kernel_rfl) ((Chg.drewN [] wc 1)) (fun H0 => ?_)
        refine' tkH (i := 0) (v := .agg RC) rfl (Or.inl ⟨by rfl, ?hyr0⟩) H0 ?restr0
        case hyr0 =>
          intro w' hSw
          have s1 := hSw
          have hl := run_loadAt_rec w' q RC _ ((Chg.block (show Chg [] wc w' from s1) q (lt_of_block XR7.out) (by simp)).trans XR7.out) HRS.out
          simp [execOp, Act.eval, hl, Result.andThen]
        (try simp only [Act.put, List.getElem_toArray, List.getElem_cons_zero, List.setIfInBounds_toArray, List.set_cons_zero, List.set_cons_succ])
        refine' tkH (i := 1) (v := _) rfl (Or.inl ⟨by rfl, ?hyr1⟩) H0 ?restr1
        case hyr1 =>
          intro w' hSw
          have s1 := hSw
          have hc := (show w'.cell? ⟨qi, 0, none⟩ = some (.int .i64 (k : Int)) from (Chg.cell_some (show Chg [] wc w' from s1) HIC.out (by simp)))
          go_simp
          try with_reducible rfl
        (try simp only [Act.put, List.getElem_toArray, List.getElem_cons_succ, List.getElem_cons_zero, List.setIfInBounds_toArray, List.set_cons_zero, List.set_cons_succ])
        refine' tkH (i := 2) (v := _) rfl (Or.inl ⟨by rfl, ?hyr2⟩) H0 ?restr2
        case hyr2 =>
          intro w' hSw
          have s1 := hSw
          go_simp
          try with_reducible rfl
        (try simp only [Act.put, List.getElem_toArray, List.getElem_cons_succ, List.getElem_cons_zero, List.setIfInBounds_toArray, List.set_cons_zero, List.set_cons_succ])
        refine' tkH (i := 3) (v := _) rfl (Or.inl ⟨by rfl, ?hyr3⟩) H0 ?restr3
        case hyr3 =>
          intro w' hSw
          have s1 := hSw
          have hc := (show w'.cell? ⟨qi, 0, none⟩ = some (.int .i64 (k : Int)) from (Chg.cell_some (show Chg [] wc w' from s1) HIC.out (by simp)))
          go_simp
          try with_reducible rfl
        (try simp only [Act.put, List.getElem_toArray, List.getElem_cons_succ, List.getElem_cons_zero, List.setIfInBounds_toArray, List.set_cons_zero, List.set_cons_succ])
        refine' tkH (i := 4) (v := _) rfl (Or.inl ⟨by rfl, ?hyr4⟩) H0 ?restr4
        case hyr4 =>
          intro w' hSw
          have s1 := hSw
          go_simp
          try with_reducible rfl
        (try simp only [Act.put, List.getElem_toArray, List.getElem_cons_succ, List.getElem_cons_zero, List.setIfInBounds_toArray, List.set_cons_zero, List.set_cons_succ])
        refine' tkH (i := 5) (v := _) rfl (Or.inl ⟨by rfl, ?hyr5⟩) H0 ?restr5
        case hyr5 =>
          intro w' hSw
          have s1 := hSw
          have hc := (show w'.cell? ⟨q2, k, none⟩ = some (.slice po xn pc) from (Chg.cell_some (show Chg [] wc w' from s1) HPC.out (by simp)))
          go_simp
          try with_reducible rfl
        (try simp only [Act.put, List.getElem_toArray, List.getElem_cons_succ, List.getElem_cons_zero, List.setIfInBounds_toArray, List.set_cons_zero, List.set_cons_succ])
        refine wpAnyH_ready (rs := [6]) (by kernel_rfl) (by simp) (AllReadyH.cons rfl (fun K hK => ?_) AllReadyH.nil)
        go_simp
        refine KRk.out.mono ?_
        rintro e wz ⟨rfl, Cz⟩
        go_simp
        refine hK.out _ _ (H0.trans Cz (by simp)) (fun H1 => ?_)
        clear hK K Cz
        refine' tkH (i := 7) (v := _) rfl (Or.inl ⟨by rfl, ?hyr7⟩) H1 ?restr7
        case hyr7 =>
          intro w' hSw
          have s1 := hSw
          go_simp
          try with_reducible rfl
        (try simp only [Act.put, List.getElem_toArray, List.getElem_cons_succ, List.getElem_cons_zero, List.setIfInBounds_toArray, List.set_cons_zero, List.set_cons_succ])
        refine wpAnyH_done (by kernel_rfl) ?_ _
        have HC7 := Lib.hid H1
        have HIC2 := Lib.hid (HC7.out.cell_some HIC.out (by simp))
        have HPC2 := Lib.hid (HC7.out.cell_some HPC.out (by simp))
        have HBC2 := Lib.hid (HBC.out.keep HC7.out)
        have HSX3 := Lib.hid (HSX2.out.chg HC7.out (by simp))
        have HIL2 : Hid (qi < wz.heap.size) := Lib.hid (Nat.lt_of_lt_of_le HIL.out HC7.out.size)
        clear H0 H1 HBC HIC HPC KRk HSX2 HC7 HIL XR7 HCW7
        go_upto_if 96 with (fail)
        go_cut [11] (fun v w' => ∃ (nl2 nc2 : Nat) (no2 : Option Addr), v = .slice no2 nl2 nc2 ∧ Hid (nl2 = (badV r (PS (k + 1))).length) ∧ Hid (BSt w4 w' q2 ln (PS (k + 1)) (PS k).flatten (badV r (PS (k + 1))) (.slice oo ol oc) (.slice no2 nl2 nc2)) ∧ Hid (w'.cell? ⟨qi, 0, none⟩ = some (.int .i64 (k : Int))) ∧ Hid (w'.cell? ⟨q2, k, none⟩ = some (.slice po xn pc)) ∧ Hid (Src w' po (bvs X)))
        case first =>
          cases RB with
          | true =>
            go_wp2_with fail
            all_goals go_meet
            case rel => exact ⟨_, _, _, rfl, by rw [HBN.out]; simpa using HNL, by rw [HBN.out]; simpa using HBC2, HIC2, HPC2, HSX3⟩
          | false =>
            obtain ⟨i0, hi0, hz0, hz1, hz2⟩ := info_parts infoIntU
            have CB := Chg.alloc [] wz (.cells #[.int .i64 (k : Int)] 3)
            have HBD := Lib.hid (HBC2.out.keep CB)
            have hown : (wz.alloc (.cells #[.int .i64 (k : Int)] 3)).ownsRow 0 3 1 (.slice no nl nc) nl (nvs (badV r (PS k))) := by
              have := HBD.out.bad
              rw [← HNL.out] at this
              exact this
            have hsrc := src_row wz #[.int .i64 (k : Int)] 3 (0, 0)
            have hic := HIC2.out
            have hab := HNB.out
            have HAB : Hid (nl + 1 ≤ maxLen ∧ (nl + 1) * 8 ≤ 140737488355328) := Lib.hid (by unfold maxLen; omega)
            clear hab
            go_wp2_with (at_builtin; go_loud (refine wpList_append_y (.tmp 97) (.tmp 99) 63 rfl rfl 3 i0 _ 1 8 Tryd.underlying63 hi0 hz0 hz1 hz2 rfl (by decide) (.slice no nl nc) nl (nvs (badV r (PS k))) hown (some ⟨wz.heap.size, 0, none⟩) 1 1 [.int .i64 (k : Int)] rfl hsrc (fun h => by cases h) (by simp [Value.oneCell']) HAB.out.1 HAB.out.2 rfl rfl ?_))
            intro ao2 c3 wg hown5 hgr hblk
            have CG := Chg.grown hgr (S := (Value.slice no nl nc).ownBlock.toList) (fun b hb => .inl (by simp [hb]))
            have hin : ∀ j ∈ (Value.slice no nl nc).ownBlock.toList, j ∈ forb q2 (.slice oo ol oc) (.slice no nl nc) := fun j hj => List.mem_cons_of_mem _ (List.mem_append_right _ hj)
            have HNL2 : Hid (nl + 1 = (badV r (PS (k + 1))).length) := Lib.hid (by rw [HBN.out, List.length_append, ← HNL.out]; rfl)
            have HB9 : Hid (BSt w4 wg q2 ln (PS (k + 1)) (PS k).flatten (badV r (PS (k + 1))) (.slice oo ol oc) (.slice ao2 (nl + 1) c3)) := Lib.hid (by
              have := HBD.out.bad_to (b := (k : Int)) (m := nl + 1) (c := c3) (ao := ao2) (by rw [List.length_append, ← HNL.out]; rfl) hown5 hgr (by rw [show (wz.alloc (.cells #[.int .i64 (k : Int)] 3)).heap.size = wz.heap.size + 1 by simp]; exact hblk)
              rw [HBN.out]
              exact this)
            have HIC9 := Lib.hid (CG.cell_some (CB.cell_some HIC2.out (by simp)) (fun hm => Nat.lt_irrefl _ (HFQ.out _ (hin _ hm))))
            have HPC9 := Lib.hid (CG.cell_some (CB.cell_some HPC2.out (by simp)) (fun hm => HBD.out.own_ne.2 (by simpa using hm)))
            have HSX9 := Lib.hid ((HSX3.out.chg CB (by simp)).chgN CG (fun hp a ha hm => HPB.out (by rwa [bvs_length] at hp) a ha (hin _ hm)))
            clear hown5 hgr hblk hown hsrc CB CG HAB hic hi0 hz0 hz1 hz2 hin
            go_wp2_with fail
            all_goals go_meet
            case rel => exact ⟨_, _, _, rfl, HNL2, HB9, HIC9, HPC9, HSX9⟩
        case rest =>
        obtain ⟨nl2, nc2, no2, rfl, HNL2, HBR, HICR, HPCR, HSXR⟩ := hcut
        obtain ⟨i0, hi0, hz0, hz1, hz2⟩ := info_parts infoByteU
        have hown : wc.ownsRow 0 5 1 (.slice oo ol oc) ol (bvs (PS k).flatten) := by
          have := HBR.out.out
          rw [← HOL.out] at this
          exact this
        have hic := HICR.out
        have hpc := HPCR.out
        have hab := HXB.out
        have HAB : Hid (ol + xn ≤ maxLen ∧ (ol + xn) * 1 ≤ 140737488355328) := Lib.hid (by unfold maxLen; omega)
        clear hab
        go_wp2_with (at_builtin; go_loud (refine wpList_append_y (.tmp 101) (.tmp 105) 25 rfl rfl 5 i0 _ 1 1 Tryd.underlying25 hi0 hz0 hz1 hz2 rfl (by decide) (.slice oo ol oc) ol (bvs (PS k).flatten) hown po xn pc (bvs X) (by rw [bvs_length, HXN.out, Nat.mul_one]) HSXR.out HPN.out (bvs_one X) HAB.out.1 HAB.out.2 rfl rfl ?_))
        intro ao2 c3 wg hown5 hgr hblk
        have HOL2 : Hid (ol + xn = (PS (k + 1)).flatten.length) := Lib.hid (by rw [HXF.out, List.length_append, ← HOL.out, HXN.out])
        have HB9 : Hid (BSt w4 wg q2 ln (PS (k + 1)) (PS (k + 1)).flatten (badV r (PS (k + 1))) (.slice ao2 (ol + xn) c3) (.slice no2 nl2 nc2)) := Lib.hid (by
          have := HBR.out.out_to (x := X) (m := ol + xn) (c := c3) (ao := ao2) (by rw [List.length_append, ← HOL.out, HXN.out]) hown5 hgr hblk
          rw [HXF.out]
          exact this)
        clear hown5 hgr hblk hown HAB hic hpc hi0 hz0 hz1 hz2
        go_wp2_with fail
        go_roundw
        case rel => exact ⟨k + 1, ol + xn, nl2, c3, nc2, ao2, no2, rfl, rfl, by go_num, hlt, HOL2, HNL2, HB9⟩
        case measure => simp [intOf] <;> omega
      · have e1 : ¬ (k : Int) < ln := fun h => hlt (Int.ofNat_lt.1 h)
        have hkn : k = ln := by omega
        have HOF : Hid (ol = (PS ln).flatten.length) := Lib.hid (by rw [← hkn]; exact HOL.out)
        have HNF : Hid (nl = (badV r (PS ln)).length) := Lib.hid (by rw [← hkn]; exact HNL.out)
        have HBF : Hid (BSt w4 wr q2 ln (PS ln) (PS ln).flatten (badV r (PS ln)) (.slice oo ol oc) (.slice no nl nc)) := Lib.hid (by
          have := HB.out
          rw [hkn] at this
          exact this)
        have HCF : Hid (Chg [] w wr ∧ ∀ j, w4.heap.size ≤ j → w.heap.size ≤ j) := Lib.hid ⟨(HC0.out.trans HC4.out (by simp)).trans HB.out.C (fun j hj => .inr (by
          have := HQ.out
          have := HQ2.out
          rw [List.mem_singleton.1 hj]; omega)), fun j hj => Nat.le_trans (HC0.out.trans HC4.out (by simp)).size hj⟩
        clear HOL HNL HB hkn
        by_cases hnl : nl = 0
        · have HE : Hid (badV r (PS ln) = []) := Lib.hid (List.eq_nil_of_length_eq_zero (by rw [← HNF.out]; exact hnl))
          subst hnl
          go_wp2_with fail
          go_ret3
          rw [HBO.out HMB.out HE.out]
          refine ⟨HCF.out.1, oo, oc, none, 0, by rw [← HOF.out]; rfl, ?_, ?_, World.ownsRow_nil _ _ _ _, (fun k hk => by cases hk)⟩
          · have := HBF.out.out
            rw [← HOF.out] at this ⊢
            exact this
          · exact fun k hk => HCF.out.2 _ (HBF.out.outN k (by rw [HOF.out]; exact hk))
        · have HE : Hid (badV r (PS ln) ≠ []) := Lib.hid (fun h => hnl (by rw [HNF.out, h]; rfl))
          have e5 : (0 : Int) < (nl : Int) := by omega
          clear hnl
          go_wp2_with fail
          go_ret3
          rw [HBB.out HMB.out HE.out]
          refine ⟨HCF.out.1, none, 0, no, nc, by rw [← HNF.out]; rfl, World.ownsRow_nil _ _ _ _, (fun k hk => by cases hk), ?_, ?_⟩
          · have := HBF.out.bad
            rw [← HNF.out] at this ⊢
            exact this
          · exact fun k hk => HCF.out.2 _ (HBF.out.badN k (by rw [HNF.out]; exact hk))
end Go.Proofs.YtfdhpjflkimihaaDoor
/- The law's wanted, times, given, from, walked. No conditions beyond those that each statement types. -/
namespace Go.Proofs.YtfdhpjflkimihaaDoor
open Go.RowKit

theorem ownsRow_src_any {w : World} {B : Nat} {e : TypeId} {size : Nat} {ao : Option Addr} {n c : Nat} {xs : List Value} (h : w.ownsRow B e size (.slice ao n c) n xs) : Src w ao xs := by
  refine ⟨fun ha => ?_, fun a ha j u hu => ?_⟩
  · subst ha
    rcases h.2 with ⟨hv, hn⟩ | ⟨g, cap, cur, hv, _⟩
    · exact List.eq_nil_of_length_eq_zero (by rw [h.1, hn, Nat.zero_mul])
    · simp at hv
  · subst ha
    rcases h.2 with ⟨hv, hn⟩ | ⟨g, cap, cur, hv, _⟩
    · simp at hv
    · simp only [Value.slice.injEq, Option.some.injEq] at hv
      obtain ⟨rfl, _, _⟩ := hv
      exact h.cells (g := g) rfl j u hu
def recC (n B : Int) (v : Value) : Array Value := #[.string ⟨#[119]⟩, .int .i64 1, .bool false, .int .i64 n, .int .i64 0, .int .i64 0, .int .u32 0, .int .u32 0, .int .u32 0, .int .u32 0, .int .u32 0, .int .u32 0, .int .u32 0, .int .u32 0, .int .u32 0, .int .u32 0, .int .u32 0, .int .u32 0, .int .u32 0, .int .u32 0, .int .u32 0, .int .u32 0, .int .i64 B, v, .string ⟨#[]⟩, .int .i64 0, .int .i64 0]
def recZ : Array Value := #[.string ⟨#[]⟩, .int .i64 0, .bool false, .int .i64 0, .int .i64 0, .int .i64 0, .int .u32 0, .int .u32 0, .int .u32 0, .int .u32 0, .int .u32 0, .int .u32 0, .int .u32 0, .int .u32 0, .int .u32 0, .int .u32 0, .int .u32 0, .int .u32 0, .int .u32 0, .int .u32 0, .int .u32 0, .int .u32 0, .int .i64 0, .slice none 0 0, .string ⟨#[]⟩, .int .i64 0, .int .i64 0]
theorem build_rec (n B : Int) (ao : Option Addr) (m c : Nat) (w : World) : (Instr.build 77 #[(0, .string ⟨#[119]⟩), (1, .int .i64 1), (3, .int .i64 n), (7, .int .i64 B), (8, .slice ao m c)]).run Tryd.prog w = .ok (.agg (recC n B (.slice ao m c))) w := by kernel_rfl
theorem zero_rec (w : World) : (zeroValue 77).run Tryd.prog w = .ok (.agg recZ) w := by kernel_rfl
theorem recC_one (n B : Int) (ao : Option Addr) (m c : Nat) : (recC n B (.slice ao m c)).all (·.oneCell') = true := by simp [recC, Value.oneCell']
/-- The record of a file. -/
def recV (d : List UInt8) : RecV := ⟨false, 1, d.length, bszN d.length, listL d⟩
theorem recV_good {d : List UInt8} (h : d.length ≤ 4096) : (recV d).Good d.length := ⟨rfl, rfl, rfl, h, rfl, listL_length d⟩
def Wanted (w : World) (d : List UInt8) (e : Ending) (w' : World) : Prop :=
  Chg [] w w' ∧ ∃ RC ao c, e = .returned (.agg RC) ∧ RecIs w' RC (recV d) ao c ∧ (∀ a, ao = some a → w.heap.size ≤ a.block) ∧ RC.all (·.oneCell') = true
theorem setRow_one {w : World} {g : Nat} {t : TypeId} {Z V : Array Value} (h : w.heap[g]? = some (.cells Z t (0, 0))) (hi : (Tryd.prog.info? t).map (·.size) = some V.size) (hz : Z.size = V.size) (hv : V.all (·.oneCell') = true) :
    (Instr.storeAt t (.pointer (some ⟨g, 0, none⟩)) (.agg V)).run Tryd.prog w = .ok () (w.setRow g V) ∧ (w.setRow g V).heap[g]? = some (.cells V t (0, 0)) ∧ ∀ w0, Chg [] w0 w → w0.heap.size ≤ g → Chg [] w0 (w.setRow g V) :=
  ⟨run_storeAt_row w g _ _ Z V h hi hz hv, setRow_heap w g _ _ _ _ h, fun w0 C hg => C.trans (Chg.setRow (S := [g]) w g V (.inl (by simp))) (fun j hj => by simp at hj; subst hj; exact .inr hg)⟩
set_option maxRecDepth 100000 in
set_option maxHeartbeats 4000000 in
theorem law_wanted (d : List UInt8) (so : Option Addr) (sc : Nat) (w : World) (hL : Laid w) (hs : Src w so (bvs d)) (hd : d.length ≤ 4096) (hc : d.length ≤ sc) :
    Calls Tryd.prog 42 #[.slice so d.length sc] w (Wanted w d) := by
  obtain ⟨Z, hZ⟩ : ∃ Z, recZ = Z := ⟨_, rfl⟩
  have hzr := zero_rec w
  have hzs : Z.size = 27 := by rw [← hZ]; rfl
  rw [hZ] at hzr
  have hx0 := heap_alloc_new w (.cells Z 77)
  have C0 := Chg.alloc [] w (.cells Z 77)
  have hlo : listO d = some (listL d) := by unfold listO; rw [if_neg (by omega)]
  have KL := Lib.hid (fun w' (C : Chg [] w w') => by
    have := blk_List d so sc w' (hL.chg C (by simp)) (hs.chg C (by simp)) hc
    rewrite [hlo] at this
    exact this)
  have KS := Lib.hid (fun w' => by
    have := blk_size (d.length : Int) w'
    rewrite [show bszZ (d.length : Int) = bszN d.length from by unfold bszZ; rw [if_neg (by omega)]; rfl] at this
    exact this)
  have HLL := Lib.hid (listL_length d)
  have HRV : Hid (recV d = ⟨false, 1, d.length, bszN d.length, listL d⟩) := Lib.hid rfl
  obtain ⟨n, hn⟩ : ∃ n, d.length = n := ⟨_, rfl⟩
  obtain ⟨B, hB⟩ : ∃ B, bszN d.length = B := ⟨_, rfl⟩
  rw [hB] at KS HRV
  rw [hn] at KL KS HRV ⊢
  generalize listL d = LL at *
  clear hlo hs hc hn hB hZ
  go_enter Tryd.func42, Tryd.ntmps42
  go_wp2_with (refine wpList_alloc_x rfl 77 rfl (.agg Z) hzr ?_)
  obtain ⟨q, hq⟩ : ∃ q, w.heap.size = q := ⟨_, rfl⟩
  rw [hq] at hx0 ⊢
  have HQ : Hid (w.heap.size ≤ q) := Lib.hid (Nat.le_of_eq hq)
  generalize w.alloc (.cells Z 77) = w1 at *
  have HC0 := Lib.hid C0
  have HX0 := Lib.hid hx0
  clear hq hx0 C0
  refine (KL.out w1 HC0.out).mono ?_
  rintro e w2 ⟨C2, al, cl, rfl, hown, hnew⟩
  have HC2 := Lib.hid C2
  have HOW := Lib.hid hown
  have HNW := Lib.hid hnew
  have HX2 := Lib.hid ((C2.block q (lt_of_block HX0.out) (by simp)).trans HX0.out)
  have hbl := build_rec (n : Int) (B : Int) al LL.length cl w2
  obtain ⟨hst, hh, hcg⟩ := setRow_one (V := recC n B (.slice al LL.length cl)) HX2.out infoRec hzs (recC_one _ _ _ _ _)
  have HH := Lib.hid hh
  have HCG := Lib.hid (hcg w (HC0.out.trans C2 (by simp)) HQ.out)
  have hks := KS.out w2
  clear C2 hown hnew hh hcg
  simp only [recC] at hst
  clear hbl
  go_wp2_with fail
  refine hks.mono ?_
  rintro e w3 ⟨rfl, rfl⟩
  go_wp2_with (refine wpList_store_y 77 (.tmp 2) (.tmp 16) rfl (by first | rfl | go_simp) (.pointer (some ⟨q, 0, none⟩)) (.agg _) _ hst rfl rfl ?_)
  exact bodyPost_ret (v := .agg (recC (n : Int) (B : Int) (.slice al LL.length cl))) (results_cell_row rfl _ _ _ _ (recC (n : Int) (B : Int) (.slice al LL.length cl)) _ _ rfl HH.out Tryd.underlying77 rfl infoRec) rfl ⟨HCG.out, _, al, cl, rfl, by
    have hc := Chg.setRow (S := [q]) w2 q (recC (n : Int) (B : Int) (.slice al LL.length cl)) (.inl (by simp))
    obtain ⟨_, _, hv, hcl, h0⟩ := ownsRow_slice HOW.out
    cases hv
    have hrv := HRV.out
    have hqn : ∀ a, al = some a → a.block ∉ [q] := fun a ha hm => by
      have h1 := HNW.out a.block (by rw [ha]; rfl)
      have h2 := lt_of_block HX0.out
      rw [List.mem_singleton] at hm
      omega
    refine ⟨rfl, by rw [hrv]; rfl, by rw [hrv]; rfl, by rw [hrv]; rfl, by rw [hrv]; rfl, by rw [hrv]; rfl, ?_, by rw [hrv]; exact hcl, fun h => (h0 h).2⟩
    rw [hrv]
    exact (ownsRow_src_any HOW.out).chg hc hqn, fun a ha => by
    have h1 := HNW.out a.block (by rw [ha]; rfl)
    have h2 := HC0.out.size
    omega, recC_one _ _ _ _ _⟩
/-- A text of one byte, many times. -/
theorem law_times (c : UInt8) (n : Nat) (hn : n ≤ 1000) (w : World) : Calls Tryd.prog 53 #[.string ⟨#[c]⟩, .int .i64 n] w fun e w' => e = .returned (.string (many c n)) ∧ Chg [] w w' := by
  have K := Lib.hid (fun w => repeat_one c n hn w)
  generalize many c n = X at *
  go_enter Tryd.func53, Tryd.ntmps53
  go_wp2_with fail
  refine (K.out _).mono ?_
  rintro e w1 ⟨rfl, C1⟩
  go_wp2_with fail
  go_ret
  exact ⟨rfl, C1⟩
def m_given : List UInt8 := List.replicate 32 120 ++ List.replicate 8 121
/-- Bytes in new memory. -/
def NewB (w : World) (xs : List UInt8) (e : Ending) (w' : World) : Prop := ∃ g c, e = .returned (.slice (some ⟨g, 0, none⟩) xs.length c) ∧ xs.length ≤ c ∧ Src w' (some ⟨g, 0, none⟩) (bvs xs) ∧ w.heap.size ≤ g ∧ g < w'.heap.size ∧ Chg [] w w'
set_option maxRecDepth 100000 in
theorem law_given (w : World) : Calls Tryd.prog 52 #[] w (NewB w m_given) := by
  have K := Lib.hid (fun (c : UInt8) (n : Nat) (hn : n ≤ 1000) w => law_times c n hn w)
  go_enter Tryd.func52, Tryd.ntmps52
  go_wp2_with fail
  refine (K.out 120 32 (by decide) _).mono ?_
  rintro e w1 ⟨rfl, C1⟩
  go_wp2_with fail
  refine (K.out 121 8 (by decide) _).mono ?_
  rintro e w2 ⟨rfl, C2⟩
  have HC2 := Lib.hid (C1.trans C2 (by simp))
  clear C1 C2
  go_wp2_with (refine wpList_bytes_of_str _ rfl 9 25 _ rfl 5 Tryd.underlying9 Tryd.underlying25 Tryd.underlying5 (many 120 32 ++ many 121 8) rfl 40 rfl m_given rfl ?_)
  intro g c w3 hc M
  have HM := Lib.hid M
  clear M
  go_wp2_with fail
  go_ret
  have h1 := HC2.out.size
  have h2 := HM.out.new
  exact ⟨g, c, rfl, hc, HM.out.src, by omega, by omega, HC2.out.trans HM.out.chg (by simp)⟩
end Go.Proofs.YtfdhpjflkimihaaDoor
/- The law's from, walked. No conditions beyond those that each statement types. -/
namespace Go.Proofs.YtfdhpjflkimihaaDoor
open Go.RowKit

def fromB (s : StepV) : UInt8 := UInt8.ofNat (48 + s.from_.toNat)
def fromL (l : List StepV) : List UInt8 := l.map fromB
theorem fromL_next {l : List StepV} {k : Nat} {s : StepV} (h : l[k]? = some s) : fromL (l.take (k + 1)) = fromL (l.take k) ++ [fromB s] := by
  unfold fromL
  rw [take_nextE h, List.map_append]
  rfl
theorem fromB_int {f : Int} (h1 : 0 ≤ f) (h2 : f ≤ 9) : wrap64 (48 + f) = 48 + f ∧ IntKind.i64.wrap (48 + f) = 48 + f ∧ IntKind.u8.wrap (48 + f) = 48 + f ∧ (48 + f : Int) = ((UInt8.ofNat (48 + f.toNat)).toNat : Int) := by
  obtain ⟨n, rfl⟩ := Int.eq_ofNat_of_zero_le h1
  have h3 : n ≤ 9 := by omega
  have h4 : n = 0 ∨ n = 1 ∨ n = 2 ∨ n = 3 ∨ n = 4 ∨ n = 5 ∨ n = 6 ∨ n = 7 ∨ n = 8 ∨ n = 9 := by omega
  rcases h4 with rfl | rfl | rfl | rfl | rfl | rfl | rfl | rfl | rfl | rfl <;> decide +kernel
set_option maxRecDepth 100000 in
set_option maxHeartbeats 4000000 in
theorem law_from (l : List StepV) (so : Option Addr) (sc : Nat) (w : World) (hs : Src w so (svs l)) (hlc : l.length ≤ sc) (hl : l.length ≤ 1000) (hf : ∀ (k : Nat) (s : StepV), l[k]? = some s → 0 ≤ s.from_ ∧ s.from_ ≤ 9) :
    Calls Tryd.prog 55 #[.slice so l.length sc] w fun e w' => e = .returned (.string ⟨(fromL l).toArray⟩) ∧ Chg [] w w' := by
  have HST := Lib.hid (fun (k : Nat) (s : StepV) (h : l[k]? = some s) (wr : World) (C : Chg [] w wr) => show ∃ a, so = some a ∧ wr.cell? ⟨(a.add (k * 5)).block, (a.add (k * 5)).off + 1, none⟩ = some (.int .i64 s.from_) from by
    have h1 := (List.getElem?_eq_some_iff.1 h).1
    obtain ⟨a, rfl, _⟩ := hs.lt (by
      rw [show (svs l).length = l.length * 5 from flat_length (enc := fun s : StepV => s.cells.toList) (size := 5) (fun _ => rfl) l]
      omega)
    have hc := src_flat (w := wr) (a := a) (cells := fun s : StepV => s.cells.toList) (size := 5) (fun _ => rfl) ((hs.chg C (by simp)).cell a rfl) h 1 (.int .i64 s.from_) rfl
    exact ⟨a, rfl, hc⟩)
  have HGE := Lib.hid (fun k (hk : k < l.length) => show ∃ s, l[k]? = some s from ⟨_, List.getElem?_eq_getElem hk⟩)
  have HTA : Hid (l.take l.length = l) := Lib.hid List.take_length
  have HF := Lib.hid hf
  obtain ⟨n, hn⟩ : ∃ n, l.length = n := ⟨_, rfl⟩
  rw [hn] at hl hlc HGE HTA ⊢
  clear hs hn hf
  go_enter Tryd.func55, Tryd.ntmps55
  go_wp2_with fail
  go_loopw [3, 4] (fun v3 v4 wr => ∃ (k : Nat) (S : ByteArray), v3 = .string S ∧ v4 = .int .i64 (k : Int) ∧ k ≤ n ∧ S.size = k ∧ Hid (S.data.toList = fromL (l.take k)) ∧ Hid (Chg [] w wr)) (fun _ v _ => n - (intOf v).toNat)
  case atStart => exact ⟨0, ⟨#[]⟩, rfl, rfl, Nat.zero_le _, rfl, Lib.hid rfl, Lib.hid (Chg.refl _ _)⟩
  case round =>
    obtain ⟨k, S, rfl, rfl, hk, hS, HS, HC⟩ := hrel
    by_cases hlt : k < n
    · have e1 : (k : Int) < n := Int.ofNat_lt.2 hlt
      have e0 : (0 : Int) ≤ k := Int.natCast_nonneg _
      have hkc : k < sc := by omega
      obtain ⟨s, hsk⟩ := HGE.out k hlt
      obtain ⟨a, rfl, hc⟩ := HST.out k s hsk wr HC.out
      have HNX := Lib.hid (fromL_next hsk)
      obtain ⟨f1, f2⟩ := HF.out k s hsk
      obtain ⟨f3, f4, f5, f6⟩ := fromB_int f1 f2
      have HFB : Hid (fromB s = UInt8.ofNat (48 + s.from_.toNat)) := Lib.hid rfl
      generalize s.from_ = f at *
      obtain ⟨b, hb⟩ : ∃ b : UInt8, UInt8.ofNat (48 + f.toNat) = b := ⟨_, rfl⟩
      rw [hb] at f6 HFB
      obtain ⟨z, hz⟩ : ∃ z : Int, 48 + f = z := ⟨_, rfl⟩
      rw [hz] at f3 f4 f5 f6
      have HZ := Lib.hid hz
      subst f6
      have CA := Chg.alloc [] wr (.cells #[.int .u8 (b.toNat : Int)] 5)
      have hsrc := src_row wr #[.int .u8 (b.toNat : Int)] 5 (0, 0)
      clear hsk f1 f2 hb
      go_wp2_with (refine wpList_str_of_bytes _ rfl 25 9 (.tmp 19) rfl 5 Tryd.underlying25 Tryd.underlying5 Tryd.underlying9 (some ⟨wr.heap.size, 0, none⟩) 1 1 rfl ⟨#[b]⟩ rfl hsrc ?_)
      go_roundw
      case rel => exact ⟨k + 1, S ++ ⟨#[b]⟩, rfl, by go_num, hlt, by rw [ByteArray.size_append, hS]; rfl, Lib.hid (by rw [HNX.out, HFB.out, ByteArray.data_append, Array.toList_append, HS.out]), Lib.hid (HC.out.trans CA (by simp))⟩
      case measure => simp [intOf] <;> omega
    · have e1 : ¬ (k : Int) < n := fun h => hlt (Int.ofNat_lt.1 h)
      have hkn : k = n := by omega
      have HR : Hid (S = ⟨(fromL l).toArray⟩) := Lib.hid (by
        have h := HS.out
        rw [hkn, HTA.out] at h
        rw [← h])
      clear hkn
      go_wp2_with fail
      go_ret
      exact ⟨by rw [HR.out]; rfl, HC.out⟩
end Go.Proofs.YtfdhpjflkimihaaDoor
/- The chapter's example of the copier, in plain words. No conditions beyond those that each statement types. -/
namespace Go.Proofs.YtfdhpjflkimihaaDoor
open Go.RowKit

theorem given_parts : partsL m_given = [m_x16, m_x16, m_y8] := by decide
theorem given_L : (recV m_given).L = [digest m_x16, digest m_x16, digest m_y8] := by
  show (partsL m_given).map digest = _
  rw [given_parts]
  rfl
theorem given_n : m_given.length = 40 := rfl
theorem given_good : (recV m_given).Good 40 := recV_good (d := m_given) (by decide)
theorem given_cnt : cntN 40 = 3 := by decide
theorem given_len0 : (recV m_given).len 0 = 16 := given_good.lenP (i := 0) (by decide)
theorem given_len1 : (recV m_given).len 1 = 16 := given_good.lenP (i := 1) (by decide)
theorem given_len2 : (recV m_given).len 2 = 8 := given_good.lenP (i := 2) (by decide)
theorem given_dig0 : (recV m_given).dig 0 = digest m_x16 := by unfold RecV.dig; rw [given_L]; rfl
theorem given_dig1 : (recV m_given).dig 1 = digest m_x16 := by unfold RecV.dig; rw [given_L]; rfl
theorem given_dig2 : (recV m_given).dig 2 = digest m_y8 := by unfold RecV.dig; rw [given_L]; rfl
theorem rightB_eq (r : RecV) (i : Nat) (xs : List UInt8) : rightB r i xs = (decide ((xs.length : Int) = r.len i) && sameHash (digest xs) (r.dig i)) := rfl
theorem given_r0 (xs : List UInt8) : rightB (recV m_given) 0 xs = (decide ((xs.length : Int) = 16) && sameHash (digest xs) (digest m_x16)) := by rw [rightB_eq, given_dig0]; show (decide (_ = (recV m_given).len 0) && _) = _; rw [given_len0]
theorem given_r1 (xs : List UInt8) : rightB (recV m_given) 1 xs = (decide ((xs.length : Int) = 16) && sameHash (digest xs) (digest m_x16)) := by rw [rightB_eq, given_dig1]; show (decide (_ = (recV m_given).len 1) && _) = _; rw [given_len1]
theorem given_r2 (xs : List UInt8) : rightB (recV m_given) 2 xs = (decide ((xs.length : Int) = 8) && sameHash (digest xs) (digest m_y8)) := by rw [rightB_eq, given_dig2]; show (decide (_ = (recV m_given).len 2) && _) = _; rw [given_len2]
theorem given_s10 : sameBlk (recV m_given) 1 0 = true := by
  unfold sameBlk
  rw [given_dig0, given_dig1, sameHash_self]
  show (true && decide ((recV m_given).len 0 = (recV m_given).len 1)) = true
  rw [given_len0, given_len1]
  rfl
theorem given_s2 (k : Nat) (hk : k < 2) : sameBlk (recV m_given) 2 k = false := by
  unfold sameBlk
  have h : (recV m_given).len k = 16 := by
    have : k = 0 ∨ k = 1 := by omega
    rcases this with rfl | rfl
    · exact given_len0
    · exact given_len1
  rw [h]
  show (_ && decide ((16 : Int) = (recV m_given).len 2)) = false
  rw [given_len2]
  exact Bool.and_false _
/-- The steps of the plan where nothing is there. -/
def planG : List StepV := [⟨0, 4, ⟨#[]⟩, 0, 0⟩, ⟨1, 3, ⟨#[]⟩, 0, 0⟩, ⟨2, 4, ⟨#[]⟩, 0, 0⟩]
theorem given_plan : planL (recV m_given) 40 [] (fun _ => none) 3 = planG := by
  have p0 : stepPl (recV m_given) 40 [] (fun _ => none) 0 = ⟨0, 4, ⟨#[]⟩, 0, 0⟩ := by
    unfold stepPl
    rw [if_neg (by rw [show plT 40 [] 0 = [] from by decide, given_r0]; decide)]
    rfl
  have p1 : stepPl (recV m_given) 40 [] (fun _ => none) 1 = ⟨1, 3, ⟨#[]⟩, 0, 0⟩ := by
    unfold stepPl
    rw [if_neg (by rw [show plT 40 [] 1 = [] from by decide, given_r1]; decide), find_first (k := 0) (by decide) given_s10 (fun t ht => by omega)]
    rfl
  have p2 : stepPl (recV m_given) 40 [] (fun _ => none) 2 = ⟨2, 4, ⟨#[]⟩, 0, 0⟩ := by
    unfold stepPl
    rw [if_neg (by rw [show plT 40 [] 2 = [] from by decide, given_r2]; decide), find_no (fun t ht => given_s2 t ht)]
    rfl
  unfold planL planG
  rw [show List.range 3 = [0, 1, 2] from rfl, List.map_cons, List.map_cons, List.map_cons, List.map_nil, p0, p1, p2]
theorem given_may : mayB planG 3 = true := by decide
theorem given_from : fromL planG = [52, 51, 52] := by decide
def gotG (a1 : Option Addr) (c1 : Nat) (a2 : Option Addr) (c2 : Nat) : List GotV := [⟨0, a1, m_x16, c1⟩, ⟨2, a2, m_y8, c2⟩]
theorem given_build (a1 : Option Addr) (c1 : Nat) (a2 : Option Addr) (c2 : Nat) : buildV (recV m_given) 40 [] (fun _ => none) (gotG a1 c1 a2 c2) planG = ⟨m_given, [], 0⟩ := by
  have hp : partsV (recV m_given) 40 [] (fun _ => none) (gotG a1 c1 a2 c2) planG 3 = [m_x16, m_x16, m_y8] := rfl
  have hb : badV (recV m_given) [m_x16, m_x16, m_y8] = [] := by
    unfold badV
    rw [show List.range [m_x16, m_x16, m_y8].length = [0, 1, 2] from rfl]
    have e0 : rightB (recV m_given) 0 m_x16 = true := by rw [given_r0, sameHash_self]; rfl
    have e1 : rightB (recV m_given) 1 m_x16 = true := by rw [given_r1, sameHash_self]; rfl
    have e2 : rightB (recV m_given) 2 m_y8 = true := by rw [given_r2, sameHash_self]; rfl
    simp [e0, e1, e2]
  unfold buildV
  rw [if_neg (by rw [given_good.want]; simp), given_cnt, given_may, if_neg (by decide), show planG.length = 3 from rfl, hp, if_neg (by rw [hb]; simp)]
  congr 1
end Go.Proofs.YtfdhpjflkimihaaDoor
/- The law's awake, walked. No conditions beyond those that each statement types. -/
namespace Go.Proofs.YtfdhpjflkimihaaDoor
open Go.RowKit

theorem fill_gots (a b : Int) (a1 : Option Addr) (n1 k1 : Nat) (a2 : Option Addr) (n2 k2 : Nat) : Instr.fill (fun i => some (i * 2, 2)) ((Array.range (2 * 2)).map fun j => (Value.agg #[.int .i64 0, .slice none 0 0]).cells[j % (Value.agg #[.int .i64 0, .slice none 0 0]).cells.size]!) [(0, .agg #[.int .i64 a, .slice a1 n1 k1]), (1, .agg #[.int .i64 b, .slice a2 n2 k2])] = some #[.int .i64 a, .slice a1 n1 k1, .int .i64 b, .slice a2 n2 k2] := by kernel_rfl
theorem infoGotU : (Tryd.prog.info? 104).map (fun i => (i.zero, i.size, i.bytes)) = some (some (.agg #[.int .i64 0, .slice none 0 0]), 2, 32) := by kernel_rfl
theorem run_two_gots (a b : Int) (a1 : Option Addr) (n1 k1 : Nat) (a2 : Option Addr) (n2 k2 : Nat) (w : World) : (Instr.buildSlice 87 2 #[(0, .agg #[.int .i64 a, .slice a1 n1 k1]), (1, .agg #[.int .i64 b, .slice a2 n2 k2])]).run Tryd.prog w = .ok (.slice (some ⟨w.heap.size, 0, none⟩) 2 2) (w.alloc (.cells #[.int .i64 a, .slice a1 n1 k1, .int .i64 b, .slice a2 n2 k2] 104)) := by
  kernel_rfl
theorem gots_two {w : World} {g1 c1 g2 c2 : Nat} (h1 : PV w [] (.slice (some ⟨g1, 0, none⟩) 16 c1) m_x16) (h2 : PV w [] (.slice (some ⟨g2, 0, none⟩) 8 c2) m_y8) :
    GotsAt (w.alloc (.cells #[.int .i64 0, .slice (some ⟨g1, 0, none⟩) 16 c1, .int .i64 2, .slice (some ⟨g2, 0, none⟩) 8 c2] 104)) (some ⟨w.heap.size, 0, none⟩) 2 (gotG (some ⟨g1, 0, none⟩) c1 (some ⟨g2, 0, none⟩) c2) := by
  have C := Chg.alloc [] w (.cells #[.int .i64 0, .slice (some ⟨g1, 0, none⟩) 16 c1, .int .i64 2, .slice (some ⟨g2, 0, none⟩) 8 c2] 104)
  refine ⟨src_row w #[.int .i64 0, .slice (some ⟨g1, 0, none⟩) 16 c1, .int .i64 2, .slice (some ⟨g2, 0, none⟩) 8 c2] _ (0, 0), Nat.le_refl _, (fun h => by cases h), ?_⟩
  intro k g hk
  match k, hk with
  | 0, hk => cases hk; exact h1.chg C (by simp)
  | 1, hk => cases hk; exact h2.chg C (by simp)
set_option maxRecDepth 100000 in
set_option maxHeartbeats 8000000 in
theorem law_awake21 (w : World) (hL : Laid w) : Calls Tryd.prog 41 #[] w (Holds w) := by
  have KG := Lib.hid (fun w => law_given w)
  have KT := Lib.hid (fun (c : UInt8) (n : Nat) (hn : n ≤ 1000) w => law_times c n hn w)
  have HL := Lib.hid hL
  clear hL
  go_enter Tryd.func41, Tryd.ntmps41
  go_wp2_with fail
  refine (KG.out _).mono ?_
  rintro e w1 ⟨g, c, rfl, hc, hs, hg, hg2, C1⟩
  have KW := Lib.hid (law_wanted m_given (some ⟨g, 0, none⟩) c w1 (HL.out.chg C1 (by simp)) hs (by decide) hc)
  have HC1 := Lib.hid C1
  clear C1 hc hs hg hg2
  go_wp2_with fail
  refine KW.out.mono ?_
  rintro e w2 ⟨C2, RC, ao, rc, rfl, HR, hao, hone⟩
  have hx := heap_alloc_new w2 (.cells recZ 77)
  have CA := Chg.alloc [] w2 (.cells recZ 77)
  have hsz : (w2.alloc (.cells recZ 77)).heap.size = w2.heap.size + 1 := by simp
  obtain ⟨Z, hZ⟩ : ∃ Z, recZ = Z := ⟨_, rfl⟩
  have hzr := zero_rec w2
  have hzs : Z.size = 27 := by rw [← hZ]; rfl
  rw [hZ] at hzr hx CA hsz
  obtain ⟨hst, hh, hcg⟩ := setRow_one (V := RC) hx (by rw [HR.size]; exact infoRec) (by rw [hzs, HR.size]) hone
  have C3 := hcg w2 CA (Nat.le_refl _)
  go_upto_region 2 with (first | (refine wpList_alloc_x rfl 77 rfl (.agg Z) hzr ?_) | (refine wpList_store_y 77 (.tmp 1) (.tmp 8) rfl (by first | rfl | go_simp) (.pointer (some ⟨w2.heap.size, 0, none⟩)) (.agg RC) _ hst rfl rfl ?_))
  obtain ⟨q, hq⟩ : ∃ q, w2.heap.size = q := ⟨_, rfl⟩
  rw [hq] at hh C3 ⊢
  generalize (w2.alloc (.cells Z 77)).setRow q RC = w3 at *
  have HC3 := Lib.hid ((HC1.out.trans C2 (by simp)).trans C3 (by simp))
  have HX3 := Lib.hid hh
  have HRI := Lib.hid (HR.chg0 C3)
  have HRS := Lib.hid HR.size
  have hldr := run_loadAt_rec w3 q RC _ hh HR.size
  have KP := Lib.hid (by
    have := cp_plan RC (recV m_given) ao rc 40 given_good none (fun _ => none) none 0 [] w3 (HL.out.chg HC3.out (by simp)) HRI.out (finds_none (noFinder_nil w3)) (fun _ => by simp [fX]) (Src.empty _ _) (by simp) (by simp) (fun _ => rfl)
    rewrite [given_cnt, given_plan] at this
    exact this)
  clear C2 hx CA hsz hzr hzs hst hh hcg C3 HR hao hone hq hZ KW
  go_wp2_with (refine wpList_load_y 77 (.tmp 1) rfl (by go_simp) (.pointer (some ⟨q, 0, none⟩)) (.agg RC) hldr rfl ?_)
  refine KP.out.mono ?_
  rintro e w4 ⟨C4, po, pc, rfl, hown, hnew⟩
  have HC4 := Lib.hid (HC3.out.trans C4 (by simp))
  have HX4 := Lib.hid ((C4.block q (lt_of_block HX3.out) (by simp)).trans HX3.out)
  have HPL := Lib.hid (ownsRow_src_any hown)
  obtain ⟨_, _, hv, hpc, _⟩ := ownsRow_slice hown
  cases hv
  have HPC := Lib.hid hpc
  have HRW := Lib.hid (fun w' (C : Chg [] w w') (C2 : Chg [] w4 w') => (HRI.out.chg0 C4).chg0 C2)
  have KB := Lib.hid (fun (a1 : Option Addr) (c1 : Nat) (a2 : Option Addr) (c2 qg : Nat) (w' : World) (C : Chg [] w w') (C2 : Chg [] w4 w') (hp : Src w' po (svs planG)) (hG : GotsAt w' (some ⟨qg, 0, none⟩) 2 (gotG a1 c1 a2 c2)) => by
    have := cp_build RC (recV m_given) ao rc 40 given_good planG po pc none (fun _ => none) none 0 [] (gotG a1 c1 a2 c2) (some ⟨qg, 0, none⟩) 2 w' (HL.out.chg C (by simp)) (HRW.out w' C C2) (finds_none (noFinder_nil w')) (fun _ => by simp [fX]) (Src.empty _ _) (by simp) (by simp) (fun _ => rfl) hp HPC.out (Nat.le_of_ble_eq_true rfl) hG (Nat.le_of_ble_eq_true rfl) (by
      intro k g hk
      match k, hk with
      | 0, hk => cases hk; exact Nat.le_of_ble_eq_true rfl
      | 1, hk => cases hk; exact Nat.le_of_ble_eq_true rfl)
    rewrite [given_build] at this
    exact this)
  have KF := Lib.hid (fun (w' : World) (_ : Chg [] w w') (hp : Src w' po (svs planG)) => by
    have := law_from planG po pc w' hp (by exact hpc) (Nat.le_of_ble_eq_true rfl) (by
      intro k s hk
      match k, hk with
      | 0, hk => cases hk; decide
      | 1, hk => cases hk; decide
      | 2, hk => cases hk; decide)
    rewrite [given_from] at this
    exact this)
  have KL := Lib.hid (fun (w' : World) (C : Chg [] w w') (C2 : Chg [] w4 w') => by
    have := cp_length RC (recV m_given) ao rc 2 w' (HRW.out w' C C2)
    rewrite [given_len2] at this
    exact this)
  clear hown hnew hpc HRI HX3 C4 hldr KP HC1 HC3
  go_upto_region 3 with (fail)
  refine wp_region_held_drew (S := fun w' => Chg [] w4 w') (by kernel_rfl) (Chg.drewN [] w4 1) (fun H0 => ?_)
  refine' tkH (i := 0) (v := .agg RC) rfl (Or.inl ⟨by rfl, ?hyu10⟩) H0 ?restu10
  case hyu10 =>
    intro w' hSw
    have s1 := hSw
    have hl := run_loadAt_rec w' q RC _ ((s1.block q (lt_of_block HX4.out) (by simp)).trans HX4.out) HRS.out
    simp [execOp, Act.eval, hl, Result.andThen]
  (try simp only [Act.put, List.getElem_toArray, List.getElem_cons_zero, List.setIfInBounds_toArray, List.set_cons_zero, List.set_cons_succ])
  refine' tkH (i := 1) (v := _) rfl (Or.inl ⟨by rfl, ?hyu21⟩) H0 ?restu21
  case hyu21 =>
    intro w' hSw
    have s1 := hSw
    go_simp
    try with_reducible rfl
  (try simp only [Act.put, List.getElem_toArray, List.getElem_cons_succ, List.getElem_cons_zero, List.setIfInBounds_toArray, List.set_cons_zero, List.set_cons_succ])
  refine wpAnyH_ready (rs := [2]) (by kernel_rfl) (by simp) (AllReadyH.cons rfl (fun K hK => ?_) AllReadyH.nil)
  go_simp
  refine (KT.out 120 16 (by decide) _).mono ?_
  rintro e y2 ⟨rfl, Cy2⟩
  go_simp
  refine hK.out _ _ (H0.trans Cy2 (by simp)) (fun HN1 => ?_)
  clear hK K
  refine wpAnyH_ready (rs := [3, 5]) (by kernel_rfl) (by simp) (AllReadyH.cons rfl (fun K hK => ?_) (AllReadyH.cons rfl (fun K hK => ?_) AllReadyH.nil))
  · obtain ⟨g3, c3, x3, hr3, hc3, M3⟩ := run_bytes_of_str (P := Tryd.prog) y2 9 25 5 (many 120 16) Tryd.underlying9 Tryd.underlying25 Tryd.underlying5
    rw [show (many 120 16).size = 16 from rfl] at hr3 hc3
    have HS3 := Lib.hid (show PV x3 [] (.slice (some ⟨g3, 0, none⟩) 16 c3) m_x16 from ⟨_, _, rfl, M3.src, hc3, (fun h => by cases h), fun _ a ha => by
      cases ha
      exact ⟨List.not_mem_nil, M3.new.2⟩⟩)
    have HM3 := Lib.hid M3.chg
    clear M3
    go_simp
    refine hK.out _ _ (HN1.trans HM3.out (by simp)) (fun HN2 => ?_)
    clear hK K hr3
    refine' tkH (i := 4) (v := _) rfl (Or.inl ⟨by rfl, ?hyu34⟩) HN2 ?restu34
    case hyu34 =>
      intro w' hSw
      have s1 := hSw
      go_simp
      try with_reducible rfl
    (try simp only [Act.put, List.getElem_toArray, List.getElem_cons_succ, List.getElem_cons_zero, List.setIfInBounds_toArray, List.set_cons_zero, List.set_cons_succ])
    refine wpAnyH_ready (rs := [5]) (by kernel_rfl) (by simp) (AllReadyH.cons rfl (fun K hK => ?_) AllReadyH.nil)
    go_simp
    refine (KT.out 121 8 (by decide) _).mono ?_
    rintro e y5 ⟨rfl, Cy5⟩
    go_simp
    refine hK.out _ _ (HN2.trans Cy5 (by simp)) (fun HN3 => ?_)
    clear hK K
    refine wpAnyH_ready (rs := [6]) (by kernel_rfl) (by simp) (AllReadyH.cons rfl (fun K hK => ?_) AllReadyH.nil)
    obtain ⟨g6, c6, x6, hr6, hc6, M6⟩ := run_bytes_of_str (P := Tryd.prog) y5 9 25 5 (many 121 8) Tryd.underlying9 Tryd.underlying25 Tryd.underlying5
    rw [show (many 121 8).size = 8 from rfl] at hr6 hc6
    have HS6 := Lib.hid (show PV x6 [] (.slice (some ⟨g6, 0, none⟩) 8 c6) m_y8 from ⟨_, _, rfl, M6.src, hc6, (fun h => by cases h), fun _ a ha => by
      cases ha
      exact ⟨List.not_mem_nil, M6.new.2⟩⟩)
    have HM6 := Lib.hid M6.chg
    clear M6
    go_simp
    refine hK.out _ _ (HN3.trans HM6.out (by simp)) (fun HN4 => ?_)
    clear hK K hr6
    refine' tkH (i := 7) (v := _) rfl (Or.inl ⟨by rfl, ?hyu47⟩) HN4 ?restu47
    case hyu47 =>
      intro w' hSw
      have s1 := hSw
      go_simp
      try with_reducible rfl
    (try simp only [Act.put, List.getElem_toArray, List.getElem_cons_succ, List.getElem_cons_zero, List.setIfInBounds_toArray, List.set_cons_zero, List.set_cons_succ])
    have hb2 := run_two_gots 0 2 (some ⟨g3, 0, none⟩) 16 c3 (some ⟨g6, 0, none⟩) 8 c6 x6
    have HP3 := Lib.hid (HS3.out.chg (show Chg [] x3 x6 from Cy5.trans HM6.out (by simp)) (by simp))
    have HP6 := Lib.hid (HS6.out.chg (show Chg [] x6 x6 from Chg.refl _ _) (by simp))
    have hxg := heap_alloc_new x6 (.cells #[.int .i64 0, .slice (some ⟨g3, 0, none⟩) 16 c3, .int .i64 2, .slice (some ⟨g6, 0, none⟩) 8 c6] 104)
    have CG := Chg.alloc [] x6 (.cells #[.int .i64 0, .slice (some ⟨g3, 0, none⟩) 16 c3, .int .i64 2, .slice (some ⟨g6, 0, none⟩) 8 c6] 104)
    have HGA := Lib.hid (gots_two HP3.out HP6.out)
    refine wpAnyH_ready (rs := [8]) (by kernel_rfl) (by simp) (AllReadyH.cons rfl (fun K hK => ?_) AllReadyH.nil)
    go_simp
    refine hK.out _ _ (HN4.trans CG (by simp)) (fun HG => ?_)
    clear hK K hb2
    obtain ⟨qg, hqg⟩ : ∃ qg, x6.heap.size = qg := ⟨_, rfl⟩
    rw [hqg] at HGA ⊢
    generalize x6.alloc (.cells #[.int .i64 0, .slice (some ⟨g3, 0, none⟩) 16 c3, .int .i64 2, .slice (some ⟨g6, 0, none⟩) 8 c6] 104) = xg at *
    clear hxg CG hqg HP3 HP6 HS3 HS6
    refine wpAnyH_ready (rs := [9]) (by kernel_rfl) (by simp) (AllReadyH.cons rfl (fun K hK => ?_) AllReadyH.nil)
    have KBB := Lib.hid (KB.out (some ⟨g3, 0, none⟩) c3 (some ⟨g6, 0, none⟩) c6 qg xg (HC4.out.trans HG (by simp)) HG (HPL.out.chg HG (by simp)) HGA.out)
    go_simp
    refine KBB.out.mono ?_
    rintro e xf ⟨Cf, bo, bc, no, nc, rfl, hbo, _, _, _⟩
    have HBO := Lib.hid hbo
    go_simp
    refine hK.out _ _ (HG.trans Cf (by simp)) (fun HF => ?_)
    clear hK K Cf hbo KBB HGA
    refine' tkH (i := 10) (v := _) rfl (Or.inl ⟨by rfl, ?hyu510⟩) HF ?restu510
    case hyu510 =>
      intro w' hSw
      have s1 := hSw
      go_simp
      try with_reducible rfl
    (try simp only [Act.put, List.getElem_toArray, List.getElem_cons_succ, List.getElem_cons_zero, List.setIfInBounds_toArray, List.set_cons_zero, List.set_cons_succ])
    refine' tkH (i := 11) (v := _) rfl (Or.inl ⟨by rfl, ?hyu511⟩) HF ?restu511
    case hyu511 =>
      intro w' hSw
      have s1 := hSw
      go_simp
      try with_reducible rfl
    (try simp only [Act.put, List.getElem_toArray, List.getElem_cons_succ, List.getElem_cons_zero, List.setIfInBounds_toArray, List.set_cons_zero, List.set_cons_succ])
    refine' tkH (i := 12) (v := _) rfl (Or.inl ⟨by rfl, ?hyu512⟩) HF ?restu512
    case hyu512 =>
      intro w' hSw
      have s1 := hSw
      go_simp
      try with_reducible rfl
    (try simp only [Act.put, List.getElem_toArray, List.getElem_cons_succ, List.getElem_cons_zero, List.setIfInBounds_toArray, List.set_cons_zero, List.set_cons_succ])
    refine' tkH (i := 13) (v := _) rfl (Or.inl ⟨by rfl, ?hyu513⟩) HF ?restu513
    case hyu513 =>
      intro w' hSw
      have s1 := hSw
      go_simp
      try with_reducible rfl
    (try simp only [Act.put, List.getElem_toArray, List.getElem_cons_succ, List.getElem_cons_zero, List.setIfInBounds_toArray, List.set_cons_zero, List.set_cons_succ])
    refine' tkH (i := 14) (v := _) rfl (Or.inl ⟨by rfl, ?hyu514⟩) HF ?restu514
    case hyu514 =>
      intro w' hSw
      have s1 := hSw
      go_simp
      try with_reducible rfl
    (try simp only [Act.put, List.getElem_toArray, List.getElem_cons_succ, List.getElem_cons_zero, List.setIfInBounds_toArray, List.set_cons_zero, List.set_cons_succ])
    refine' tkH (i := 15) (v := _) rfl (Or.inl ⟨by rfl, ?hyu515⟩) HF ?restu515
    case hyu515 =>
      intro w' hSw
      have s1 := hSw
      go_simp
      try with_reducible rfl
    (try simp only [Act.put, List.getElem_toArray, List.getElem_cons_succ, List.getElem_cons_zero, List.setIfInBounds_toArray, List.set_cons_zero, List.set_cons_succ])
    refine' tkH (i := 16) (v := _) rfl (Or.inl ⟨by rfl, ?hyu516⟩) HF ?restu516
    case hyu516 =>
      intro w' hSw
      have s1 := hSw
      go_simp
      try with_reducible rfl
    (try simp only [Act.put, List.getElem_toArray, List.getElem_cons_succ, List.getElem_cons_zero, List.setIfInBounds_toArray, List.set_cons_zero, List.set_cons_succ])
    refine wpAnyH_done (by kernel_rfl) ?_ _
    have HC5 := Lib.hid (HC4.out.trans HF (by simp))
    have HFX := Lib.hid HF
    have HX5 := Lib.hid ((HF.block q (lt_of_block HX4.out) (by simp)).trans HX4.out)
    have HP5 := Lib.hid (HPL.out.chg HF (by simp))
    have HBS := Lib.hid (ownsRow_src HBO.out)
    go_upto_region 4 with (fail)
    refine wp_region_held_drew (S := fun w' => Chg [] xf w') (by kernel_rfl) (Chg.drewN [] xf 1) (fun Q0 => ?_)
    refine' tkH (i := 0) (v := _) rfl (Or.inl ⟨by rfl, ?hyu60⟩) Q0 ?restu60
    case hyu60 =>
      intro w' hSw
      have s1 := hSw
      go_simp
      try with_reducible rfl
    (try simp only [Act.put, List.getElem_toArray, List.getElem_cons_zero, List.setIfInBounds_toArray, List.set_cons_zero, List.set_cons_succ])
    refine' tkH (i := 1) (v := _) rfl (Or.inl ⟨by rfl, ?hyu61⟩) Q0 ?restu61
    case hyu61 =>
      intro w' hSw
      have s1 := hSw
      go_simp
      try with_reducible rfl
    (try simp only [Act.put, List.getElem_toArray, List.getElem_cons_succ, List.getElem_cons_zero, List.setIfInBounds_toArray, List.set_cons_zero, List.set_cons_succ])
    refine' tkH (i := 2) (v := _) rfl (Or.inl ⟨by rfl, ?hyu62⟩) Q0 ?restu62
    case hyu62 =>
      intro w' hSw
      have s1 := hSw
      go_simp
      try with_reducible rfl
    (try simp only [Act.put, List.getElem_toArray, List.getElem_cons_succ, List.getElem_cons_zero, List.setIfInBounds_toArray, List.set_cons_zero, List.set_cons_succ])
    refine' tkH (i := 3) (v := _) rfl (Or.inl ⟨by rfl, ?hyu63⟩) Q0 ?restu63
    case hyu63 =>
      intro w' hSw
      have s1 := hSw
      go_simp
      try with_reducible rfl
    (try simp only [Act.put, List.getElem_toArray, List.getElem_cons_succ, List.getElem_cons_zero, List.setIfInBounds_toArray, List.set_cons_zero, List.set_cons_succ])
    refine wpAnyH_ready (rs := [4]) (by kernel_rfl) (by simp) (AllReadyH.cons rfl (fun K hK => ?_) AllReadyH.nil)
    go_simp
    refine (KF.out _ (HC5.out.trans Q0 (by simp)) (HP5.out.chg Q0 (by simp))).mono ?_
    rintro e y4 ⟨rfl, Cy4⟩
    go_simp
    refine hK.out _ _ (Q0.trans Cy4 (by simp)) (fun HN1 => ?_)
    clear hK K
    refine' tkH (i := 5) (v := .bool true) rfl (Or.inl ⟨by rfl, ?hyu75⟩) HN1 ?restu75
    case hyu75 =>
      intro w' hSw
      have s1 := hSw
      go_simp
      try rfl
    (try simp only [Act.put, List.getElem_toArray, List.getElem_cons_succ, List.getElem_cons_zero, List.setIfInBounds_toArray, List.set_cons_zero, List.set_cons_succ])
    refine' tkH (i := 6) (v := _) rfl (Or.inl ⟨by rfl, ?hyu86⟩) HN1 ?restu86
    case hyu86 =>
      intro w' hSw
      have s1 := hSw
      go_simp
      try with_reducible rfl
    (try simp only [Act.put, List.getElem_toArray, List.getElem_cons_succ, List.getElem_cons_zero, List.setIfInBounds_toArray, List.set_cons_zero, List.set_cons_succ])
    refine' tkH (i := 7) (v := _) rfl (Or.inl ⟨by rfl, ?hyu87⟩) HN1 ?restu87
    case hyu87 =>
      intro w' hSw
      have s1 := hSw
      go_simp
      try with_reducible rfl
    (try simp only [Act.put, List.getElem_toArray, List.getElem_cons_succ, List.getElem_cons_zero, List.setIfInBounds_toArray, List.set_cons_zero, List.set_cons_succ])
    refine' tkH (i := 8) (v := _) rfl (Or.inl ⟨by rfl, ?hyu88⟩) HN1 ?restu88
    case hyu88 =>
      intro w' hSw
      have s1 := hSw
      go_simp
      try with_reducible rfl
    (try simp only [Act.put, List.getElem_toArray, List.getElem_cons_succ, List.getElem_cons_zero, List.setIfInBounds_toArray, List.set_cons_zero, List.set_cons_succ])
    refine' tkH (i := 9) (v := _) rfl (Or.inl ⟨by rfl, ?hyu89⟩) HN1 ?restu89
    case hyu89 =>
      intro w' hSw
      have s1 := hSw
      go_simp
      try with_reducible rfl
    (try simp only [Act.put, List.getElem_toArray, List.getElem_cons_succ, List.getElem_cons_zero, List.setIfInBounds_toArray, List.set_cons_zero, List.set_cons_succ])
    refine' tkH (i := 10) (v := _) rfl (Or.inl ⟨by rfl, ?hyu810⟩) HN1 ?restu810
    case hyu810 =>
      intro w' hSw
      have s1 := hSw
      go_simp
      try with_reducible rfl
    (try simp only [Act.put, List.getElem_toArray, List.getElem_cons_succ, List.getElem_cons_zero, List.setIfInBounds_toArray, List.set_cons_zero, List.set_cons_succ])
    refine' tkH (i := 11) (v := _) rfl (Or.inl ⟨by rfl, ?hyu811⟩) HN1 ?restu811
    case hyu811 =>
      intro w' hSw
      have s1 := hSw
      go_simp
      try with_reducible rfl
    (try simp only [Act.put, List.getElem_toArray, List.getElem_cons_succ, List.getElem_cons_zero, List.setIfInBounds_toArray, List.set_cons_zero, List.set_cons_succ])
    refine' tkH (i := 12) (v := _) rfl (Or.inl ⟨by rfl, ?hyu812⟩) HN1 ?restu812
    case hyu812 =>
      intro w' hSw
      have s1 := hSw
      go_simp
      try with_reducible rfl
    (try simp only [Act.put, List.getElem_toArray, List.getElem_cons_succ, List.getElem_cons_zero, List.setIfInBounds_toArray, List.set_cons_zero, List.set_cons_succ])
    refine' tkH (i := 13) (v := _) rfl (Or.inl ⟨by rfl, ?hyu813⟩) HN1 ?restu813
    case hyu813 =>
      intro w' hSw
      have s1 := hSw
      go_simp
      try with_reducible rfl
    (try simp only [Act.put, List.getElem_toArray, List.getElem_cons_succ, List.getElem_cons_zero, List.setIfInBounds_toArray, List.set_cons_zero, List.set_cons_succ])
    refine' tkH (i := 14) (v := _) rfl (Or.inl ⟨by rfl, ?hyu814⟩) HN1 ?restu814
    case hyu814 =>
      intro w' hSw
      have s1 := hSw
      go_simp
      try with_reducible rfl
    (try simp only [Act.put, List.getElem_toArray, List.getElem_cons_succ, List.getElem_cons_zero, List.setIfInBounds_toArray, List.set_cons_zero, List.set_cons_succ])
    refine' tkH (i := 15) (v := _) rfl (Or.inl ⟨by rfl, ?hyu815⟩) HN1 ?restu815
    case hyu815 =>
      intro w' hSw
      have s1 := hSw
      go_simp
      try with_reducible rfl
    (try simp only [Act.put, List.getElem_toArray, List.getElem_cons_succ, List.getElem_cons_zero, List.setIfInBounds_toArray, List.set_cons_zero, List.set_cons_succ])
    refine' tkH (i := 16) (v := _) rfl (Or.inl ⟨by rfl, ?hyu816⟩) HN1 ?restu816
    case hyu816 =>
      intro w' hSw
      have s1 := hSw
      go_simp
      try with_reducible rfl
    (try simp only [Act.put, List.getElem_toArray, List.getElem_cons_succ, List.getElem_cons_zero, List.setIfInBounds_toArray, List.set_cons_zero, List.set_cons_succ])
    refine' tkH (i := 17) (v := _) rfl (Or.inl ⟨by rfl, ?hyu817⟩) HN1 ?restu817
    case hyu817 =>
      intro w' hSw
      have s1 := hSw
      go_simp
      try with_reducible rfl
    (try simp only [Act.put, List.getElem_toArray, List.getElem_cons_succ, List.getElem_cons_zero, List.setIfInBounds_toArray, List.set_cons_zero, List.set_cons_succ])
    refine' tkH (i := 18) (v := .string ⟨m_given.toArray⟩) rfl (Or.inl ⟨by rfl, ?hyu918⟩) HN1 ?restu918
    case hyu918 =>
      intro w' hSw
      have s1 := hSw
      have hl := run_str_of_bytes (P := Tryd.prog) w' 25 9 5 Tryd.underlying25 Tryd.underlying5 Tryd.underlying9 bo m_given.length bc m_given rfl (HBS.out.chg s1 (by simp))
      simp [execOp, Act.eval, hl, Result.andThen]
    (try simp only [Act.put, List.getElem_toArray, List.getElem_cons_succ, List.getElem_cons_zero, List.setIfInBounds_toArray, List.set_cons_zero, List.set_cons_succ])
    refine wpAnyH_ready (rs := [19]) (by kernel_rfl) (by simp) (AllReadyH.cons rfl (fun K hK => ?_) AllReadyH.nil)
    go_simp
    refine (KG.out _).mono ?_
    rintro e y5 ⟨gg, cg, rfl, _, hsg, _, _, C5⟩
    have HSG := Lib.hid hsg
    go_simp
    refine hK.out _ _ (HN1.trans C5 (by simp)) (fun HN5 => ?_)
    clear hK K hsg
    have HSG2 : Hid (∀ w', Chg [] y5 w' → Src w' (some ⟨gg, 0, none⟩) (bvs m_given)) := Lib.hid (fun w' C => HSG.out.chg C (by simp))
    refine wpAnyH_ready (rs := [20]) (by kernel_rfl) (by simp) (AllReadyH.cons rfl (fun K hK => ?_) AllReadyH.nil)
    have hl := run_str_of_bytes (P := Tryd.prog) y5 25 9 5 Tryd.underlying25 Tryd.underlying5 Tryd.underlying9 (some ⟨gg, 0, none⟩) m_given.length cg m_given rfl HSG.out
    go_simp
    refine hK.out _ _ HN5 (fun HN6 => ?_)
    clear hK K hl
    refine' tkH (i := 21) (v := .bool true) rfl (Or.inl ⟨by rfl, ?hyu1021⟩) HN6 ?restu1021
    case hyu1021 =>
      intro w' hSw
      have s1 := hSw
      go_simp
      try rfl
    (try simp only [Act.put, List.getElem_toArray, List.getElem_cons_succ, List.getElem_cons_zero, List.setIfInBounds_toArray, List.set_cons_zero, List.set_cons_succ])
    refine' tkH (i := 22) (v := _) rfl (Or.inl ⟨by rfl, ?hyu1122⟩) HN6 ?restu1122
    case hyu1122 =>
      intro w' hSw
      have s1 := hSw
      go_simp
      try with_reducible rfl
    (try simp only [Act.put, List.getElem_toArray, List.getElem_cons_succ, List.getElem_cons_zero, List.setIfInBounds_toArray, List.set_cons_zero, List.set_cons_succ])
    refine' tkH (i := 23) (v := _) rfl (Or.inl ⟨by rfl, ?hyu1123⟩) HN6 ?restu1123
    case hyu1123 =>
      intro w' hSw
      have s1 := hSw
      go_simp
      try with_reducible rfl
    (try simp only [Act.put, List.getElem_toArray, List.getElem_cons_succ, List.getElem_cons_zero, List.setIfInBounds_toArray, List.set_cons_zero, List.set_cons_succ])
    refine' tkH (i := 24) (v := .agg RC) rfl (Or.inl ⟨by rfl, ?hyu1224⟩) HN6 ?restu1224
    case hyu1224 =>
      intro w' hSw
      have s1 := hSw
      have hl := run_loadAt_rec w' q RC _ ((s1.block q (lt_of_block HX5.out) (by simp)).trans HX5.out) HRS.out
      simp [execOp, Act.eval, hl, Result.andThen]
    (try simp only [Act.put, List.getElem_toArray, List.getElem_cons_succ, List.getElem_cons_zero, List.setIfInBounds_toArray, List.set_cons_zero, List.set_cons_succ])
    refine wpAnyH_ready (rs := [25]) (by kernel_rfl) (by simp) (AllReadyH.cons rfl (fun K hK => ?_) AllReadyH.nil)
    go_simp
    refine (KL.out _ (HC5.out.trans HN6 (by simp)) (HFX.out.trans HN6 (by simp))).mono ?_
    rintro e y6 ⟨rfl, Cy6⟩
    go_simp
    refine hK.out _ _ (HN6.trans Cy6 (by simp)) (fun HN2 => ?_)
    clear hK K
    refine' tkH (i := 26) (v := _) rfl (Or.inl ⟨by rfl, ?hyu1326⟩) HN2 ?restu1326
    case hyu1326 =>
      intro w' hSw
      have s1 := hSw
      go_simp
      try with_reducible rfl
    (try simp only [Act.put, List.getElem_toArray, List.getElem_cons_succ, List.getElem_cons_zero, List.setIfInBounds_toArray, List.set_cons_zero, List.set_cons_succ])
    refine' tkH (i := 27) (v := _) rfl (Or.inl ⟨by rfl, ?hyu1327⟩) HN2 ?restu1327
    case hyu1327 =>
      intro w' hSw
      have s1 := hSw
      go_simp
      try with_reducible rfl
    (try simp only [Act.put, List.getElem_toArray, List.getElem_cons_succ, List.getElem_cons_zero, List.setIfInBounds_toArray, List.set_cons_zero, List.set_cons_succ])
    refine' tkH (i := 28) (v := _) rfl (Or.inl ⟨by rfl, ?hyu1428⟩) HN2 ?restu1428
    case hyu1428 =>
      intro w' hSw
      have s1 := hSw
      go_simp
      try with_reducible rfl
    refine wpAnyH_done (by kernel_rfl) ?_ _
    have HCF := Lib.hid (HC5.out.trans HN2 (by simp))
    go_wp2_with fail
    go_ret
    exact ⟨rfl, HCF.out⟩
  · go_simp
    refine (KT.out 121 8 (by decide) _).mono ?_
    rintro e y5 ⟨rfl, Cy5⟩
    go_simp
    refine hK.out _ _ (HN1.trans Cy5 (by simp)) (fun HN2 => ?_)
    clear hK K
    refine wpAnyH_ready (rs := [3, 6]) (by kernel_rfl) (by simp) (AllReadyH.cons rfl (fun K hK => ?_) (AllReadyH.cons rfl (fun K hK => ?_) AllReadyH.nil))
    · obtain ⟨g3, c3, x3, hr3, hc3, M3⟩ := run_bytes_of_str (P := Tryd.prog) y5 9 25 5 (many 120 16) Tryd.underlying9 Tryd.underlying25 Tryd.underlying5
      rw [show (many 120 16).size = 16 from rfl] at hr3 hc3
      have HS3 := Lib.hid (show PV x3 [] (.slice (some ⟨g3, 0, none⟩) 16 c3) m_x16 from ⟨_, _, rfl, M3.src, hc3, (fun h => by cases h), fun _ a ha => by
        cases ha
        exact ⟨List.not_mem_nil, M3.new.2⟩⟩)
      have HM3 := Lib.hid M3.chg
      clear M3
      go_simp
      refine hK.out _ _ (HN2.trans HM3.out (by simp)) (fun HN3 => ?_)
      clear hK K hr3
      refine' tkH (i := 4) (v := _) rfl (Or.inl ⟨by rfl, ?hyu154⟩) HN3 ?restu154
      case hyu154 =>
        intro w' hSw
        have s1 := hSw
        go_simp
        try with_reducible rfl
      (try simp only [Act.put, List.getElem_toArray, List.getElem_cons_succ, List.getElem_cons_zero, List.setIfInBounds_toArray, List.set_cons_zero, List.set_cons_succ])
      refine wpAnyH_ready (rs := [6]) (by kernel_rfl) (by simp) (AllReadyH.cons rfl (fun K hK => ?_) AllReadyH.nil)
      obtain ⟨g6, c6, x6, hr6, hc6, M6⟩ := run_bytes_of_str (P := Tryd.prog) x3 9 25 5 (many 121 8) Tryd.underlying9 Tryd.underlying25 Tryd.underlying5
      rw [show (many 121 8).size = 8 from rfl] at hr6 hc6
      have HS6 := Lib.hid (show PV x6 [] (.slice (some ⟨g6, 0, none⟩) 8 c6) m_y8 from ⟨_, _, rfl, M6.src, hc6, (fun h => by cases h), fun _ a ha => by
        cases ha
        exact ⟨List.not_mem_nil, M6.new.2⟩⟩)
      have HM6 := Lib.hid M6.chg
      clear M6
      go_simp
      refine hK.out _ _ (HN3.trans HM6.out (by simp)) (fun HN4 => ?_)
      clear hK K hr6
      refine' tkH (i := 7) (v := _) rfl (Or.inl ⟨by rfl, ?hyu167⟩) HN4 ?restu167
      case hyu167 =>
        intro w' hSw
        have s1 := hSw
        go_simp
        try with_reducible rfl
      (try simp only [Act.put, List.getElem_toArray, List.getElem_cons_succ, List.getElem_cons_zero, List.setIfInBounds_toArray, List.set_cons_zero, List.set_cons_succ])
      have hb2 := run_two_gots 0 2 (some ⟨g3, 0, none⟩) 16 c3 (some ⟨g6, 0, none⟩) 8 c6 x6
      have HP3 := Lib.hid (HS3.out.chg (show Chg [] x3 x6 from HM6.out) (by simp))
      have HP6 := Lib.hid (HS6.out.chg (show Chg [] x6 x6 from Chg.refl _ _) (by simp))
      have hxg := heap_alloc_new x6 (.cells #[.int .i64 0, .slice (some ⟨g3, 0, none⟩) 16 c3, .int .i64 2, .slice (some ⟨g6, 0, none⟩) 8 c6] 104)
      have CG := Chg.alloc [] x6 (.cells #[.int .i64 0, .slice (some ⟨g3, 0, none⟩) 16 c3, .int .i64 2, .slice (some ⟨g6, 0, none⟩) 8 c6] 104)
      have HGA := Lib.hid (gots_two HP3.out HP6.out)
      refine wpAnyH_ready (rs := [8]) (by kernel_rfl) (by simp) (AllReadyH.cons rfl (fun K hK => ?_) AllReadyH.nil)
      go_simp
      refine hK.out _ _ (HN4.trans CG (by simp)) (fun HG => ?_)
      clear hK K hb2
      obtain ⟨qg, hqg⟩ : ∃ qg, x6.heap.size = qg := ⟨_, rfl⟩
      rw [hqg] at HGA ⊢
      generalize x6.alloc (.cells #[.int .i64 0, .slice (some ⟨g3, 0, none⟩) 16 c3, .int .i64 2, .slice (some ⟨g6, 0, none⟩) 8 c6] 104) = xg at *
      clear hxg CG hqg HP3 HP6 HS3 HS6
      refine wpAnyH_ready (rs := [9]) (by kernel_rfl) (by simp) (AllReadyH.cons rfl (fun K hK => ?_) AllReadyH.nil)
      have KBB := Lib.hid (KB.out (some ⟨g3, 0, none⟩) c3 (some ⟨g6, 0, none⟩) c6 qg xg (HC4.out.trans HG (by simp)) HG (HPL.out.chg HG (by simp)) HGA.out)
      go_simp
      refine KBB.out.mono ?_
      rintro e xf ⟨Cf, bo, bc, no, nc, rfl, hbo, _, _, _⟩
      have HBO := Lib.hid hbo
      go_simp
      refine hK.out _ _ (HG.trans Cf (by simp)) (fun HF => ?_)
      clear hK K Cf hbo KBB HGA
      refine' tkH (i := 10) (v := _) rfl (Or.inl ⟨by rfl, ?hyu1710⟩) HF ?restu1710
      case hyu1710 =>
        intro w' hSw
        have s1 := hSw
        go_simp
        try with_reducible rfl
      (try simp only [Act.put, List.getElem_toArray, List.getElem_cons_succ, List.getElem_cons_zero, List.setIfInBounds_toArray, List.set_cons_zero, List.set_cons_succ])
      refine' tkH (i := 11) (v := _) rfl (Or.inl ⟨by rfl, ?hyu1711⟩) HF ?restu1711
      case hyu1711 =>
        intro w' hSw
        have s1 := hSw
        go_simp
        try with_reducible rfl
      (try simp only [Act.put, List.getElem_toArray, List.getElem_cons_succ, List.getElem_cons_zero, List.setIfInBounds_toArray, List.set_cons_zero, List.set_cons_succ])
      refine' tkH (i := 12) (v := _) rfl (Or.inl ⟨by rfl, ?hyu1712⟩) HF ?restu1712
      case hyu1712 =>
        intro w' hSw
        have s1 := hSw
        go_simp
        try with_reducible rfl
      (try simp only [Act.put, List.getElem_toArray, List.getElem_cons_succ, List.getElem_cons_zero, List.setIfInBounds_toArray, List.set_cons_zero, List.set_cons_succ])
      refine' tkH (i := 13) (v := _) rfl (Or.inl ⟨by rfl, ?hyu1713⟩) HF ?restu1713
      case hyu1713 =>
        intro w' hSw
        have s1 := hSw
        go_simp
        try with_reducible rfl
      (try simp only [Act.put, List.getElem_toArray, List.getElem_cons_succ, List.getElem_cons_zero, List.setIfInBounds_toArray, List.set_cons_zero, List.set_cons_succ])
      refine' tkH (i := 14) (v := _) rfl (Or.inl ⟨by rfl, ?hyu1714⟩) HF ?restu1714
      case hyu1714 =>
        intro w' hSw
        have s1 := hSw
        go_simp
        try with_reducible rfl
      (try simp only [Act.put, List.getElem_toArray, List.getElem_cons_succ, List.getElem_cons_zero, List.setIfInBounds_toArray, List.set_cons_zero, List.set_cons_succ])
      refine' tkH (i := 15) (v := _) rfl (Or.inl ⟨by rfl, ?hyu1715⟩) HF ?restu1715
      case hyu1715 =>
        intro w' hSw
        have s1 := hSw
        go_simp
        try with_reducible rfl
      (try simp only [Act.put, List.getElem_toArray, List.getElem_cons_succ, List.getElem_cons_zero, List.setIfInBounds_toArray, List.set_cons_zero, List.set_cons_succ])
      refine' tkH (i := 16) (v := _) rfl (Or.inl ⟨by rfl, ?hyu1716⟩) HF ?restu1716
      case hyu1716 =>
        intro w' hSw
        have s1 := hSw
        go_simp
        try with_reducible rfl
      (try simp only [Act.put, List.getElem_toArray, List.getElem_cons_succ, List.getElem_cons_zero, List.setIfInBounds_toArray, List.set_cons_zero, List.set_cons_succ])
      refine wpAnyH_done (by kernel_rfl) ?_ _
      have HC5 := Lib.hid (HC4.out.trans HF (by simp))
      have HFX := Lib.hid HF
      have HX5 := Lib.hid ((HF.block q (lt_of_block HX4.out) (by simp)).trans HX4.out)
      have HP5 := Lib.hid (HPL.out.chg HF (by simp))
      have HBS := Lib.hid (ownsRow_src HBO.out)
      go_upto_region 4 with (fail)
      refine wp_region_held_drew (S := fun w' => Chg [] xf w') (by kernel_rfl) (Chg.drewN [] xf 1) (fun Q0 => ?_)
      refine' tkH (i := 0) (v := _) rfl (Or.inl ⟨by rfl, ?hyu180⟩) Q0 ?restu180
      case hyu180 =>
        intro w' hSw
        have s1 := hSw
        go_simp
        try with_reducible rfl
      (try simp only [Act.put, List.getElem_toArray, List.getElem_cons_zero, List.setIfInBounds_toArray, List.set_cons_zero, List.set_cons_succ])
      refine' tkH (i := 1) (v := _) rfl (Or.inl ⟨by rfl, ?hyu181⟩) Q0 ?restu181
      case hyu181 =>
        intro w' hSw
        have s1 := hSw
        go_simp
        try with_reducible rfl
      (try simp only [Act.put, List.getElem_toArray, List.getElem_cons_succ, List.getElem_cons_zero, List.setIfInBounds_toArray, List.set_cons_zero, List.set_cons_succ])
      refine' tkH (i := 2) (v := _) rfl (Or.inl ⟨by rfl, ?hyu182⟩) Q0 ?restu182
      case hyu182 =>
        intro w' hSw
        have s1 := hSw
        go_simp
        try with_reducible rfl
      (try simp only [Act.put, List.getElem_toArray, List.getElem_cons_succ, List.getElem_cons_zero, List.setIfInBounds_toArray, List.set_cons_zero, List.set_cons_succ])
      refine' tkH (i := 3) (v := _) rfl (Or.inl ⟨by rfl, ?hyu183⟩) Q0 ?restu183
      case hyu183 =>
        intro w' hSw
        have s1 := hSw
        go_simp
        try with_reducible rfl
      (try simp only [Act.put, List.getElem_toArray, List.getElem_cons_succ, List.getElem_cons_zero, List.setIfInBounds_toArray, List.set_cons_zero, List.set_cons_succ])
      refine wpAnyH_ready (rs := [4]) (by kernel_rfl) (by simp) (AllReadyH.cons rfl (fun K hK => ?_) AllReadyH.nil)
      go_simp
      refine (KF.out _ (HC5.out.trans Q0 (by simp)) (HP5.out.chg Q0 (by simp))).mono ?_
      rintro e y4 ⟨rfl, Cy4⟩
      go_simp
      refine hK.out _ _ (Q0.trans Cy4 (by simp)) (fun HN1 => ?_)
      clear hK K
      refine' tkH (i := 5) (v := .bool true) rfl (Or.inl ⟨by rfl, ?hyu195⟩) HN1 ?restu195
      case hyu195 =>
        intro w' hSw
        have s1 := hSw
        go_simp
        try rfl
      (try simp only [Act.put, List.getElem_toArray, List.getElem_cons_succ, List.getElem_cons_zero, List.setIfInBounds_toArray, List.set_cons_zero, List.set_cons_succ])
      refine' tkH (i := 6) (v := _) rfl (Or.inl ⟨by rfl, ?hyu206⟩) HN1 ?restu206
      case hyu206 =>
        intro w' hSw
        have s1 := hSw
        go_simp
        try with_reducible rfl
      (try simp only [Act.put, List.getElem_toArray, List.getElem_cons_succ, List.getElem_cons_zero, List.setIfInBounds_toArray, List.set_cons_zero, List.set_cons_succ])
      refine' tkH (i := 7) (v := _) rfl (Or.inl ⟨by rfl, ?hyu207⟩) HN1 ?restu207
      case hyu207 =>
        intro w' hSw
        have s1 := hSw
        go_simp
        try with_reducible rfl
      (try simp only [Act.put, List.getElem_toArray, List.getElem_cons_succ, List.getElem_cons_zero, List.setIfInBounds_toArray, List.set_cons_zero, List.set_cons_succ])
      refine' tkH (i := 8) (v := _) rfl (Or.inl ⟨by rfl, ?hyu208⟩) HN1 ?restu208
      case hyu208 =>
        intro w' hSw
        have s1 := hSw
        go_simp
        try with_reducible rfl
      (try simp only [Act.put, List.getElem_toArray, List.getElem_cons_succ, List.getElem_cons_zero, List.setIfInBounds_toArray, List.set_cons_zero, List.set_cons_succ])
      refine' tkH (i := 9) (v := _) rfl (Or.inl ⟨by rfl, ?hyu209⟩) HN1 ?restu209
      case hyu209 =>
        intro w' hSw
        have s1 := hSw
        go_simp
        try with_reducible rfl
      (try simp only [Act.put, List.getElem_toArray, List.getElem_cons_succ, List.getElem_cons_zero, List.setIfInBounds_toArray, List.set_cons_zero, List.set_cons_succ])
      refine' tkH (i := 10) (v := _) rfl (Or.inl ⟨by rfl, ?hyu2010⟩) HN1 ?restu2010
      case hyu2010 =>
        intro w' hSw
        have s1 := hSw
        go_simp
        try with_reducible rfl
      (try simp only [Act.put, List.getElem_toArray, List.getElem_cons_succ, List.getElem_cons_zero, List.setIfInBounds_toArray, List.set_cons_zero, List.set_cons_succ])
      refine' tkH (i := 11) (v := _) rfl (Or.inl ⟨by rfl, ?hyu2011⟩) HN1 ?restu2011
      case hyu2011 =>
        intro w' hSw
        have s1 := hSw
        go_simp
        try with_reducible rfl
      (try simp only [Act.put, List.getElem_toArray, List.getElem_cons_succ, List.getElem_cons_zero, List.setIfInBounds_toArray, List.set_cons_zero, List.set_cons_succ])
      refine' tkH (i := 12) (v := _) rfl (Or.inl ⟨by rfl, ?hyu2012⟩) HN1 ?restu2012
      case hyu2012 =>
        intro w' hSw
        have s1 := hSw
        go_simp
        try with_reducible rfl
      (try simp only [Act.put, List.getElem_toArray, List.getElem_cons_succ, List.getElem_cons_zero, List.setIfInBounds_toArray, List.set_cons_zero, List.set_cons_succ])
      refine' tkH (i := 13) (v := _) rfl (Or.inl ⟨by rfl, ?hyu2013⟩) HN1 ?restu2013
      case hyu2013 =>
        intro w' hSw
        have s1 := hSw
        go_simp
        try with_reducible rfl
      (try simp only [Act.put, List.getElem_toArray, List.getElem_cons_succ, List.getElem_cons_zero, List.setIfInBounds_toArray, List.set_cons_zero, List.set_cons_succ])
      refine' tkH (i := 14) (v := _) rfl (Or.inl ⟨by rfl, ?hyu2014⟩) HN1 ?restu2014
      case hyu2014 =>
        intro w' hSw
        have s1 := hSw
        go_simp
        try with_reducible rfl
      (try simp only [Act.put, List.getElem_toArray, List.getElem_cons_succ, List.getElem_cons_zero, List.setIfInBounds_toArray, List.set_cons_zero, List.set_cons_succ])
      refine' tkH (i := 15) (v := _) rfl (Or.inl ⟨by rfl, ?hyu2015⟩) HN1 ?restu2015
      case hyu2015 =>
        intro w' hSw
        have s1 := hSw
        go_simp
        try with_reducible rfl
      (try simp only [Act.put, List.getElem_toArray, List.getElem_cons_succ, List.getElem_cons_zero, List.setIfInBounds_toArray, List.set_cons_zero, List.set_cons_succ])
      refine' tkH (i := 16) (v := _) rfl (Or.inl ⟨by rfl, ?hyu2016⟩) HN1 ?restu2016
      case hyu2016 =>
        intro w' hSw
        have s1 := hSw
        go_simp
        try with_reducible rfl
      (try simp only [Act.put, List.getElem_toArray, List.getElem_cons_succ, List.getElem_cons_zero, List.setIfInBounds_toArray, List.set_cons_zero, List.set_cons_succ])
      refine' tkH (i := 17) (v := _) rfl (Or.inl ⟨by rfl, ?hyu2017⟩) HN1 ?restu2017
      case hyu2017 =>
        intro w' hSw
        have s1 := hSw
        go_simp
        try with_reducible rfl
      (try simp only [Act.put, List.getElem_toArray, List.getElem_cons_succ, List.getElem_cons_zero, List.setIfInBounds_toArray, List.set_cons_zero, List.set_cons_succ])
      refine' tkH (i := 18) (v := .string ⟨m_given.toArray⟩) rfl (Or.inl ⟨by rfl, ?hyu2118⟩) HN1 ?restu2118
      case hyu2118 =>
        intro w' hSw
        have s1 := hSw
        have hl := run_str_of_bytes (P := Tryd.prog) w' 25 9 5 Tryd.underlying25 Tryd.underlying5 Tryd.underlying9 bo m_given.length bc m_given rfl (HBS.out.chg s1 (by simp))
        simp [execOp, Act.eval, hl, Result.andThen]
      (try simp only [Act.put, List.getElem_toArray, List.getElem_cons_succ, List.getElem_cons_zero, List.setIfInBounds_toArray, List.set_cons_zero, List.set_cons_succ])
      refine wpAnyH_ready (rs := [19]) (by kernel_rfl) (by simp) (AllReadyH.cons rfl (fun K hK => ?_) AllReadyH.nil)
      go_simp
      refine (KG.out _).mono ?_
      rintro e y5 ⟨gg, cg, rfl, _, hsg, _, _, C5⟩
      have HSG := Lib.hid hsg
      go_simp
      refine hK.out _ _ (HN1.trans C5 (by simp)) (fun HN5 => ?_)
      clear hK K hsg
      have HSG2 : Hid (∀ w', Chg [] y5 w' → Src w' (some ⟨gg, 0, none⟩) (bvs m_given)) := Lib.hid (fun w' C => HSG.out.chg C (by simp))
      refine wpAnyH_ready (rs := [20]) (by kernel_rfl) (by simp) (AllReadyH.cons rfl (fun K hK => ?_) AllReadyH.nil)
      have hl := run_str_of_bytes (P := Tryd.prog) y5 25 9 5 Tryd.underlying25 Tryd.underlying5 Tryd.underlying9 (some ⟨gg, 0, none⟩) m_given.length cg m_given rfl HSG.out
      go_simp
      refine hK.out _ _ HN5 (fun HN6 => ?_)
      clear hK K hl
      refine' tkH (i := 21) (v := .bool true) rfl (Or.inl ⟨by rfl, ?hyu2221⟩) HN6 ?restu2221
      case hyu2221 =>
        intro w' hSw
        have s1 := hSw
        go_simp
        try rfl
      (try simp only [Act.put, List.getElem_toArray, List.getElem_cons_succ, List.getElem_cons_zero, List.setIfInBounds_toArray, List.set_cons_zero, List.set_cons_succ])
      refine' tkH (i := 22) (v := _) rfl (Or.inl ⟨by rfl, ?hyu2322⟩) HN6 ?restu2322
      case hyu2322 =>
        intro w' hSw
        have s1 := hSw
        go_simp
        try with_reducible rfl
      (try simp only [Act.put, List.getElem_toArray, List.getElem_cons_succ, List.getElem_cons_zero, List.setIfInBounds_toArray, List.set_cons_zero, List.set_cons_succ])
      refine' tkH (i := 23) (v := _) rfl (Or.inl ⟨by rfl, ?hyu2323⟩) HN6 ?restu2323
      case hyu2323 =>
        intro w' hSw
        have s1 := hSw
        go_simp
        try with_reducible rfl
      (try simp only [Act.put, List.getElem_toArray, List.getElem_cons_succ, List.getElem_cons_zero, List.setIfInBounds_toArray, List.set_cons_zero, List.set_cons_succ])
      refine' tkH (i := 24) (v := .agg RC) rfl (Or.inl ⟨by rfl, ?hyu2424⟩) HN6 ?restu2424
      case hyu2424 =>
        intro w' hSw
        have s1 := hSw
        have hl := run_loadAt_rec w' q RC _ ((s1.block q (lt_of_block HX5.out) (by simp)).trans HX5.out) HRS.out
        simp [execOp, Act.eval, hl, Result.andThen]
      (try simp only [Act.put, List.getElem_toArray, List.getElem_cons_succ, List.getElem_cons_zero, List.setIfInBounds_toArray, List.set_cons_zero, List.set_cons_succ])
      refine wpAnyH_ready (rs := [25]) (by kernel_rfl) (by simp) (AllReadyH.cons rfl (fun K hK => ?_) AllReadyH.nil)
      go_simp
      refine (KL.out _ (HC5.out.trans HN6 (by simp)) (HFX.out.trans HN6 (by simp))).mono ?_
      rintro e y6 ⟨rfl, Cy6⟩
      go_simp
      refine hK.out _ _ (HN6.trans Cy6 (by simp)) (fun HN2 => ?_)
      clear hK K
      refine' tkH (i := 26) (v := _) rfl (Or.inl ⟨by rfl, ?hyu2526⟩) HN2 ?restu2526
      case hyu2526 =>
        intro w' hSw
        have s1 := hSw
        go_simp
        try with_reducible rfl
      (try simp only [Act.put, List.getElem_toArray, List.getElem_cons_succ, List.getElem_cons_zero, List.setIfInBounds_toArray, List.set_cons_zero, List.set_cons_succ])
      refine' tkH (i := 27) (v := _) rfl (Or.inl ⟨by rfl, ?hyu2527⟩) HN2 ?restu2527
      case hyu2527 =>
        intro w' hSw
        have s1 := hSw
        go_simp
        try with_reducible rfl
      (try simp only [Act.put, List.getElem_toArray, List.getElem_cons_succ, List.getElem_cons_zero, List.setIfInBounds_toArray, List.set_cons_zero, List.set_cons_succ])
      refine' tkH (i := 28) (v := _) rfl (Or.inl ⟨by rfl, ?hyu2628⟩) HN2 ?restu2628
      case hyu2628 =>
        intro w' hSw
        have s1 := hSw
        go_simp
        try with_reducible rfl
      refine wpAnyH_done (by kernel_rfl) ?_ _
      have HCF := Lib.hid (HC5.out.trans HN2 (by simp))
      go_wp2_with fail
      go_ret
      exact ⟨rfl, HCF.out⟩
    · obtain ⟨g6, c6, x6, hr6, hc6, M6⟩ := run_bytes_of_str (P := Tryd.prog) y5 9 25 5 (many 121 8) Tryd.underlying9 Tryd.underlying25 Tryd.underlying5
      rw [show (many 121 8).size = 8 from rfl] at hr6 hc6
      have HS6 := Lib.hid (show PV x6 [] (.slice (some ⟨g6, 0, none⟩) 8 c6) m_y8 from ⟨_, _, rfl, M6.src, hc6, (fun h => by cases h), fun _ a ha => by
        cases ha
        exact ⟨List.not_mem_nil, M6.new.2⟩⟩)
      have HM6 := Lib.hid M6.chg
      clear M6
      go_simp
      refine hK.out _ _ (HN2.trans HM6.out (by simp)) (fun HN3 => ?_)
      clear hK K hr6
      refine' tkH (i := 7) (v := _) rfl (Or.inl ⟨by rfl, ?hyu277⟩) HN3 ?restu277
      case hyu277 =>
        intro w' hSw
        have s1 := hSw
        go_simp
        try with_reducible rfl
      (try simp only [Act.put, List.getElem_toArray, List.getElem_cons_succ, List.getElem_cons_zero, List.setIfInBounds_toArray, List.set_cons_zero, List.set_cons_succ])
      refine wpAnyH_ready (rs := [3]) (by kernel_rfl) (by simp) (AllReadyH.cons rfl (fun K hK => ?_) AllReadyH.nil)
      obtain ⟨g3, c3, x3, hr3, hc3, M3⟩ := run_bytes_of_str (P := Tryd.prog) x6 9 25 5 (many 120 16) Tryd.underlying9 Tryd.underlying25 Tryd.underlying5
      rw [show (many 120 16).size = 16 from rfl] at hr3 hc3
      have HS3 := Lib.hid (show PV x3 [] (.slice (some ⟨g3, 0, none⟩) 16 c3) m_x16 from ⟨_, _, rfl, M3.src, hc3, (fun h => by cases h), fun _ a ha => by
        cases ha
        exact ⟨List.not_mem_nil, M3.new.2⟩⟩)
      have HM3 := Lib.hid M3.chg
      clear M3
      go_simp
      refine hK.out _ _ (HN3.trans HM3.out (by simp)) (fun HN4 => ?_)
      clear hK K hr3
      refine' tkH (i := 4) (v := _) rfl (Or.inl ⟨by rfl, ?hyu284⟩) HN4 ?restu284
      case hyu284 =>
        intro w' hSw
        have s1 := hSw
        go_simp
        try with_reducible rfl
      (try simp only [Act.put, List.getElem_toArray, List.getElem_cons_succ, List.getElem_cons_zero, List.setIfInBounds_toArray, List.set_cons_zero, List.set_cons_succ])
      have hb2 := run_two_gots 0 2 (some ⟨g3, 0, none⟩) 16 c3 (some ⟨g6, 0, none⟩) 8 c6 x3
      have HP3 := Lib.hid (HS3.out.chg (show Chg [] x3 x3 from Chg.refl _ _) (by simp))
      have HP6 := Lib.hid (HS6.out.chg (show Chg [] x6 x3 from HM3.out) (by simp))
      have hxg := heap_alloc_new x3 (.cells #[.int .i64 0, .slice (some ⟨g3, 0, none⟩) 16 c3, .int .i64 2, .slice (some ⟨g6, 0, none⟩) 8 c6] 104)
      have CG := Chg.alloc [] x3 (.cells #[.int .i64 0, .slice (some ⟨g3, 0, none⟩) 16 c3, .int .i64 2, .slice (some ⟨g6, 0, none⟩) 8 c6] 104)
      have HGA := Lib.hid (gots_two HP3.out HP6.out)
      refine wpAnyH_ready (rs := [8]) (by kernel_rfl) (by simp) (AllReadyH.cons rfl (fun K hK => ?_) AllReadyH.nil)
      go_simp
      refine hK.out _ _ (HN4.trans CG (by simp)) (fun HG => ?_)
      clear hK K hb2
      obtain ⟨qg, hqg⟩ : ∃ qg, x3.heap.size = qg := ⟨_, rfl⟩
      rw [hqg] at HGA ⊢
      generalize x3.alloc (.cells #[.int .i64 0, .slice (some ⟨g3, 0, none⟩) 16 c3, .int .i64 2, .slice (some ⟨g6, 0, none⟩) 8 c6] 104) = xg at *
      clear hxg CG hqg HP3 HP6 HS3 HS6
      refine wpAnyH_ready (rs := [9]) (by kernel_rfl) (by simp) (AllReadyH.cons rfl (fun K hK => ?_) AllReadyH.nil)
      have KBB := Lib.hid (KB.out (some ⟨g3, 0, none⟩) c3 (some ⟨g6, 0, none⟩) c6 qg xg (HC4.out.trans HG (by simp)) HG (HPL.out.chg HG (by simp)) HGA.out)
      go_simp
      refine KBB.out.mono ?_
      rintro e xf ⟨Cf, bo, bc, no, nc, rfl, hbo, _, _, _⟩
      have HBO := Lib.hid hbo
      go_simp
      refine hK.out _ _ (HG.trans Cf (by simp)) (fun HF => ?_)
      clear hK K Cf hbo KBB HGA
      refine' tkH (i := 10) (v := _) rfl (Or.inl ⟨by rfl, ?hyu2910⟩) HF ?restu2910
      case hyu2910 =>
        intro w' hSw
        have s1 := hSw
        go_simp
        try with_reducible rfl
      (try simp only [Act.put, List.getElem_toArray, List.getElem_cons_succ, List.getElem_cons_zero, List.setIfInBounds_toArray, List.set_cons_zero, List.set_cons_succ])
      refine' tkH (i := 11) (v := _) rfl (Or.inl ⟨by rfl, ?hyu2911⟩) HF ?restu2911
      case hyu2911 =>
        intro w' hSw
        have s1 := hSw
        go_simp
        try with_reducible rfl
      (try simp only [Act.put, List.getElem_toArray, List.getElem_cons_succ, List.getElem_cons_zero, List.setIfInBounds_toArray, List.set_cons_zero, List.set_cons_succ])
      refine' tkH (i := 12) (v := _) rfl (Or.inl ⟨by rfl, ?hyu2912⟩) HF ?restu2912
      case hyu2912 =>
        intro w' hSw
        have s1 := hSw
        go_simp
        try with_reducible rfl
      (try simp only [Act.put, List.getElem_toArray, List.getElem_cons_succ, List.getElem_cons_zero, List.setIfInBounds_toArray, List.set_cons_zero, List.set_cons_succ])
      refine' tkH (i := 13) (v := _) rfl (Or.inl ⟨by rfl, ?hyu2913⟩) HF ?restu2913
      case hyu2913 =>
        intro w' hSw
        have s1 := hSw
        go_simp
        try with_reducible rfl
      (try simp only [Act.put, List.getElem_toArray, List.getElem_cons_succ, List.getElem_cons_zero, List.setIfInBounds_toArray, List.set_cons_zero, List.set_cons_succ])
      refine' tkH (i := 14) (v := _) rfl (Or.inl ⟨by rfl, ?hyu2914⟩) HF ?restu2914
      case hyu2914 =>
        intro w' hSw
        have s1 := hSw
        go_simp
        try with_reducible rfl
      (try simp only [Act.put, List.getElem_toArray, List.getElem_cons_succ, List.getElem_cons_zero, List.setIfInBounds_toArray, List.set_cons_zero, List.set_cons_succ])
      refine' tkH (i := 15) (v := _) rfl (Or.inl ⟨by rfl, ?hyu2915⟩) HF ?restu2915
      case hyu2915 =>
        intro w' hSw
        have s1 := hSw
        go_simp
        try with_reducible rfl
      (try simp only [Act.put, List.getElem_toArray, List.getElem_cons_succ, List.getElem_cons_zero, List.setIfInBounds_toArray, List.set_cons_zero, List.set_cons_succ])
      refine' tkH (i := 16) (v := _) rfl (Or.inl ⟨by rfl, ?hyu2916⟩) HF ?restu2916
      case hyu2916 =>
        intro w' hSw
        have s1 := hSw
        go_simp
        try with_reducible rfl
      (try simp only [Act.put, List.getElem_toArray, List.getElem_cons_succ, List.getElem_cons_zero, List.setIfInBounds_toArray, List.set_cons_zero, List.set_cons_succ])
      refine wpAnyH_done (by kernel_rfl) ?_ _
      have HC5 := Lib.hid (HC4.out.trans HF (by simp))
      have HFX := Lib.hid HF
      have HX5 := Lib.hid ((HF.block q (lt_of_block HX4.out) (by simp)).trans HX4.out)
      have HP5 := Lib.hid (HPL.out.chg HF (by simp))
      have HBS := Lib.hid (ownsRow_src HBO.out)
      go_upto_region 4 with (fail)
      refine wp_region_held_drew (S := fun w' => Chg [] xf w') (by kernel_rfl) (Chg.drewN [] xf 1) (fun Q0 => ?_)
      refine' tkH (i := 0) (v := _) rfl (Or.inl ⟨by rfl, ?hyu300⟩) Q0 ?restu300
      case hyu300 =>
        intro w' hSw
        have s1 := hSw
        go_simp
        try with_reducible rfl
      (try simp only [Act.put, List.getElem_toArray, List.getElem_cons_zero, List.setIfInBounds_toArray, List.set_cons_zero, List.set_cons_succ])
      refine' tkH (i := 1) (v := _) rfl (Or.inl ⟨by rfl, ?hyu301⟩) Q0 ?restu301
      case hyu301 =>
        intro w' hSw
        have s1 := hSw
        go_simp
        try with_reducible rfl
      (try simp only [Act.put, List.getElem_toArray, List.getElem_cons_succ, List.getElem_cons_zero, List.setIfInBounds_toArray, List.set_cons_zero, List.set_cons_succ])
      refine' tkH (i := 2) (v := _) rfl (Or.inl ⟨by rfl, ?hyu302⟩) Q0 ?restu302
      case hyu302 =>
        intro w' hSw
        have s1 := hSw
        go_simp
        try with_reducible rfl
      (try simp only [Act.put, List.getElem_toArray, List.getElem_cons_succ, List.getElem_cons_zero, List.setIfInBounds_toArray, List.set_cons_zero, List.set_cons_succ])
      refine' tkH (i := 3) (v := _) rfl (Or.inl ⟨by rfl, ?hyu303⟩) Q0 ?restu303
      case hyu303 =>
        intro w' hSw
        have s1 := hSw
        go_simp
        try with_reducible rfl
      (try simp only [Act.put, List.getElem_toArray, List.getElem_cons_succ, List.getElem_cons_zero, List.setIfInBounds_toArray, List.set_cons_zero, List.set_cons_succ])
      refine wpAnyH_ready (rs := [4]) (by kernel_rfl) (by simp) (AllReadyH.cons rfl (fun K hK => ?_) AllReadyH.nil)
      go_simp
      refine (KF.out _ (HC5.out.trans Q0 (by simp)) (HP5.out.chg Q0 (by simp))).mono ?_
      rintro e y4 ⟨rfl, Cy4⟩
      go_simp
      refine hK.out _ _ (Q0.trans Cy4 (by simp)) (fun HN1 => ?_)
      clear hK K
      refine' tkH (i := 5) (v := .bool true) rfl (Or.inl ⟨by rfl, ?hyu315⟩) HN1 ?restu315
      case hyu315 =>
        intro w' hSw
        have s1 := hSw
        go_simp
        try rfl
      (try simp only [Act.put, List.getElem_toArray, List.getElem_cons_succ, List.getElem_cons_zero, List.setIfInBounds_toArray, List.set_cons_zero, List.set_cons_succ])
      refine' tkH (i := 6) (v := _) rfl (Or.inl ⟨by rfl, ?hyu326⟩) HN1 ?restu326
      case hyu326 =>
        intro w' hSw
        have s1 := hSw
        go_simp
        try with_reducible rfl
      (try simp only [Act.put, List.getElem_toArray, List.getElem_cons_succ, List.getElem_cons_zero, List.setIfInBounds_toArray, List.set_cons_zero, List.set_cons_succ])
      refine' tkH (i := 7) (v := _) rfl (Or.inl ⟨by rfl, ?hyu327⟩) HN1 ?restu327
      case hyu327 =>
        intro w' hSw
        have s1 := hSw
        go_simp
        try with_reducible rfl
      (try simp only [Act.put, List.getElem_toArray, List.getElem_cons_succ, List.getElem_cons_zero, List.setIfInBounds_toArray, List.set_cons_zero, List.set_cons_succ])
      refine' tkH (i := 8) (v := _) rfl (Or.inl ⟨by rfl, ?hyu328⟩) HN1 ?restu328
      case hyu328 =>
        intro w' hSw
        have s1 := hSw
        go_simp
        try with_reducible rfl
      (try simp only [Act.put, List.getElem_toArray, List.getElem_cons_succ, List.getElem_cons_zero, List.setIfInBounds_toArray, List.set_cons_zero, List.set_cons_succ])
      refine' tkH (i := 9) (v := _) rfl (Or.inl ⟨by rfl, ?hyu329⟩) HN1 ?restu329
      case hyu329 =>
        intro w' hSw
        have s1 := hSw
        go_simp
        try with_reducible rfl
      (try simp only [Act.put, List.getElem_toArray, List.getElem_cons_succ, List.getElem_cons_zero, List.setIfInBounds_toArray, List.set_cons_zero, List.set_cons_succ])
      refine' tkH (i := 10) (v := _) rfl (Or.inl ⟨by rfl, ?hyu3210⟩) HN1 ?restu3210
      case hyu3210 =>
        intro w' hSw
        have s1 := hSw
        go_simp
        try with_reducible rfl
      (try simp only [Act.put, List.getElem_toArray, List.getElem_cons_succ, List.getElem_cons_zero, List.setIfInBounds_toArray, List.set_cons_zero, List.set_cons_succ])
      refine' tkH (i := 11) (v := _) rfl (Or.inl ⟨by rfl, ?hyu3211⟩) HN1 ?restu3211
      case hyu3211 =>
        intro w' hSw
        have s1 := hSw
        go_simp
        try with_reducible rfl
      (try simp only [Act.put, List.getElem_toArray, List.getElem_cons_succ, List.getElem_cons_zero, List.setIfInBounds_toArray, List.set_cons_zero, List.set_cons_succ])
      refine' tkH (i := 12) (v := _) rfl (Or.inl ⟨by rfl, ?hyu3212⟩) HN1 ?restu3212
      case hyu3212 =>
        intro w' hSw
        have s1 := hSw
        go_simp
        try with_reducible rfl
      (try simp only [Act.put, List.getElem_toArray, List.getElem_cons_succ, List.getElem_cons_zero, List.setIfInBounds_toArray, List.set_cons_zero, List.set_cons_succ])
      refine' tkH (i := 13) (v := _) rfl (Or.inl ⟨by rfl, ?hyu3213⟩) HN1 ?restu3213
      case hyu3213 =>
        intro w' hSw
        have s1 := hSw
        go_simp
        try with_reducible rfl
      (try simp only [Act.put, List.getElem_toArray, List.getElem_cons_succ, List.getElem_cons_zero, List.setIfInBounds_toArray, List.set_cons_zero, List.set_cons_succ])
      refine' tkH (i := 14) (v := _) rfl (Or.inl ⟨by rfl, ?hyu3214⟩) HN1 ?restu3214
      case hyu3214 =>
        intro w' hSw
        have s1 := hSw
        go_simp
        try with_reducible rfl
      (try simp only [Act.put, List.getElem_toArray, List.getElem_cons_succ, List.getElem_cons_zero, List.setIfInBounds_toArray, List.set_cons_zero, List.set_cons_succ])
      refine' tkH (i := 15) (v := _) rfl (Or.inl ⟨by rfl, ?hyu3215⟩) HN1 ?restu3215
      case hyu3215 =>
        intro w' hSw
        have s1 := hSw
        go_simp
        try with_reducible rfl
      (try simp only [Act.put, List.getElem_toArray, List.getElem_cons_succ, List.getElem_cons_zero, List.setIfInBounds_toArray, List.set_cons_zero, List.set_cons_succ])
      refine' tkH (i := 16) (v := _) rfl (Or.inl ⟨by rfl, ?hyu3216⟩) HN1 ?restu3216
      case hyu3216 =>
        intro w' hSw
        have s1 := hSw
        go_simp
        try with_reducible rfl
      (try simp only [Act.put, List.getElem_toArray, List.getElem_cons_succ, List.getElem_cons_zero, List.setIfInBounds_toArray, List.set_cons_zero, List.set_cons_succ])
      refine' tkH (i := 17) (v := _) rfl (Or.inl ⟨by rfl, ?hyu3217⟩) HN1 ?restu3217
      case hyu3217 =>
        intro w' hSw
        have s1 := hSw
        go_simp
        try with_reducible rfl
      (try simp only [Act.put, List.getElem_toArray, List.getElem_cons_succ, List.getElem_cons_zero, List.setIfInBounds_toArray, List.set_cons_zero, List.set_cons_succ])
      refine' tkH (i := 18) (v := .string ⟨m_given.toArray⟩) rfl (Or.inl ⟨by rfl, ?hyu3318⟩) HN1 ?restu3318
      case hyu3318 =>
        intro w' hSw
        have s1 := hSw
        have hl := run_str_of_bytes (P := Tryd.prog) w' 25 9 5 Tryd.underlying25 Tryd.underlying5 Tryd.underlying9 bo m_given.length bc m_given rfl (HBS.out.chg s1 (by simp))
        simp [execOp, Act.eval, hl, Result.andThen]
      (try simp only [Act.put, List.getElem_toArray, List.getElem_cons_succ, List.getElem_cons_zero, List.setIfInBounds_toArray, List.set_cons_zero, List.set_cons_succ])
      refine wpAnyH_ready (rs := [19]) (by kernel_rfl) (by simp) (AllReadyH.cons rfl (fun K hK => ?_) AllReadyH.nil)
      go_simp
      refine (KG.out _).mono ?_
      rintro e y5 ⟨gg, cg, rfl, _, hsg, _, _, C5⟩
      have HSG := Lib.hid hsg
      go_simp
      refine hK.out _ _ (HN1.trans C5 (by simp)) (fun HN5 => ?_)
      clear hK K hsg
      have HSG2 : Hid (∀ w', Chg [] y5 w' → Src w' (some ⟨gg, 0, none⟩) (bvs m_given)) := Lib.hid (fun w' C => HSG.out.chg C (by simp))
      refine wpAnyH_ready (rs := [20]) (by kernel_rfl) (by simp) (AllReadyH.cons rfl (fun K hK => ?_) AllReadyH.nil)
      have hl := run_str_of_bytes (P := Tryd.prog) y5 25 9 5 Tryd.underlying25 Tryd.underlying5 Tryd.underlying9 (some ⟨gg, 0, none⟩) m_given.length cg m_given rfl HSG.out
      go_simp
      refine hK.out _ _ HN5 (fun HN6 => ?_)
      clear hK K hl
      refine' tkH (i := 21) (v := .bool true) rfl (Or.inl ⟨by rfl, ?hyu3421⟩) HN6 ?restu3421
      case hyu3421 =>
        intro w' hSw
        have s1 := hSw
        go_simp
        try rfl
      (try simp only [Act.put, List.getElem_toArray, List.getElem_cons_succ, List.getElem_cons_zero, List.setIfInBounds_toArray, List.set_cons_zero, List.set_cons_succ])
      refine' tkH (i := 22) (v := _) rfl (Or.inl ⟨by rfl, ?hyu3522⟩) HN6 ?restu3522
      case hyu3522 =>
        intro w' hSw
        have s1 := hSw
        go_simp
        try with_reducible rfl
      (try simp only [Act.put, List.getElem_toArray, List.getElem_cons_succ, List.getElem_cons_zero, List.setIfInBounds_toArray, List.set_cons_zero, List.set_cons_succ])
      refine' tkH (i := 23) (v := _) rfl (Or.inl ⟨by rfl, ?hyu3523⟩) HN6 ?restu3523
      case hyu3523 =>
        intro w' hSw
        have s1 := hSw
        go_simp
        try with_reducible rfl
      (try simp only [Act.put, List.getElem_toArray, List.getElem_cons_succ, List.getElem_cons_zero, List.setIfInBounds_toArray, List.set_cons_zero, List.set_cons_succ])
      refine' tkH (i := 24) (v := .agg RC) rfl (Or.inl ⟨by rfl, ?hyu3624⟩) HN6 ?restu3624
      case hyu3624 =>
        intro w' hSw
        have s1 := hSw
        have hl := run_loadAt_rec w' q RC _ ((s1.block q (lt_of_block HX5.out) (by simp)).trans HX5.out) HRS.out
        simp [execOp, Act.eval, hl, Result.andThen]
      (try simp only [Act.put, List.getElem_toArray, List.getElem_cons_succ, List.getElem_cons_zero, List.setIfInBounds_toArray, List.set_cons_zero, List.set_cons_succ])
      refine wpAnyH_ready (rs := [25]) (by kernel_rfl) (by simp) (AllReadyH.cons rfl (fun K hK => ?_) AllReadyH.nil)
      go_simp
      refine (KL.out _ (HC5.out.trans HN6 (by simp)) (HFX.out.trans HN6 (by simp))).mono ?_
      rintro e y6 ⟨rfl, Cy6⟩
      go_simp
      refine hK.out _ _ (HN6.trans Cy6 (by simp)) (fun HN2 => ?_)
      clear hK K
      refine' tkH (i := 26) (v := _) rfl (Or.inl ⟨by rfl, ?hyu3726⟩) HN2 ?restu3726
      case hyu3726 =>
        intro w' hSw
        have s1 := hSw
        go_simp
        try with_reducible rfl
      (try simp only [Act.put, List.getElem_toArray, List.getElem_cons_succ, List.getElem_cons_zero, List.setIfInBounds_toArray, List.set_cons_zero, List.set_cons_succ])
      refine' tkH (i := 27) (v := _) rfl (Or.inl ⟨by rfl, ?hyu3727⟩) HN2 ?restu3727
      case hyu3727 =>
        intro w' hSw
        have s1 := hSw
        go_simp
        try with_reducible rfl
      (try simp only [Act.put, List.getElem_toArray, List.getElem_cons_succ, List.getElem_cons_zero, List.setIfInBounds_toArray, List.set_cons_zero, List.set_cons_succ])
      refine' tkH (i := 28) (v := _) rfl (Or.inl ⟨by rfl, ?hyu3828⟩) HN2 ?restu3828
      case hyu3828 =>
        intro w' hSw
        have s1 := hSw
        go_simp
        try with_reducible rfl
      refine wpAnyH_done (by kernel_rfl) ?_ _
      have HCF := Lib.hid (HC5.out.trans HN2 (by simp))
      go_wp2_with fail
      go_ret
      exact ⟨rfl, HCF.out⟩
end Go.Proofs.YtfdhpjflkimihaaDoor
/- The law's finders, walked. No conditions beyond those that each statement types. -/
namespace Go.Proofs.YtfdhpjflkimihaaDoor
open Go.RowKit

/-- A file of the law's. -/
structure FileV where
  name : ByteArray
  ao : Option Addr
  xs : List UInt8
  cap : Nat
def FileV.cells (f : FileV) : Array Value := #[.string f.name, .slice f.ao f.xs.length f.cap]
def fvs (l : List FileV) : List Value := l.flatMap fun f => f.cells.toList
theorem fvs_len (l : List FileV) : (fvs l).length = l.length * 2 := flat_length (enc := fun f : FileV => f.cells.toList) (size := 2) (fun _ => rfl) l
structure FilesAt (w : World) (so : Option Addr) (c : Nat) (L : List FileV) : Prop where
  src : Src w so (fvs L)
  cap : L.length ≤ c
  at_ : ∀ (k : Nat) (f : FileV), L[k]? = some f → PV w [] (.slice f.ao f.xs.length f.cap) f.xs ∧ f.xs.length ≤ 9223372036854775807
theorem FilesAt.chg {w w' : World} {so : Option Addr} {c : Nat} {L : List FileV} (h : FilesAt w so c L) (C : Chg [] w w') : FilesAt w' so c L :=
  ⟨h.src.chg C (by simp), h.cap, fun k f hf => ⟨(h.at_ k f hf).1.chg C (by simp), (h.at_ k f hf).2⟩⟩
def PutTo21 (w : World) (b : Nat) (F' : Files) (S : List Nat) (e : Ending) (w' : World) : Prop :=
  (∃ r, e = .returned (.int .i64 r)) ∧ ∃ S', FinderAt w' b F' S' ∧ Chg S w w' ∧ ∀ k ∈ S', k ∈ S ∨ w.heap.size ≤ k
def putF (F : Files) (f : FileV) : Files := if f.xs.length ≤ 4096 then Fadd F f.name f.xs else F
def putR (R : Files) (f : FileV) : Files := if f.xs.length ≤ 4096 then insF (Fdel R f.name) (f.name, f.xs) else R
def filesF (L : List FileV) : Files := L.foldl putF []
def filesR (L : List FileV) : Files := L.foldl putR []
theorem filesF_next {L : List FileV} {k : Nat} {f : FileV} (h : L[k]? = some f) : filesF (L.take (k + 1)) = putF (filesF (L.take k)) f := by unfold filesF; rw [take_nextE h, List.foldl_append]; rfl
theorem filesR_next {L : List FileV} {k : Nat} {f : FileV} (h : L[k]? = some f) : filesR (L.take (k + 1)) = putR (filesR (L.take k)) f := by unfold filesR; rw [take_nextE h, List.foldl_append]; rfl
theorem putF_same {F R : Files} (f : FileV) (h : SameF F R) : SameF (putF F f) (putR R f) := by
  unfold putF putR
  split
  · exact h.add _ _
  · exact h
theorem putF_len (F : Files) (f : FileV) : (putF F f).length ≤ F.length + 1 := by
  unfold putF
  split
  · exact Fadd_len _ _ _
  · exact Nat.le_succ _
theorem filesF_len (L : List FileV) : ∀ k, (filesF (L.take k)).length ≤ k := by
  intro k
  induction k with
  | zero => exact Nat.le_refl _
  | succ k ih =>
    cases h : L[k]? with
    | none =>
      have hl := List.getElem?_eq_none_iff.1 h
      rw [List.take_of_length_le (by omega)] at ih ⊢
      omega
    | some f =>
      rw [filesF_next h]
      exact Nat.le_trans (putF_len _ _) (Nat.succ_le_succ ih)
/-- A file is put into each finder. -/
theorem blk_file (b : Nat) (F : Files) (S : List Nat) (f : FileV) (w : World) (hL : Laid w) (H : FinderAt w b F S) (hFl : F.length ≤ 29000) (hp : PV w S (.slice f.ao f.xs.length f.cap) f.xs) :
    Calls Tryd.prog 31 #[.pointer (some ⟨b, 0, none⟩), .string f.name, .slice f.ao f.xs.length f.cap] w (PutTo21 w b (putF F f) S) := by
  obtain ⟨po, pc, e, h1, h2, h3, h4⟩ := hp
  cases e
  by_cases h : f.xs.length ≤ 4096
  · have hp : putF F f = Fadd F f.name f.xs := by unfold putF; rw [if_pos h]
    rw [hp]
    exact (blk_addN b F S f.name f.xs f.ao f.cap w hL H hFl h1 h2 h3 (fun hp a ha => (h4 hp a ha).1) h).mono fun e w' ⟨he, hr⟩ => ⟨⟨_, he⟩, hr⟩
  · have hp : putF F f = F := by unfold putF; rw [if_neg h]
    rw [hp]
    exact (blk_add_long b F S f.name f.xs f.ao f.cap w hL H h1 h2 (by omega)).mono fun e w' ⟨he, hr⟩ => ⟨⟨_, he⟩, hr⟩
def PutToR (w : World) (b : Nat) (R' : Files) (T : List Nat) (e : Ending) (w' : World) : Prop := (∃ r, e = .returned (.int .i64 r)) ∧ RefTo w b R' T w'
theorem ref_file (b : Nat) (R : Files) (T : List Nat) (f : FileV) (w : World) (H : RefIs w b R T) (hl : R.length ≤ 999) (hp : PV w [b] (.slice f.ao f.xs.length f.cap) f.xs) (hm : f.xs.length ≤ 9223372036854775807) :
    Calls Tryd.prog 32 #[.pointer (some ⟨b, 0, none⟩), .string f.name, .slice f.ao f.xs.length f.cap] w (PutToR w b (putR R f) T) := by
  obtain ⟨po, pc, e, h1, h2, h3, h4⟩ := hp
  cases e
  by_cases h : f.xs.length ≤ 4096
  · have hp : putR R f = insF (Fdel R f.name) (f.name, f.xs) := by unfold putR; rw [if_pos h]
    rw [hp]
    exact (ref_addN b R f.name f.xs f.ao f.cap T w H h1 h2 h3 h hl (fun hp a ha hb => (h4 hp a ha).1 (by rw [hb]; exact List.mem_cons_self))).mono fun e w' ⟨he, hr⟩ => ⟨⟨_, he⟩, hr⟩
  · have hp : putR R f = R := by unfold putR; rw [if_neg h]
    rw [hp]
    exact (ref_add_long b R f.name f.xs f.ao f.cap T w H h1 h2 (by omega) hm).mono fun e w' ⟨he, hr, C⟩ => ⟨⟨_, he⟩, T, hr, C.mono (by simp), fun k hk => .inl hk⟩
/-- The two finders. -/
def Finders (w : World) (L : List FileV) (e : Ending) (w' : World) : Prop :=
  ∃ b bg S T, e = .returned (.tuple #[.pointer (some ⟨b, 0, none⟩), .pointer (some ⟨bg, 0, none⟩)]) ∧ FindSt w w' b bg (filesF L) (filesR L) S T
set_option maxRecDepth 100000 in
set_option maxHeartbeats 4000000 in
theorem law_finders21 (L : List FileV) (so : Option Addr) (c : Nat) (w : World) (hL : Laid w) (H : FilesAt w so c L) (hl : L.length ≤ 10) :
    Calls Tryd.prog 43 #[.slice so L.length c] w (Finders w L) := by
  have HST := Lib.hid (fun (k : Nat) (f : FileV) (h : L[k]? = some f) (wr : World) (C : Chg [] w wr) => show ∃ a, so = some a ∧ wr.cell? (a.add (k * 2)) = some (.string f.name) ∧ wr.cell? ⟨(a.add (k * 2)).block, (a.add (k * 2)).off + 1, none⟩ = some (.slice f.ao f.xs.length f.cap) from by
    have h1 := (List.getElem?_eq_some_iff.1 h).1
    obtain ⟨a, rfl, _⟩ := H.src.lt (by rw [fvs_len]; omega)
    have hc0 := src_flat (w := wr) (a := a) (cells := fun s : FileV => s.cells.toList) (size := 2) (fun _ => rfl) ((H.src.chg C (by simp)).cell a rfl) h 0 (.string f.name) rfl
    have hc1 := src_flat (w := wr) (a := a) (cells := fun s : FileV => s.cells.toList) (size := 2) (fun _ => rfl) ((H.src.chg C (by simp)).cell a rfl) h 1 (.slice f.ao f.xs.length f.cap) rfl
    exact ⟨a, rfl, hc0, hc1⟩)
  have HPV := Lib.hid (fun (k : Nat) (f : FileV) (h : L[k]? = some f) (wr : World) (C : Chg [] w wr) (X : List Nat) (hX : ∀ j ∈ X, w.heap.size ≤ j) => show PV wr X (.slice f.ao f.xs.length f.cap) f.xs from ((H.at_ k f h).1.grow (fun j hj => .inr (hX j hj))).chg C (by simp))
  have HMX := Lib.hid (fun (k : Nat) (f : FileV) (h : L[k]? = some f) => (H.at_ k f h).2)
  have HGE := Lib.hid (fun k (hk : k < L.length) => show ∃ s, L[k]? = some s from ⟨_, List.getElem?_eq_getElem hk⟩)
  have HTA : Hid (L.take L.length = L) := Lib.hid List.take_length
  have HFL := Lib.hid (filesF_len L)
  have HL := Lib.hid hL
  have hlc := H.cap
  obtain ⟨n, hn⟩ : ∃ n, L.length = n := ⟨_, rfl⟩
  rw [hn] at hl hlc HGE HTA ⊢
  clear H hL hn
  go_enter Tryd.func43, Tryd.ntmps43
  go_wp2_with fail
  refine (blk_new w).mono ?_
  rintro e w1 ⟨b, S, rfl, H1, hS, C1⟩
  have HR := ref_new w1
  have CA := Chg.alloc [] w1 (.cells #[.slice none 0 0] 48)
  have HF0 : Hid (FindSt w (w1.alloc (.cells #[.slice none 0 0] 48)) b w1.heap.size [] [] S [w1.heap.size]) := Lib.hid ⟨H1.chg CA (by simp), HR, sameF_nil, fun k hk hm => by
    have h1 := H1.ltS k hk
    rw [List.mem_singleton] at hm
    omega, hS, fun k hk => by rw [List.mem_singleton.1 hk]; exact C1.size, C1.trans CA (by simp)⟩
  clear HR CA H1 hS C1
  go_upto_region 2 with (fail)
  obtain ⟨bg, hbg⟩ : ∃ bg, w1.heap.size = bg := ⟨_, rfl⟩
  rw [hbg] at HF0 ⊢
  generalize w1.alloc (.cells #[.slice none 0 0] 48) = w2 at *
  clear hbg
  have HF0' : Hid (FindSt w w2 b bg (filesF (L.take 0)) (filesR (L.take 0)) S [bg]) := HF0
  clear HF0
  go_wp2_with fail
  go_loopw [6] (fun v6 wr => ∃ (k : Nat) (S T : List Nat), v6 = .int .i64 (k : Int) ∧ k ≤ n ∧ Hid (FindSt w wr b bg (filesF (L.take k)) (filesR (L.take k)) S T)) (fun v _ => n - (intOf v).toNat)
  case atStart => exact ⟨0, S, [bg], rfl, Nat.zero_le _, HF0'⟩
  case round =>
    obtain ⟨k, S, T, rfl, hk, HF⟩ := hrel
    clear HF0'
    by_cases hlt : k < n
    · have e1 : (k : Int) < n := Int.ofNat_lt.2 hlt
      have e0 : (0 : Int) ≤ k := Int.natCast_nonneg _
      have hkc : k < c := by omega
      obtain ⟨f, hf⟩ := HGE.out k hlt
      obtain ⟨a, rfl, _, _⟩ := HST.out k f hf wr HF.out.chg
      have HNF := Lib.hid (filesF_next hf)
      have HNR := Lib.hid (filesR_next hf)
      have HCS : Hid (∀ w', Chg S wr w' → Chg [] w w') := Lib.hid (fun w' C => HF.out.chg.trans C (fun j hj => .inr (HF.out.newS j hj)))
      have HCN : Hid (∀ w', Chg S wr w' → w'.cell? (a.add (k * 2)) = some (.string f.name)) := Lib.hid (fun w' C => by
        obtain ⟨a2, h1, h2, _⟩ := HST.out k f hf w' (HCS.out w' C)
        cases h1
        exact h2)
      have HCD : Hid (∀ w', Chg S wr w' → w'.cell? ⟨(a.add (k * 2)).block, (a.add (k * 2)).off + 1, none⟩ = some (.slice f.ao f.xs.length f.cap)) := Lib.hid (fun w' C => by
        obtain ⟨a2, h1, _, h2⟩ := HST.out k f hf w' (HCS.out w' C)
        cases h1
        exact h2)
      have HSB : Hid (∀ j ∈ [bg], w.heap.size ≤ j) := Lib.hid (fun j hj => by rw [List.mem_singleton.1 hj]; exact HF.out.newT _ HF.out.ref.own)
      have HCN3 : Hid (∀ w', Chg [] w w' → w'.cell? (a.add (k * 2)) = some (.string f.name)) := Lib.hid (fun w' C => by
        obtain ⟨a2, h1, h2, _⟩ := HST.out k f hf w' C
        cases h1
        exact h2)
      have HCD3 : Hid (∀ w', Chg [] w w' → w'.cell? ⟨(a.add (k * 2)).block, (a.add (k * 2)).off + 1, none⟩ = some (.slice f.ao f.xs.length f.cap)) := Lib.hid (fun w' C => by
        obtain ⟨a2, h1, _, h2⟩ := HST.out k f hf w' C
        cases h1
        exact h2)
      have hlen := HFL.out k
      have K1 := Lib.hid (blk_file b (filesF (L.take k)) S f wr.drew (HL.out.chg (HF.out.chg.trans (Chg.drewN [] wr 1) (by simp)) (by simp)) (HF.out.fin.chg (Chg.drewN [] wr 1) (by simp)) (by omega) (HPV.out k f hf wr.drew (HF.out.chg.trans (Chg.drewN [] wr 1) (by simp)) S HF.out.newS))
      have K2 := Lib.hid (fun (w' : World) (T' : List Nat) (R : Files) (hR : RefIs w' bg R T') (hl : R.length ≤ 999) (C : Chg [] w w') => ref_file bg R T' f w' hR hl (HPV.out k f hf w' C [bg] (fun j hj => by rw [List.mem_singleton.1 hj]; exact HF.out.newT _ HF.out.ref.own)) (HMX.out k f hf))
      have HRL : Hid ((filesR (L.take k)).length ≤ 999) := Lib.hid (by have := HF.out.same.length; omega)
      have HSM := Lib.hid (putF_same f HF.out.same)
      generalize f.xs.length = fl at *
      generalize f.ao = fa at *
      generalize f.cap = fc at *
      generalize f.name = fn at *
      clear hlen
      go_upto_region 5 with (fail)
      refine wp_region_held_drew (S := fun w' => Chg S wr w') (by kernel_rfl) ((Chg.drewN S wr 1)) (fun H0 => ?_)
      refine' tkH (i := 0) (v := _) rfl (Or.inl ⟨by rfl, ?hya0⟩) H0 ?resta0
      case hya0 =>
        intro w' hSw
        have s1 := hSw
        go_simp
        try with_reducible rfl
      (try simp only [Act.put, List.getElem_toArray, List.getElem_cons_zero, List.setIfInBounds_toArray, List.set_cons_zero, List.set_cons_succ])
      refine' tkH (i := 1) (v := _) rfl (Or.inl ⟨by rfl, ?hya1⟩) H0 ?resta1
      case hya1 =>
        intro w' hSw
        have s1 := hSw
        go_simp
        try with_reducible rfl
      (try simp only [Act.put, List.getElem_toArray, List.getElem_cons_succ, List.getElem_cons_zero, List.setIfInBounds_toArray, List.set_cons_zero, List.set_cons_succ])
      refine' tkH (i := 2) (v := _) rfl (Or.inl ⟨by rfl, ?hya2⟩) H0 ?resta2
      case hya2 =>
        intro w' hSw
        have s1 := hSw
        go_simp
        try with_reducible rfl
      (try simp only [Act.put, List.getElem_toArray, List.getElem_cons_succ, List.getElem_cons_zero, List.setIfInBounds_toArray, List.set_cons_zero, List.set_cons_succ])
      refine' tkH (i := 3) (v := _) rfl (Or.inl ⟨by rfl, ?hya3⟩) H0 ?resta3
      case hya3 =>
        intro w' hSw
        have s1 := hSw
        go_simp
        try with_reducible rfl
      (try simp only [Act.put, List.getElem_toArray, List.getElem_cons_succ, List.getElem_cons_zero, List.setIfInBounds_toArray, List.set_cons_zero, List.set_cons_succ])
      refine' tkH (i := 4) (v := _) rfl (Or.inl ⟨by rfl, ?hya4⟩) H0 ?resta4
      case hya4 =>
        intro w' hSw
        have s1 := hSw
        go_simp
        try with_reducible rfl
      (try simp only [Act.put, List.getElem_toArray, List.getElem_cons_succ, List.getElem_cons_zero, List.setIfInBounds_toArray, List.set_cons_zero, List.set_cons_succ])
      refine' tkH (i := 5) (v := _) rfl (Or.inl ⟨by rfl, ?hya5⟩) H0 ?resta5
      case hya5 =>
        intro w' hSw
        have s1 := hSw
        have hc := (show w'.cell? (a.add (k * 2)) = some (.string fn) from HCN.out w' s1)
        go_simp
        try with_reducible rfl
      (try simp only [Act.put, List.getElem_toArray, List.getElem_cons_succ, List.getElem_cons_zero, List.setIfInBounds_toArray, List.set_cons_zero, List.set_cons_succ])
      refine' tkH (i := 6) (v := _) rfl (Or.inl ⟨by rfl, ?hya6⟩) H0 ?resta6
      case hya6 =>
        intro w' hSw
        have s1 := hSw
        go_simp
        try with_reducible rfl
      (try simp only [Act.put, List.getElem_toArray, List.getElem_cons_succ, List.getElem_cons_zero, List.setIfInBounds_toArray, List.set_cons_zero, List.set_cons_succ])
      refine' tkH (i := 7) (v := _) rfl (Or.inl ⟨by rfl, ?hya7⟩) H0 ?resta7
      case hya7 =>
        intro w' hSw
        have s1 := hSw
        go_simp
        try with_reducible rfl
      (try simp only [Act.put, List.getElem_toArray, List.getElem_cons_succ, List.getElem_cons_zero, List.setIfInBounds_toArray, List.set_cons_zero, List.set_cons_succ])
      refine' tkH (i := 8) (v := _) rfl (Or.inl ⟨by rfl, ?hya8⟩) H0 ?resta8
      case hya8 =>
        intro w' hSw
        have s1 := hSw
        go_simp
        try with_reducible rfl
      (try simp only [Act.put, List.getElem_toArray, List.getElem_cons_succ, List.getElem_cons_zero, List.setIfInBounds_toArray, List.set_cons_zero, List.set_cons_succ])
      refine' tkH (i := 9) (v := _) rfl (Or.inl ⟨by rfl, ?hya9⟩) H0 ?resta9
      case hya9 =>
        intro w' hSw
        have s1 := hSw
        go_simp
        try with_reducible rfl
      (try simp only [Act.put, List.getElem_toArray, List.getElem_cons_succ, List.getElem_cons_zero, List.setIfInBounds_toArray, List.set_cons_zero, List.set_cons_succ])
      refine' tkH (i := 10) (v := _) rfl (Or.inl ⟨by rfl, ?hya10⟩) H0 ?resta10
      case hya10 =>
        intro w' hSw
        have s1 := hSw
        have hc := (show w'.cell? ⟨(a.add (k * 2)).block, (a.add (k * 2)).off + 1, none⟩ = some (.slice fa fl fc) from HCD.out w' s1)
        go_simp
        try with_reducible rfl
      (try simp only [Act.put, List.getElem_toArray, List.getElem_cons_succ, List.getElem_cons_zero, List.setIfInBounds_toArray, List.set_cons_zero, List.set_cons_succ])
      refine wpAnyH_ready (rs := [11]) (by kernel_rfl) (by simp) (AllReadyH.cons rfl (fun K hK => ?_) AllReadyH.nil)
      go_simp
      refine K1.out.mono ?_
      rintro e w5 ⟨⟨rv, rfl⟩, S5, hF5, C5, g5⟩
      have HF5 := Lib.hid hF5
      have HC5 := Lib.hid (show Chg S wr w5 from (Chg.drewN S wr 1).trans C5 (fun j hj => .inl hj))
      have HG5 := Lib.hid (show ∀ j ∈ S5, j ∈ S ∨ wr.heap.size ≤ j from g5)
      go_simp
      refine hK.out _ _ HC5.out (fun H1 => ?_)
      clear hK K hF5 C5 g5
      refine wpAnyH_done (by kernel_rfl) ?_ _
      have HWS := Lib.hid (HCS.out w5 HC5.out)
      have HCN2 := Lib.hid (fun (w' : World) (C : Chg [bg] w5 w') => HCN3.out w' (HWS.out.trans C (fun j hj => .inr (HSB.out j hj))))
      have HCD2 := Lib.hid (fun (w' : World) (C : Chg [bg] w5 w') => HCD3.out w' (HWS.out.trans C (fun j hj => .inr (HSB.out j hj))))
      have K3 := Lib.hid (K2.out w5.drew T (filesR (L.take k)) ((HF.out.ref.chg HC5.out (fun j hj hm => HF.out.apart j hm hj)).chg (Chg.drewN [] w5 1) (by simp)) HRL.out (HWS.out.trans (Chg.drewN [] w5 1) (by simp)))
      clear H0 H1 K1 K2 HCN HCD HCN3 HCD3 HRL
      go_upto_region 6 with (fail)
      refine wp_region_held_drew (S := fun w' => Chg [bg] w5 w') (by kernel_rfl) ((Chg.drewN [bg] w5 1)) (fun H0 => ?_)
      refine' tkH (i := 0) (v := _) rfl (Or.inl ⟨by rfl, ?hyb0⟩) H0 ?restb0
      case hyb0 =>
        intro w' hSw
        have s1 := hSw
        go_simp
        try with_reducible rfl
      (try simp only [Act.put, List.getElem_toArray, List.getElem_cons_zero, List.setIfInBounds_toArray, List.set_cons_zero, List.set_cons_succ])
      refine' tkH (i := 1) (v := _) rfl (Or.inl ⟨by rfl, ?hyb1⟩) H0 ?restb1
      case hyb1 =>
        intro w' hSw
        have s1 := hSw
        go_simp
        try with_reducible rfl
      (try simp only [Act.put, List.getElem_toArray, List.getElem_cons_succ, List.getElem_cons_zero, List.setIfInBounds_toArray, List.set_cons_zero, List.set_cons_succ])
      refine' tkH (i := 2) (v := _) rfl (Or.inl ⟨by rfl, ?hyb2⟩) H0 ?restb2
      case hyb2 =>
        intro w' hSw
        have s1 := hSw
        go_simp
        try with_reducible rfl
      (try simp only [Act.put, List.getElem_toArray, List.getElem_cons_succ, List.getElem_cons_zero, List.setIfInBounds_toArray, List.set_cons_zero, List.set_cons_succ])
      refine' tkH (i := 3) (v := _) rfl (Or.inl ⟨by rfl, ?hyb3⟩) H0 ?restb3
      case hyb3 =>
        intro w' hSw
        have s1 := hSw
        go_simp
        try with_reducible rfl
      (try simp only [Act.put, List.getElem_toArray, List.getElem_cons_succ, List.getElem_cons_zero, List.setIfInBounds_toArray, List.set_cons_zero, List.set_cons_succ])
      refine' tkH (i := 4) (v := _) rfl (Or.inl ⟨by rfl, ?hyb4⟩) H0 ?restb4
      case hyb4 =>
        intro w' hSw
        have s1 := hSw
        go_simp
        try with_reducible rfl
      (try simp only [Act.put, List.getElem_toArray, List.getElem_cons_succ, List.getElem_cons_zero, List.setIfInBounds_toArray, List.set_cons_zero, List.set_cons_succ])
      refine' tkH (i := 5) (v := _) rfl (Or.inl ⟨by rfl, ?hyb5⟩) H0 ?restb5
      case hyb5 =>
        intro w' hSw
        have s1 := hSw
        have hc := (show w'.cell? (a.add (k * 2)) = some (.string fn) from HCN2.out w' s1)
        go_simp
        try with_reducible rfl
      (try simp only [Act.put, List.getElem_toArray, List.getElem_cons_succ, List.getElem_cons_zero, List.setIfInBounds_toArray, List.set_cons_zero, List.set_cons_succ])
      refine' tkH (i := 6) (v := _) rfl (Or.inl ⟨by rfl, ?hyb6⟩) H0 ?restb6
      case hyb6 =>
        intro w' hSw
        have s1 := hSw
        go_simp
        try with_reducible rfl
      (try simp only [Act.put, List.getElem_toArray, List.getElem_cons_succ, List.getElem_cons_zero, List.setIfInBounds_toArray, List.set_cons_zero, List.set_cons_succ])
      refine' tkH (i := 7) (v := _) rfl (Or.inl ⟨by rfl, ?hyb7⟩) H0 ?restb7
      case hyb7 =>
        intro w' hSw
        have s1 := hSw
        go_simp
        try with_reducible rfl
      (try simp only [Act.put, List.getElem_toArray, List.getElem_cons_succ, List.getElem_cons_zero, List.setIfInBounds_toArray, List.set_cons_zero, List.set_cons_succ])
      refine' tkH (i := 8) (v := _) rfl (Or.inl ⟨by rfl, ?hyb8⟩) H0 ?restb8
      case hyb8 =>
        intro w' hSw
        have s1 := hSw
        go_simp
        try with_reducible rfl
      (try simp only [Act.put, List.getElem_toArray, List.getElem_cons_succ, List.getElem_cons_zero, List.setIfInBounds_toArray, List.set_cons_zero, List.set_cons_succ])
      refine' tkH (i := 9) (v := _) rfl (Or.inl ⟨by rfl, ?hyb9⟩) H0 ?restb9
      case hyb9 =>
        intro w' hSw
        have s1 := hSw
        go_simp
        try with_reducible rfl
      (try simp only [Act.put, List.getElem_toArray, List.getElem_cons_succ, List.getElem_cons_zero, List.setIfInBounds_toArray, List.set_cons_zero, List.set_cons_succ])
      refine' tkH (i := 10) (v := _) rfl (Or.inl ⟨by rfl, ?hyb10⟩) H0 ?restb10
      case hyb10 =>
        intro w' hSw
        have s1 := hSw
        have hc := (show w'.cell? ⟨(a.add (k * 2)).block, (a.add (k * 2)).off + 1, none⟩ = some (.slice fa fl fc) from HCD2.out w' s1)
        go_simp
        try with_reducible rfl
      (try simp only [Act.put, List.getElem_toArray, List.getElem_cons_succ, List.getElem_cons_zero, List.setIfInBounds_toArray, List.set_cons_zero, List.set_cons_succ])
      refine wpAnyH_ready (rs := [11]) (by kernel_rfl) (by simp) (AllReadyH.cons rfl (fun K hK => ?_) AllReadyH.nil)
      go_simp
      refine K3.out.mono ?_
      rintro e w6 ⟨⟨rv6, rfl⟩, hT6⟩
      have HT6 := Lib.hid hT6
      have HC6 := Lib.hid (show Chg [bg] w5 w6 by
        obtain ⟨_, _, C, _⟩ := hT6
        exact (Chg.drewN [bg] w5 1).trans C (fun j hj => .inl hj))
      go_simp
      refine hK.out _ _ HC6.out (fun H1 => ?_)
      clear hK K hT6
      refine wpAnyH_done (by kernel_rfl) ?_ _
      obtain ⟨T', hFS, _⟩ := HF.out.both (HF5.out.chg (Chg.drewN [] w5 1) (by simp)) (HC5.out.trans (Chg.drewN [] w5 1) (by simp)) HG5.out HT6.out HSM.out
      have HFN : Hid (FindSt w w6 b bg (filesF (L.take (k + 1))) (filesR (L.take (k + 1))) S5 T') := Lib.hid (by rw [HNF.out, HNR.out]; exact hFS)
      clear H0 H1 hFS HF HF5 HC5 HG5 HT6 HSM HC6 HCN2 HCD2 K3
      go_wp2_with fail
      go_roundw
      case rel => exact ⟨k + 1, S5, T', by go_num, hlt, HFN⟩
      case measure => simp [intOf] <;> omega
    · have e1 : ¬ (k : Int) < n := fun h => hlt (Int.ofNat_lt.1 h)
      have hkn : k = n := by omega
      have HFE : Hid (FindSt w wr b bg (filesF L) (filesR L) S T) := Lib.hid (by
        have := HF.out
        rw [hkn, HTA.out] at this
        exact this)
      clear HF hkn
      go_wp2_with fail
      go_ret2
      exact ⟨b, bg, S, T, rfl, HFE.out⟩
end Go.Proofs.YtfdhpjflkimihaaDoor
/- The law's large, walked. No conditions beyond those that each statement types. -/
namespace Go.Proofs.YtfdhpjflkimihaaDoor
open Go.RowKit

theorem iw (x : Int) : IntKind.i64.wrap x = wrap64 x := by rw [IntKind.wrap_i64]; unfold wrap64; omega
def sumF (z : Int) (L : List FileV) : Nat → Int
  | 0 => z
  | k + 1 => match L[k]? with
    | some f => wrap64 (wrap64 (sumF z L k + (f.xs.length : Int)) + (f.name.size : Int))
    | none => sumF z L k
def sumG (z : Int) (G : List GotV) : Nat → Int
  | 0 => z
  | k + 1 => match G[k]? with
    | some g => wrap64 (sumG z G k + (g.xs.length : Int))
    | none => sumG z G k
theorem sumF_next {z : Int} {L : List FileV} {k : Nat} {f : FileV} (h : L[k]? = some f) : sumF z L (k + 1) = wrap64 (wrap64 (sumF z L k + (f.xs.length : Int)) + (f.name.size : Int)) := by rw [sumF, h]
theorem sumG_next {z : Int} {G : List GotV} {k : Nat} {g : GotV} (h : G[k]? = some g) : sumG z G (k + 1) = wrap64 (sumG z G k + (g.xs.length : Int)) := by rw [sumG, h]
/-- What large answers. -/
def largeB (nb tn ln : Nat) (L : List FileV) (G : List GotV) : Bool :=
  decide (10 < L.length) || decide (20000 < sumG (sumF tn L (min L.length 20)) G (min G.length 60)) || decide (50 < nb) || decide (50 < ln) || decide (50 < G.length)
theorem largeB_no {nb tn ln : Nat} {L : List FileV} {G : List GotV} (h : largeB nb tn ln L G = false) : L.length ≤ 10 ∧ sumG (sumF tn L (min L.length 20)) G (min G.length 60) ≤ 20000 ∧ nb ≤ 50 ∧ ln ≤ 50 ∧ G.length ≤ 50 := by
  unfold largeB at h
  simp only [Bool.or_eq_false_iff, decide_eq_false_iff_not] at h
  omega
set_option maxRecDepth 100000 in
set_option maxHeartbeats 4000000 in
theorem law_large21 (RC : Array Value) (r : RecV) (ao : Option Addr) (rc : Nat) (L : List FileV) (so : Option Addr) (c : Nat) (ta : Option Addr) (tn tc : Nat) (lo : Option Addr) (ln lc : Nat) (G : List GotV) (go : Option Addr) (gc : Nat) (w : World)
    (H : RecIs w RC r ao rc) (HL : Src w so (fvs L)) (hLc : L.length ≤ c) (HG : Src w go (gvs G)) (hGc : G.length ≤ gc) :
    Calls Tryd.prog 40 #[.agg RC, .slice so L.length c, .slice ta tn tc, .slice lo ln lc, .slice go G.length gc] w fun e w' => e = .returned (.bool (largeB r.L.length tn ln L G)) ∧ Chg [] w w' := by
  have hx0 := heap_alloc_new w (.cells RC 77)
  have C0 := Chg.alloc [] w (.cells RC 77)
  have HST := Lib.hid (fun (k : Nat) (f : FileV) (h : L[k]? = some f) (wr : World) (C : Chg [] w wr) => show ∃ a, so = some a ∧ wr.cell? (a.add (k * 2)) = some (.string f.name) ∧ wr.cell? ⟨(a.add (k * 2)).block, (a.add (k * 2)).off + 1, none⟩ = some (.slice f.ao f.xs.length f.cap) from by
    have h1 := (List.getElem?_eq_some_iff.1 h).1
    obtain ⟨a, rfl, _⟩ := HL.lt (by rw [fvs_len]; omega)
    have hc0 := src_flat (w := wr) (a := a) (cells := fun s : FileV => s.cells.toList) (size := 2) (fun _ => rfl) ((HL.chg C (by simp)).cell a rfl) h 0 (.string f.name) rfl
    have hc1 := src_flat (w := wr) (a := a) (cells := fun s : FileV => s.cells.toList) (size := 2) (fun _ => rfl) ((HL.chg C (by simp)).cell a rfl) h 1 (.slice f.ao f.xs.length f.cap) rfl
    exact ⟨a, rfl, hc0, hc1⟩)
  have HSG := Lib.hid (fun (k : Nat) (g : GotV) (h : G[k]? = some g) (wr : World) (C : Chg [] w wr) => show ∃ a, go = some a ∧ wr.cell? ⟨(a.add (k * 2)).block, (a.add (k * 2)).off + 1, none⟩ = some (.slice g.ao g.xs.length g.cap) from by
    have h1 := (List.getElem?_eq_some_iff.1 h).1
    obtain ⟨a, rfl, _⟩ := HG.lt (by rw [gvs_len]; omega)
    have hc1 := src_flat (w := wr) (a := a) (cells := fun s : GotV => s.cells.toList) (size := 2) (fun _ => rfl) ((HG.chg C (by simp)).cell a rfl) h 1 (.slice g.ao g.xs.length g.cap) rfl
    exact ⟨a, rfl, hc1⟩)
  have HGE := Lib.hid (fun k (hk : k < L.length) => show ∃ s, L[k]? = some s from ⟨_, List.getElem?_eq_getElem hk⟩)
  have HGG := Lib.hid (fun k (hk : k < G.length) => show ∃ s, G[k]? = some s from ⟨_, List.getElem?_eq_getElem hk⟩)
  have HLB : Hid (largeB r.L.length tn ln L G = (decide (10 < L.length) || decide (20000 < sumG (sumF tn L (min L.length 20)) G (min G.length 60)) || decide (50 < r.L.length) || decide (50 < ln) || decide (50 < G.length))) := Lib.hid rfl
  have hbl := H.bl
  obtain ⟨n, hn⟩ : ∃ n, L.length = n := ⟨_, rfl⟩
  obtain ⟨gn, hgn⟩ : ∃ gn, G.length = gn := ⟨_, rfl⟩
  obtain ⟨nb, hnb⟩ : ∃ nb, r.L.length = nb := ⟨_, rfl⟩
  rw [hn, hgn, hnb] at HLB
  rw [hnb] at hbl ⊢
  rw [hn] at HGE hLc ⊢
  rw [hgn] at HGG hGc ⊢
  have HBL := Lib.hid hbl
  generalize largeB nb tn ln L G = LB at *
  clear H HL HG hn hgn hnb hbl
  go_enter Tryd.func40, Tryd.ntmps40
  go_upto_region 1 with (fail)
  obtain ⟨q, hq⟩ : ∃ q, w.heap.size = q := ⟨_, rfl⟩
  rw [hq] at hx0 ⊢
  generalize w.alloc (.cells RC 77) = w1 at *
  have HC0 := Lib.hid C0
  have HX0 := Lib.hid hx0
  clear hq hx0 C0
  have HZ0 : Hid ((tn : Int) = sumF tn L 0) := Lib.hid rfl
  go_wp2_with fail
  go_loopw [11, 12] (fun v11 v12 wr => ∃ (k : Nat) (z : Int), v11 = .int .i64 z ∧ v12 = .int .i64 (k : Int) ∧ k ≤ n ∧ k ≤ 20 ∧ Hid (z = sumF tn L k) ∧ Hid (Chg [] w1 wr)) (fun _ v _ => n - (intOf v).toNat)
  case atStart => exact ⟨0, tn, rfl, rfl, Nat.zero_le _, Nat.zero_le _, HZ0, Lib.hid (Chg.refl _ _)⟩
  case round =>
    obtain ⟨k, z, rfl, rfl, hk, hk2, HZ, HC⟩ := hrel
    clear HZ0
    by_cases hlt : k < n
    · have e1 : (k : Int) < n := Int.ofNat_lt.2 hlt
      by_cases h20 : k < 20
      · have e2 : (k : Int) < 20 := by omega
        have e0 : (0 : Int) ≤ k := Int.natCast_nonneg _
        have hkc : k < c := by omega
        obtain ⟨f, hf⟩ := HGE.out k hlt
        obtain ⟨a, rfl, _, _⟩ := HST.out k f hf wr (HC0.out.trans HC.out (by simp))
        have HNX := Lib.hid (sumF_next (z := tn) hf)
        have HCN : Hid (∀ w', Chg [] wr w' → w'.cell? (a.add (k * 2)) = some (.string f.name)) := Lib.hid (fun w' C => by
          obtain ⟨a2, h1, h2, _⟩ := HST.out k f hf w' ((HC0.out.trans HC.out (by simp)).trans C (by simp))
          cases h1
          exact h2)
        have HCD : Hid (∀ w', Chg [] wr w' → w'.cell? ⟨(a.add (k * 2)).block, (a.add (k * 2)).off + 1, none⟩ = some (.slice f.ao f.xs.length f.cap)) := Lib.hid (fun w' C => by
          obtain ⟨a2, h1, _, h2⟩ := HST.out k f hf w' ((HC0.out.trans HC.out (by simp)).trans C (by simp))
          cases h1
          exact h2)
        rw [← HZ.out] at HNX
        generalize f.xs.length = fl at *
        generalize f.ao = fa at *
        generalize f.cap = fc at *
        generalize f.name = fn at *
        clear HZ hf
        go_upto_region 5 with (fail)
        refine wp_region_held_drew (S := fun w' => Chg [] wr w') (by kernel_rfl) ((Chg.drewN [] wr 1)) (fun H0 => ?_)
        refine' tkH (i := 0) (v := _) rfl (Or.inl ⟨by rfl, ?hya0⟩) H0 ?resta0
        case hya0 =>
          intro w' hSw
          have s1 := hSw
          go_simp
          try with_reducible rfl
        (try simp only [Act.put, List.getElem_toArray, List.getElem_cons_zero, List.setIfInBounds_toArray, List.set_cons_zero, List.set_cons_succ])
        refine' tkH (i := 1) (v := _) rfl (Or.inl ⟨by rfl, ?hya1⟩) H0 ?resta1
        case hya1 =>
          intro w' hSw
          have s1 := hSw
          go_simp
          try with_reducible rfl
        (try simp only [Act.put, List.getElem_toArray, List.getElem_cons_succ, List.getElem_cons_zero, List.setIfInBounds_toArray, List.set_cons_zero, List.set_cons_succ])
        refine' tkH (i := 2) (v := _) rfl (Or.inl ⟨by rfl, ?hya2⟩) H0 ?resta2
        case hya2 =>
          intro w' hSw
          have s1 := hSw
          go_simp
          try with_reducible rfl
        (try simp only [Act.put, List.getElem_toArray, List.getElem_cons_succ, List.getElem_cons_zero, List.setIfInBounds_toArray, List.set_cons_zero, List.set_cons_succ])
        refine' tkH (i := 3) (v := _) rfl (Or.inl ⟨by rfl, ?hya3⟩) H0 ?resta3
        case hya3 =>
          intro w' hSw
          have s1 := hSw
          go_simp
          try with_reducible rfl
        (try simp only [Act.put, List.getElem_toArray, List.getElem_cons_succ, List.getElem_cons_zero, List.setIfInBounds_toArray, List.set_cons_zero, List.set_cons_succ])
        refine' tkH (i := 4) (v := _) rfl (Or.inl ⟨by rfl, ?hya4⟩) H0 ?resta4
        case hya4 =>
          intro w' hSw
          have s1 := hSw
          go_simp
          try with_reducible rfl
        (try simp only [Act.put, List.getElem_toArray, List.getElem_cons_succ, List.getElem_cons_zero, List.setIfInBounds_toArray, List.set_cons_zero, List.set_cons_succ])
        refine' tkH (i := 5) (v := _) rfl (Or.inl ⟨by rfl, ?hya5⟩) H0 ?resta5
        case hya5 =>
          intro w' hSw
          have s1 := hSw
          have hc := (show w'.cell? ⟨(a.add (k * 2)).block, (a.add (k * 2)).off + 1, none⟩ = some (.slice fa fl fc) from HCD.out w' s1)
          go_simp
          try with_reducible rfl
        (try simp only [Act.put, List.getElem_toArray, List.getElem_cons_succ, List.getElem_cons_zero, List.setIfInBounds_toArray, List.set_cons_zero, List.set_cons_succ])
        refine' tkH (i := 6) (v := _) rfl (Or.inl ⟨by rfl, ?hya6⟩) H0 ?resta6
        case hya6 =>
          intro w' hSw
          have s1 := hSw
          go_simp
          try with_reducible rfl
        (try simp only [Act.put, List.getElem_toArray, List.getElem_cons_succ, List.getElem_cons_zero, List.setIfInBounds_toArray, List.set_cons_zero, List.set_cons_succ])
        refine' tkH (i := 7) (v := .int .i64 (wrap64 (z + (fl : Int)))) rfl (Or.inl ⟨by rfl, ?hya7⟩) H0 ?resta7
        case hya7 =>
          intro w' hSw
          have s1 := hSw
          go_simp
          try rw [iw]
        (try simp only [Act.put, List.getElem_toArray, List.getElem_cons_succ, List.getElem_cons_zero, List.setIfInBounds_toArray, List.set_cons_zero, List.set_cons_succ])
        refine' tkH (i := 8) (v := _) rfl (Or.inl ⟨by rfl, ?hya8⟩) H0 ?resta8
        case hya8 =>
          intro w' hSw
          have s1 := hSw
          go_simp
          try with_reducible rfl
        (try simp only [Act.put, List.getElem_toArray, List.getElem_cons_succ, List.getElem_cons_zero, List.setIfInBounds_toArray, List.set_cons_zero, List.set_cons_succ])
        refine' tkH (i := 9) (v := _) rfl (Or.inl ⟨by rfl, ?hya9⟩) H0 ?resta9
        case hya9 =>
          intro w' hSw
          have s1 := hSw
          go_simp
          try with_reducible rfl
        (try simp only [Act.put, List.getElem_toArray, List.getElem_cons_succ, List.getElem_cons_zero, List.setIfInBounds_toArray, List.set_cons_zero, List.set_cons_succ])
        refine' tkH (i := 10) (v := _) rfl (Or.inl ⟨by rfl, ?hya10⟩) H0 ?resta10
        case hya10 =>
          intro w' hSw
          have s1 := hSw
          go_simp
          try with_reducible rfl
        (try simp only [Act.put, List.getElem_toArray, List.getElem_cons_succ, List.getElem_cons_zero, List.setIfInBounds_toArray, List.set_cons_zero, List.set_cons_succ])
        refine' tkH (i := 11) (v := _) rfl (Or.inl ⟨by rfl, ?hya11⟩) H0 ?resta11
        case hya11 =>
          intro w' hSw
          have s1 := hSw
          go_simp
          try with_reducible rfl
        (try simp only [Act.put, List.getElem_toArray, List.getElem_cons_succ, List.getElem_cons_zero, List.setIfInBounds_toArray, List.set_cons_zero, List.set_cons_succ])
        refine' tkH (i := 12) (v := _) rfl (Or.inl ⟨by rfl, ?hya12⟩) H0 ?resta12
        case hya12 =>
          intro w' hSw
          have s1 := hSw
          have hc := (show w'.cell? (a.add (k * 2)) = some (.string fn) from HCN.out w' s1)
          go_simp
          try with_reducible rfl
        (try simp only [Act.put, List.getElem_toArray, List.getElem_cons_succ, List.getElem_cons_zero, List.setIfInBounds_toArray, List.set_cons_zero, List.set_cons_succ])
        refine' tkH (i := 13) (v := _) rfl (Or.inl ⟨by rfl, ?hya13⟩) H0 ?resta13
        case hya13 =>
          intro w' hSw
          have s1 := hSw
          go_simp
          try with_reducible rfl
        (try simp only [Act.put, List.getElem_toArray, List.getElem_cons_succ, List.getElem_cons_zero, List.setIfInBounds_toArray, List.set_cons_zero, List.set_cons_succ])
        refine' tkH (i := 14) (v := .int .i64 (wrap64 (wrap64 (z + (fl : Int)) + (fn.size : Int)))) rfl (Or.inl ⟨by rfl, ?hya14⟩) H0 ?resta14
        case hya14 =>
          intro w' hSw
          have s1 := hSw
          go_simp
          try rw [iw]
        (try simp only [Act.put, List.getElem_toArray, List.getElem_cons_succ, List.getElem_cons_zero, List.setIfInBounds_toArray, List.set_cons_zero, List.set_cons_succ])
        refine' tkH (i := 15) (v := _) rfl (Or.inl ⟨by rfl, ?hya15⟩) H0 ?resta15
        case hya15 =>
          intro w' hSw
          have s1 := hSw
          go_simp
          try with_reducible rfl
        (try simp only [Act.put, List.getElem_toArray, List.getElem_cons_succ, List.getElem_cons_zero, List.setIfInBounds_toArray, List.set_cons_zero, List.set_cons_succ])
        refine wpAnyH_done (by kernel_rfl) ?_ _
        have HCR := Lib.hid (HC.out.trans H0 (by simp))
        clear HCN HCD H0 HC
        go_wp2_with fail
        go_roundw
        case rel => exact ⟨k + 1, _, rfl, by go_num, hlt, h20, Lib.hid HNX.out.symm, HCR⟩
        case measure => simp [intOf] <;> omega
      · have e2 : ¬ (k : Int) < 20 := by omega
        have HKM : Hid (min n 20 = k) := Lib.hid (by omega)
        clear h20 hk hk2
        have HG0 : Hid (z = sumG z G 0) := Lib.hid rfl
        have HCA := Lib.hid HC.out
        clear HC
        go_wp2_with fail
        go_loopw [11, 13] (fun v11 v13 wr2 => ∃ (k2 : Nat) (z2 : Int), v11 = .int .i64 z2 ∧ v13 = .int .i64 (k2 : Int) ∧ k2 ≤ gn ∧ k2 ≤ 60 ∧ Hid (z2 = sumG z G k2) ∧ Hid (Chg [] w1 wr2)) (fun _ v _ => gn - (intOf v).toNat)
        case atStart => exact ⟨0, z, rfl, rfl, Nat.zero_le _, Nat.zero_le _, HG0, HCA⟩
        case round =>
          clear HG0 HCA hlt e1
          obtain ⟨k2, z2, rfl, rfl, hk3, hk4, HZ2, HC2⟩ := hrel
          by_cases hlt2 : k2 < gn
          · have e1 : (k2 : Int) < gn := Int.ofNat_lt.2 hlt2
            by_cases h60 : k2 < 60
            · have e2 : (k2 : Int) < 60 := by omega
              have e0 : (0 : Int) ≤ k2 := Int.natCast_nonneg _
              have hkc2 : k2 < gc := by omega
              obtain ⟨g, hg⟩ := HGG.out k2 hlt2
              obtain ⟨ag, rfl, hcg⟩ := HSG.out k2 g hg _ (HC0.out.trans HC2.out (by simp))
              have HNG := Lib.hid (sumG_next (z := z) hg)
              rw [← HZ2.out] at HNG
              generalize g.xs.length = gl at *
              generalize g.ao = ga at *
              generalize g.cap = gcp at *
              clear HZ2 hg
              go_wp2_with fail
              go_roundw
              case rel => exact ⟨k2 + 1, _, rfl, by go_num, hlt2, h60, Lib.hid HNG.out.symm, HC2⟩
              case measure => simp [intOf] <;> omega
            · have e2 : ¬ (k2 : Int) < 60 := by omega
              have HKG : Hid (min gn 60 = k2) := Lib.hid (by omega)
              clear hlt2 h60 hk3 hk4
              have HZF : Hid (sumG (sumF tn L (min n 20)) G (min gn 60) = z2) := Lib.hid (by rw [HKM.out, ← HZ.out, HKG.out, HZ2.out])
              have HCE := Lib.hid (HC0.out.trans HC2.out (by simp))
              have c23 : wr.cell? ⟨q, 23, none⟩ = some (.slice ao nb rc) := by rw [cell_of_row _ _ _ _ _ _ ((HC2.out.block q (lt_of_block HX0.out) (by simp)).trans HX0.out)]; exact HBL.out
              clear HZ2 HKG HC2 HKM HZ
              by_cases a1 : 10 < n
              · have b1 : (10 : Int) < n := by omega
                have HV : Hid (LB = true) := Lib.hid (by rw [HLB.out, HZF.out]; simp [*])
                clear HLB HZF
                go_wp2_with fail
                go_ret
                exact ⟨by rw [HV.out]; rfl, HCE.out⟩
              · have b1 : ¬ (10 : Int) < n := by omega
                by_cases a2 : 20000 < z2
                ·
                  have HV : Hid (LB = true) := Lib.hid (by rw [HLB.out, HZF.out]; simp [*])
                  clear HLB HZF
                  go_wp2_with fail
                  go_ret
                  exact ⟨by rw [HV.out]; rfl, HCE.out⟩
                · by_cases a3 : 50 < nb
                  · have b3 : (50 : Int) < nb := by omega
                    have HV : Hid (LB = true) := Lib.hid (by rw [HLB.out, HZF.out]; simp [*])
                    clear HLB HZF
                    go_wp2_with fail
                    go_ret
                    exact ⟨by rw [HV.out]; rfl, HCE.out⟩
                  · have b3 : ¬ (50 : Int) < nb := by omega
                    by_cases a4 : 50 < ln
                    · have b4 : (50 : Int) < ln := by omega
                      have HV : Hid (LB = true) := Lib.hid (by rw [HLB.out, HZF.out]; simp [*])
                      clear HLB HZF
                      go_wp2_with fail
                      go_ret
                      exact ⟨by rw [HV.out]; rfl, HCE.out⟩
                    · have b4 : ¬ (50 : Int) < ln := by omega
                      by_cases a5 : 50 < gn
                      · have b5 : (50 : Int) < gn := by omega
                        have HV : Hid (LB = true) := Lib.hid (by rw [HLB.out, HZF.out]; simp [*])
                        clear HLB HZF
                        go_wp2_with fail
                        go_ret
                        exact ⟨by rw [HV.out]; rfl, HCE.out⟩
                      · have b5 : ¬ (50 : Int) < gn := by omega
                        first
                          | (exfalso; omega)
                          | (
                            have HV : Hid (LB = false) := Lib.hid (by rw [HLB.out, HZF.out]; simp [*])
                            clear HLB HZF
                            go_wp2_with fail
                            go_ret
                            exact ⟨by rw [HV.out]; rfl, HCE.out⟩)
          · have e1 : ¬ (k2 : Int) < gn := fun h => hlt2 (Int.ofNat_lt.1 h)
            have HKG : Hid (min gn 60 = k2) := Lib.hid (by omega)
            clear hlt2 hk3 hk4
            have HZF : Hid (sumG (sumF tn L (min n 20)) G (min gn 60) = z2) := Lib.hid (by rw [HKM.out, ← HZ.out, HKG.out, HZ2.out])
            have HCE := Lib.hid (HC0.out.trans HC2.out (by simp))
            have c23 : wr.cell? ⟨q, 23, none⟩ = some (.slice ao nb rc) := by rw [cell_of_row _ _ _ _ _ _ ((HC2.out.block q (lt_of_block HX0.out) (by simp)).trans HX0.out)]; exact HBL.out
            clear HZ2 HKG HC2 HKM HZ
            by_cases a1 : 10 < n
            · have b1 : (10 : Int) < n := by omega
              have HV : Hid (LB = true) := Lib.hid (by rw [HLB.out, HZF.out]; simp [*])
              clear HLB HZF
              go_wp2_with fail
              go_ret
              exact ⟨by rw [HV.out]; rfl, HCE.out⟩
            · have b1 : ¬ (10 : Int) < n := by omega
              by_cases a2 : 20000 < z2
              ·
                have HV : Hid (LB = true) := Lib.hid (by rw [HLB.out, HZF.out]; simp [*])
                clear HLB HZF
                go_wp2_with fail
                go_ret
                exact ⟨by rw [HV.out]; rfl, HCE.out⟩
              · by_cases a3 : 50 < nb
                · have b3 : (50 : Int) < nb := by omega
                  have HV : Hid (LB = true) := Lib.hid (by rw [HLB.out, HZF.out]; simp [*])
                  clear HLB HZF
                  go_wp2_with fail
                  go_ret
                  exact ⟨by rw [HV.out]; rfl, HCE.out⟩
                · have b3 : ¬ (50 : Int) < nb := by omega
                  by_cases a4 : 50 < ln
                  · have b4 : (50 : Int) < ln := by omega
                    have HV : Hid (LB = true) := Lib.hid (by rw [HLB.out, HZF.out]; simp [*])
                    clear HLB HZF
                    go_wp2_with fail
                    go_ret
                    exact ⟨by rw [HV.out]; rfl, HCE.out⟩
                  · have b4 : ¬ (50 : Int) < ln := by omega
                    by_cases a5 : 50 < gn
                    · have b5 : (50 : Int) < gn := by omega
                      have HV : Hid (LB = true) := Lib.hid (by rw [HLB.out, HZF.out]; simp [*])
                      clear HLB HZF
                      go_wp2_with fail
                      go_ret
                      exact ⟨by rw [HV.out]; rfl, HCE.out⟩
                    · have b5 : ¬ (50 : Int) < gn := by omega
                      first
                        | (exfalso; omega)
                        | (
                          have HV : Hid (LB = false) := Lib.hid (by rw [HLB.out, HZF.out]; simp [*])
                          clear HLB HZF
                          go_wp2_with fail
                          go_ret
                          exact ⟨by rw [HV.out]; rfl, HCE.out⟩)
    · have e1 : ¬ (k : Int) < n := fun h => hlt (Int.ofNat_lt.1 h)
      have HKM : Hid (min n 20 = k) := Lib.hid (by omega)
      clear hk hk2
      have HG0 : Hid (z = sumG z G 0) := Lib.hid rfl
      have HCA := Lib.hid HC.out
      clear HC
      go_wp2_with fail
      go_loopw [11, 13] (fun v11 v13 wr2 => ∃ (k2 : Nat) (z2 : Int), v11 = .int .i64 z2 ∧ v13 = .int .i64 (k2 : Int) ∧ k2 ≤ gn ∧ k2 ≤ 60 ∧ Hid (z2 = sumG z G k2) ∧ Hid (Chg [] w1 wr2)) (fun _ v _ => gn - (intOf v).toNat)
      case atStart => exact ⟨0, z, rfl, rfl, Nat.zero_le _, Nat.zero_le _, HG0, HCA⟩
      case round =>
        clear HG0 HCA hlt e1
        obtain ⟨k2, z2, rfl, rfl, hk3, hk4, HZ2, HC2⟩ := hrel
        by_cases hlt2 : k2 < gn
        · have e1 : (k2 : Int) < gn := Int.ofNat_lt.2 hlt2
          by_cases h60 : k2 < 60
          · have e2 : (k2 : Int) < 60 := by omega
            have e0 : (0 : Int) ≤ k2 := Int.natCast_nonneg _
            have hkc2 : k2 < gc := by omega
            obtain ⟨g, hg⟩ := HGG.out k2 hlt2
            obtain ⟨ag, rfl, hcg⟩ := HSG.out k2 g hg _ (HC0.out.trans HC2.out (by simp))
            have HNG := Lib.hid (sumG_next (z := z) hg)
            rw [← HZ2.out] at HNG
            generalize g.xs.length = gl at *
            generalize g.ao = ga at *
            generalize g.cap = gcp at *
            clear HZ2 hg
            go_wp2_with fail
            go_roundw
            case rel => exact ⟨k2 + 1, _, rfl, by go_num, hlt2, h60, Lib.hid HNG.out.symm, HC2⟩
            case measure => simp [intOf] <;> omega
          · have e2 : ¬ (k2 : Int) < 60 := by omega
            have HKG : Hid (min gn 60 = k2) := Lib.hid (by omega)
            clear hlt2 h60 hk3 hk4
            have HZF : Hid (sumG (sumF tn L (min n 20)) G (min gn 60) = z2) := Lib.hid (by rw [HKM.out, ← HZ.out, HKG.out, HZ2.out])
            have HCE := Lib.hid (HC0.out.trans HC2.out (by simp))
            have c23 : wr.cell? ⟨q, 23, none⟩ = some (.slice ao nb rc) := by rw [cell_of_row _ _ _ _ _ _ ((HC2.out.block q (lt_of_block HX0.out) (by simp)).trans HX0.out)]; exact HBL.out
            clear HZ2 HKG HC2 HKM HZ
            by_cases a1 : 10 < n
            · have b1 : (10 : Int) < n := by omega
              have HV : Hid (LB = true) := Lib.hid (by rw [HLB.out, HZF.out]; simp [*])
              clear HLB HZF
              go_wp2_with fail
              go_ret
              exact ⟨by rw [HV.out]; rfl, HCE.out⟩
            · have b1 : ¬ (10 : Int) < n := by omega
              by_cases a2 : 20000 < z2
              ·
                have HV : Hid (LB = true) := Lib.hid (by rw [HLB.out, HZF.out]; simp [*])
                clear HLB HZF
                go_wp2_with fail
                go_ret
                exact ⟨by rw [HV.out]; rfl, HCE.out⟩
              · by_cases a3 : 50 < nb
                · have b3 : (50 : Int) < nb := by omega
                  have HV : Hid (LB = true) := Lib.hid (by rw [HLB.out, HZF.out]; simp [*])
                  clear HLB HZF
                  go_wp2_with fail
                  go_ret
                  exact ⟨by rw [HV.out]; rfl, HCE.out⟩
                · have b3 : ¬ (50 : Int) < nb := by omega
                  by_cases a4 : 50 < ln
                  · have b4 : (50 : Int) < ln := by omega
                    have HV : Hid (LB = true) := Lib.hid (by rw [HLB.out, HZF.out]; simp [*])
                    clear HLB HZF
                    go_wp2_with fail
                    go_ret
                    exact ⟨by rw [HV.out]; rfl, HCE.out⟩
                  · have b4 : ¬ (50 : Int) < ln := by omega
                    by_cases a5 : 50 < gn
                    · have b5 : (50 : Int) < gn := by omega
                      have HV : Hid (LB = true) := Lib.hid (by rw [HLB.out, HZF.out]; simp [*])
                      clear HLB HZF
                      go_wp2_with fail
                      go_ret
                      exact ⟨by rw [HV.out]; rfl, HCE.out⟩
                    · have b5 : ¬ (50 : Int) < gn := by omega
                      first
                        | (exfalso; omega)
                        | (
                          have HV : Hid (LB = false) := Lib.hid (by rw [HLB.out, HZF.out]; simp [*])
                          clear HLB HZF
                          go_wp2_with fail
                          go_ret
                          exact ⟨by rw [HV.out]; rfl, HCE.out⟩)
        · have e1 : ¬ (k2 : Int) < gn := fun h => hlt2 (Int.ofNat_lt.1 h)
          have HKG : Hid (min gn 60 = k2) := Lib.hid (by omega)
          clear hlt2 hk3 hk4
          have HZF : Hid (sumG (sumF tn L (min n 20)) G (min gn 60) = z2) := Lib.hid (by rw [HKM.out, ← HZ.out, HKG.out, HZ2.out])
          have HCE := Lib.hid (HC0.out.trans HC2.out (by simp))
          have c23 : wr.cell? ⟨q, 23, none⟩ = some (.slice ao nb rc) := by rw [cell_of_row _ _ _ _ _ _ ((HC2.out.block q (lt_of_block HX0.out) (by simp)).trans HX0.out)]; exact HBL.out
          clear HZ2 HKG HC2 HKM HZ
          by_cases a1 : 10 < n
          · have b1 : (10 : Int) < n := by omega
            have HV : Hid (LB = true) := Lib.hid (by rw [HLB.out, HZF.out]; simp [*])
            clear HLB HZF
            go_wp2_with fail
            go_ret
            exact ⟨by rw [HV.out]; rfl, HCE.out⟩
          · have b1 : ¬ (10 : Int) < n := by omega
            by_cases a2 : 20000 < z2
            ·
              have HV : Hid (LB = true) := Lib.hid (by rw [HLB.out, HZF.out]; simp [*])
              clear HLB HZF
              go_wp2_with fail
              go_ret
              exact ⟨by rw [HV.out]; rfl, HCE.out⟩
            · by_cases a3 : 50 < nb
              · have b3 : (50 : Int) < nb := by omega
                have HV : Hid (LB = true) := Lib.hid (by rw [HLB.out, HZF.out]; simp [*])
                clear HLB HZF
                go_wp2_with fail
                go_ret
                exact ⟨by rw [HV.out]; rfl, HCE.out⟩
              · have b3 : ¬ (50 : Int) < nb := by omega
                by_cases a4 : 50 < ln
                · have b4 : (50 : Int) < ln := by omega
                  have HV : Hid (LB = true) := Lib.hid (by rw [HLB.out, HZF.out]; simp [*])
                  clear HLB HZF
                  go_wp2_with fail
                  go_ret
                  exact ⟨by rw [HV.out]; rfl, HCE.out⟩
                · have b4 : ¬ (50 : Int) < ln := by omega
                  by_cases a5 : 50 < gn
                  · have b5 : (50 : Int) < gn := by omega
                    have HV : Hid (LB = true) := Lib.hid (by rw [HLB.out, HZF.out]; simp [*])
                    clear HLB HZF
                    go_wp2_with fail
                    go_ret
                    exact ⟨by rw [HV.out]; rfl, HCE.out⟩
                  · have b5 : ¬ (50 : Int) < gn := by omega
                    first
                      | (exfalso; omega)
                      | (
                        have HV : Hid (LB = false) := Lib.hid (by rw [HLB.out, HZF.out]; simp [*])
                        clear HLB HZF
                        go_wp2_with fail
                        go_ret
                        exact ⟨by rw [HV.out]; rfl, HCE.out⟩)
end Go.Proofs.YtfdhpjflkimihaaDoor
