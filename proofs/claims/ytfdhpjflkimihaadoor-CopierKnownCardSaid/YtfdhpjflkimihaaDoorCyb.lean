/- The copier's may, walked. No conditions beyond those that each statement types. -/
import Derived.Test.YtfdhpjflkimihaaDoorCya
import Derived.Test.YtfdhpjflkimihaaDoorBkXr
import Derived.Test.YtfdhpjflkimihaaDoorBkWm
import Derived.Test.YtfdhpjflkimihaaDoorBkH
namespace Go.Proofs.YtfdhpjflkimihaaDoor
open Go.RowKit

/-- May no step of block k be so? -/
def badS (k : Nat) (s : StepV) : Bool := decide (s.block ≠ (k : Int) ∨ s.from_ < 1 ∨ 4 < s.from_ ∨ (s.from_ = 3 ∧ (s.same < 0 ∨ (k : Int) ≤ s.same)))
def mayB (l : List StepV) (many : Nat) : Bool := ((List.range l.length).all fun k => !badS k (l.getD k ⟨0, 0, ⟨#[]⟩, 0, 0⟩)) && decide (l.length = many)
theorem mayB_bad {l : List StepV} {many k : Nat} {s : StepV} (h : l[k]? = some s) (hb : badS k s = true) : mayB l many = false := by
  unfold mayB
  rw [Bool.and_eq_false_iff]
  left
  rw [List.all_eq_false]
  refine ⟨k, List.mem_range.2 (List.getElem?_eq_some_iff.1 h).1, ?_⟩
  rw [List.getD, h, Option.getD_some, hb]
  decide
theorem mayB_all {l : List StepV} {many : Nat} (h : ∀ t s, t < l.length → l[t]? = some s → badS t s = false) : mayB l many = decide (l.length = many) := by
  unfold mayB
  rw [List.all_eq_true.2, Bool.true_and]
  intro k hk
  have hk := List.mem_range.1 hk
  rw [List.getD, List.getElem?_eq_getElem hk, Option.getD_some, h k _ hk (List.getElem?_eq_getElem hk)]
  rfl
set_option maxRecDepth 100000 in
set_option maxHeartbeats 4000000 in
theorem cp_may (l : List StepV) (so : Option Addr) (sc many : Nat) (w : World) (hs : Src w so (svs l)) (hlc : l.length ≤ sc) (hl : l.length ≤ 1000000) :
    Calls Tryd.prog 86 #[.slice so l.length sc, .int .i64 many] w fun e w' => e = .returned (.bool (mayB l many)) ∧ Chg [] w w' := by
  have HST := Lib.hid (fun (k : Nat) (s : StepV) (h : l[k]? = some s) (wr : World) (C : Chg [] w wr) => show ∃ a, so = some a ∧ (Instr.loadAt 85 (.pointer (some (a.add (k * 5))))).run Tryd.prog wr = .ok (.agg s.cells) wr from by
    obtain ⟨a, rfl, _⟩ := hs.lt (by
      have h1 := (List.getElem?_eq_some_iff.1 h).1
      rw [show (svs l).length = l.length * 5 from flat_length (enc := fun s : StepV => s.cells.toList) (size := 5) (fun _ => rfl) l]
      omega)
    exact ⟨a, rfl, load_step (hs.chg C (by simp)) h⟩)
  have HGE := Lib.hid (fun k (hk : k < l.length) => show ∃ s, l[k]? = some s from ⟨_, List.getElem?_eq_getElem hk⟩)
  obtain ⟨n, hn⟩ : ∃ n, l.length = n := ⟨_, rfl⟩
  have HNN := Lib.hid hn
  rw [hn] at hl hlc HGE ⊢
  clear hs hn
  go_enter Tryd.func86, Tryd.ntmps86
  go_wp2_with fail
  go_loopw [9] (fun v9 wr => ∃ k : Nat, v9 = .int .i64 (k : Int) ∧ k ≤ n ∧ Hid (∀ t s, t < k → l[t]? = some s → badS t s = false) ∧ Hid (Chg [] w wr)) (fun v _ => n - (intOf v).toNat)
  case atStart => exact ⟨0, rfl, Nat.zero_le _, Lib.hid (fun t s ht => by omega), Lib.hid (Chg.refl _ _)⟩
  case round =>
    obtain ⟨k, rfl, hk, HB, HC⟩ := hrel
    by_cases hlt : k < n
    · have e1 : (k : Int) < n := Int.ofNat_lt.2 hlt
      have e0 : (0 : Int) ≤ k := Int.natCast_nonneg _
      have hkc : k < sc := by omega
      obtain ⟨s, hsk⟩ := HGE.out k hlt
      obtain ⟨a, rfl, hld⟩ := HST.out k s hsk wr HC.out
      obtain ⟨s1, s2, s3, s4, s5⟩ := s
      have HSK := Lib.hid hsk
      simp only [StepV.cells] at hld
      have CA := Chg.alloc [] wr (.cells #[.int .i64 s1, .int .i64 s2, .string s3, .int .i64 s4, .int .i64 s5] 85)
      have hx4 := heap_alloc_new wr (.cells #[.int .i64 s1, .int .i64 s2, .string s3, .int .i64 s4, .int .i64 s5] 85)
      clear hsk
      go_upto_region 4 with (refine wpList_load_y 85 (.tmp 12) rfl (by go_simp) (.pointer (some (a.add (k * 5)))) (.agg #[.int .i64 s1, .int .i64 s2, .string s3, .int .i64 s4, .int .i64 s5]) hld rfl ?_)
      obtain ⟨q, hq⟩ : ∃ q, wr.heap.size = q := ⟨_, rfl⟩
      rw [hq] at hx4 ⊢
      generalize wr.alloc (.cells #[.int .i64 s1, .int .i64 s2, .string s3, .int .i64 s4, .int .i64 s5] 85) = w4 at *
      have c0 : w4.cell? ⟨q, 0, none⟩ = some (.int .i64 s1) := by rw [cell_of_row _ _ _ _ _ _ hx4]; rfl
      have c1 : w4.cell? ⟨q, 1, none⟩ = some (.int .i64 s2) := by rw [cell_of_row _ _ _ _ _ _ hx4]; rfl
      have c4 : w4.cell? ⟨q, 4, none⟩ = some (.int .i64 s5) := by rw [cell_of_row _ _ _ _ _ _ hx4]; rfl
      have HC4 := Lib.hid (HC.out.trans CA (by simp))
      clear hld hx4 CA hq
      by_cases h1 : s1 = (k : Int)
      · by_cases h2 : s2 < 1
        · have HBD : Hid (badS k ⟨s1, s2, s3, s4, s5⟩ = true) := Lib.hid (by unfold badS; simp only []; rw [decide_eq_true_iff]; omega)
          have HR : Hid (mayB l many = false) := Lib.hid (mayB_bad HSK.out HBD.out)
          clear HB
          go_wp2_with fail
          go_ret
          exact ⟨by rw [HR.out]; rfl, HC4.out⟩
        · by_cases h3 : 4 < s2
          · have HBD : Hid (badS k ⟨s1, s2, s3, s4, s5⟩ = true) := Lib.hid (by unfold badS; simp only []; rw [decide_eq_true_iff]; omega)
            have HR : Hid (mayB l many = false) := Lib.hid (mayB_bad HSK.out HBD.out)
            clear HB
            go_wp2_with fail
            go_ret
            exact ⟨by rw [HR.out]; rfl, HC4.out⟩
          · by_cases h4 : s2 = 3
            · by_cases h5 : s5 < 0
              · have HBD : Hid (badS k ⟨s1, s2, s3, s4, s5⟩ = true) := Lib.hid (by unfold badS; simp only []; rw [decide_eq_true_iff]; omega)
                have HR : Hid (mayB l many = false) := Lib.hid (mayB_bad HSK.out HBD.out)
                clear HB
                go_wp2_with fail
                go_ret
                exact ⟨by rw [HR.out]; rfl, HC4.out⟩
              · by_cases h6 : (k : Int) ≤ s5
                · have HBD : Hid (badS k ⟨s1, s2, s3, s4, s5⟩ = true) := Lib.hid (by unfold badS; simp only []; rw [decide_eq_true_iff]; omega)
                  have HR : Hid (mayB l many = false) := Lib.hid (mayB_bad HSK.out HBD.out)
                  clear HB
                  go_wp2_with fail
                  go_ret
                  exact ⟨by rw [HR.out]; rfl, HC4.out⟩
                · have HBD : Hid (badS k ⟨s1, s2, s3, s4, s5⟩ = false) := Lib.hid (by unfold badS; simp only []; rw [decide_eq_false_iff_not]; omega)
                  have HB2 : Hid (∀ t s, t < k + 1 → l[t]? = some s → badS t s = false) := Lib.hid (fun t s ht hs => by
                    rcases Nat.lt_succ_iff_lt_or_eq.1 ht with h | h
                    · exact HB.out t s h hs
                    · subst h
                      rw [HSK.out] at hs
                      cases hs
                      exact HBD.out)
                  clear HB
                  go_wp2_with fail
                  go_roundw
                  case rel => exact ⟨k + 1, by go_num, hlt, HB2, HC4⟩
                  case measure => simp [intOf] <;> omega
            · have HBD : Hid (badS k ⟨s1, s2, s3, s4, s5⟩ = false) := Lib.hid (by unfold badS; simp only []; rw [decide_eq_false_iff_not]; omega)
              have HB2 : Hid (∀ t s, t < k + 1 → l[t]? = some s → badS t s = false) := Lib.hid (fun t s ht hs => by
                rcases Nat.lt_succ_iff_lt_or_eq.1 ht with h | h
                · exact HB.out t s h hs
                · subst h
                  rw [HSK.out] at hs
                  cases hs
                  exact HBD.out)
              clear HB
              go_wp2_with fail
              go_roundw
              case rel => exact ⟨k + 1, by go_num, hlt, HB2, HC4⟩
              case measure => simp [intOf] <;> omega
      · have HBD : Hid (badS k ⟨s1, s2, s3, s4, s5⟩ = true) := Lib.hid (by unfold badS; simp only []; rw [decide_eq_true_iff]; omega)
        have HR : Hid (mayB l many = false) := Lib.hid (mayB_bad HSK.out HBD.out)
        clear HB
        go_wp2_with fail
        go_ret
        exact ⟨by rw [HR.out]; rfl, HC4.out⟩
    · have e1 : ¬ (k : Int) < n := fun h => hlt (Int.ofNat_lt.1 h)
      have hkn : k = n := by omega
      have HR : Hid (mayB l many = decide (n = many)) := Lib.hid (by rw [mayB_all (fun t s ht hs => HB.out t s (by rw [hkn, ← HNN.out]; exact ht) hs), HNN.out])
      clear HB hkn
      by_cases hm : n = many
      · have HR2 : Hid (mayB l many = true) := Lib.hid (by rw [HR.out, decide_eq_true hm])
        subst hm
        go_wp2_with fail
        go_ret
        exact ⟨by rw [HR2.out]; rfl, HC.out⟩
      · have HR2 : Hid (mayB l many = false) := Lib.hid (by rw [HR.out, decide_eq_false hm])
        have hm2 : ¬ (n : Int) = (many : Int) := by omega
        have hm3 : ((n : Int) == (many : Int)) = false := by simp; omega
        go_wp2_with fail
        go_ret
        exact ⟨by rw [HR2.out]; rfl, HC.out⟩
end Go.Proofs.YtfdhpjflkimihaaDoor
/- The law's step, walked. No conditions beyond those that each statement types. -/
namespace Go.Proofs.YtfdhpjflkimihaaDoor
open Go.RowKit

theorem infoStepR : (Tryd.prog.info? 93).map (·.size) = some 5 := by kernel_rfl
set_option maxRecDepth 100000 in
set_option maxHeartbeats 4000000 in
theorem lw_step (s : StepV) (w : World) : Calls Tryd.prog 48 #[.agg s.cells] w fun e w' => e = .returned (.agg s.cells) ∧ Chg [] w w' := by
  obtain ⟨s1, s2, s3, s4, s5⟩ := s
  have C1 := Chg.alloc [] w (.cells #[.int .i64 s1, .int .i64 s2, .string s3, .int .i64 s4, .int .i64 s5] 85)
  have x1 := heap_alloc_new w (.cells #[.int .i64 s1, .int .i64 s2, .string s3, .int .i64 s4, .int .i64 s5] 85)
  have C2 := Chg.alloc [] (w.alloc (.cells #[.int .i64 s1, .int .i64 s2, .string s3, .int .i64 s4, .int .i64 s5] 85)) (.cells #[.int .i64 0, .int .i64 0, .string ⟨#[]⟩, .int .i64 0, .int .i64 0] 93)
  have x2 := heap_alloc_new (w.alloc (.cells #[.int .i64 s1, .int .i64 s2, .string s3, .int .i64 s4, .int .i64 s5] 85)) (.cells #[.int .i64 0, .int .i64 0, .string ⟨#[]⟩, .int .i64 0, .int .i64 0] 93)
  have sz : (w.alloc (.cells #[.int .i64 s1, .int .i64 s2, .string s3, .int .i64 s4, .int .i64 s5] 85)).heap.size = w.heap.size + 1 := by simp
  rw [sz] at x2
  have x1' := (C2.block _ (lt_of_block x1) (by simp)).trans x1
  simp only [StepV.cells]
  go_enter Tryd.func48, Tryd.ntmps48
  go_upto_region 1 with (fail)
  obtain ⟨q, hq⟩ : ∃ q, w.heap.size = q := ⟨_, rfl⟩
  rw [hq] at x1' x2 sz
  try rw [hq]
  try rw [sz]
  have C0 := C1.trans C2 (by simp)
  generalize (w.alloc (.cells #[.int .i64 s1, .int .i64 s2, .string s3, .int .i64 s4, .int .i64 s5] 85)).alloc (.cells #[.int .i64 0, .int .i64 0, .string ⟨#[]⟩, .int .i64 0, .int .i64 0] 93) = w1 at *
  have hc : w1.cell? ⟨q, 0, none⟩ = some (.int .i64 s1) ∧ w1.cell? ⟨q, 1, none⟩ = some (.int .i64 s2) ∧ w1.cell? ⟨q, 2, none⟩ = some (.string s3) ∧ w1.cell? ⟨q, 3, none⟩ = some (.int .i64 s4) ∧ w1.cell? ⟨q, 4, none⟩ = some (.int .i64 s5) := by
    refine ⟨?_, ?_, ?_, ?_, ?_⟩ <;> (rw [cell_of_row _ _ _ _ _ _ x1']; rfl)
  obtain ⟨c0, c1, c2, c3, c4⟩ := hc
  have hst := run_storeAt_row (P := Tryd.prog) w1 (q + 1) _ 93 _ #[.int .i64 s1, .int .i64 s2, .string s3, .int .i64 s4, .int .i64 s5] x2 infoStepR rfl (by simp [Value.oneCell'])
  have hh := setRow_heap w1 (q + 1) _ #[.int .i64 s1, .int .i64 s2, .string s3, .int .i64 s4, .int .i64 s5] _ _ x2
  have CF : Chg [] w (w1.setRow (q + 1) #[.int .i64 s1, .int .i64 s2, .string s3, .int .i64 s4, .int .i64 s5]) := C0.trans (Chg.setRow (S := [q + 1]) w1 (q + 1) _ (.inl (by simp))) (fun j hj => by simp at hj; omega)
  clear C1 C2 x1 sz
  go_wp2_with (refine wpList_store_y 93 (.tmp 2) (.tmp 15) rfl (by first | rfl | go_simp) (.pointer (some ⟨q + 1, 0, none⟩)) (.agg #[.int .i64 s1, .int .i64 s2, .string s3, .int .i64 s4, .int .i64 s5]) _ hst rfl rfl ?_)
  exact bodyPost_ret (v := .agg #[.int .i64 s1, .int .i64 s2, .string s3, .int .i64 s4, .int .i64 s5]) (results_cell_row rfl _ _ _ _ #[.int .i64 s1, .int .i64 s2, .string s3, .int .i64 s4, .int .i64 s5] _ _ rfl hh Tryd.underlying93 rfl infoStepR) rfl ⟨rfl, CF⟩
end Go.Proofs.YtfdhpjflkimihaaDoor
/- What was got, and slices.IndexFunc of it, walked. No conditions beyond those that each statement types. -/
namespace Go.Proofs.YtfdhpjflkimihaaDoor
open Go.RowKit

/-- A block that was got. -/
structure GotV where
  block : Int
  ao : Option Addr
  xs : List UInt8
  cap : Nat
def GotV.cells (g : GotV) : Array Value := #[.int .i64 g.block, .slice g.ao g.xs.length g.cap]
def gvs (l : List GotV) : List Value := l.flatMap fun g => g.cells.toList
theorem gvs_len (l : List GotV) : (gvs l).length = l.length * 2 := flat_length (enc := fun g : GotV => g.cells.toList) (size := 2) (fun _ => rfl) l
theorem infoGot : (Tryd.prog.info? 104).map (·.size) = some 2 := by kernel_rfl
theorem load_got {w : World} {a : Addr} {l : List GotV} (hs : Src w (some a) (gvs l)) {i : Nat} {s : GotV} (h : l[i]? = some s) :
    (Instr.loadAt 104 (.pointer (some (a.add (i * 2))))).run Tryd.prog w = .ok (.agg s.cells) w := by
  have h := src_flat (w := w) (a := a) (cells := fun s : GotV => s.cells.toList) (size := 2) (fun _ => rfl) (hs.cell a rfl) h
  exact run_loadAt_any _ _ s.cells.toList _ h Tryd.underlying104 rfl infoGot
def gotIx (G : List GotV) (i : Int) : Option Nat := G.findIdx? fun g => decide (g.block = i)
def ixZ : Option Nat → Int
  | none => -1
  | some k => k
theorem gotIx_at {G : List GotV} {i : Int} {k : Nat} {g : GotV} (hk : G[k]? = some g) (hg : g.block = i) (hb : ∀ (t : Nat) (x : GotV), t < k → G[t]? = some x → x.block ≠ i) : gotIx G i = some k := by
  unfold gotIx
  rw [List.findIdx?_eq_some_iff_getElem]
  obtain ⟨h, rfl⟩ := List.getElem?_eq_some_iff.1 hk
  refine ⟨h, by simpa using hg, fun j hj => ?_⟩
  have := hb j G[j] hj (List.getElem?_eq_getElem (by omega))
  simpa using this
theorem gotIx_no {G : List GotV} {i : Int} (hb : ∀ (t : Nat) (x : GotV), G[t]? = some x → x.block ≠ i) : gotIx G i = none := by
  unfold gotIx
  rw [List.findIdx?_eq_none_iff]
  intro x hx
  obtain ⟨t, h, rfl⟩ := List.getElem_of_mem hx
  simpa using hb t _ (List.getElem?_eq_getElem h)
theorem gotIx_lt {G : List GotV} {i : Int} {k : Nat} (h : gotIx G i = some k) : ∃ g, G[k]? = some g ∧ g.block = i := by
  unfold gotIx at h
  rw [List.findIdx?_eq_some_iff_getElem] at h
  obtain ⟨h1, h2, _⟩ := h
  exact ⟨_, List.getElem?_eq_getElem h1, by simpa using h2⟩

theorem cp_named (g : GotV) (i : Int) (q : Nat) (w : World) (h : w.cell? ⟨q, 0, none⟩ = some (.int .i64 i)) :
    Calls Tryd.prog 89 #[.agg g.cells, .pointer (some ⟨q, 0, none⟩)] w fun e w' => e = .returned (.bool (decide (g.block = i))) ∧ Chg [] w w' := by
  obtain ⟨b, ao, xs, c⟩ := g
  have C1 := Chg.alloc [] w (.cells #[.int .i64 b, .slice ao xs.length c] 104)
  have h' := C1.cell_some h (by simp)
  have hx := heap_alloc_new w (.cells #[.int .i64 b, .slice ao xs.length c] 104)
  have z0 : (w.alloc (.cells #[.int .i64 b, .slice ao xs.length c] 104)).cell? ⟨w.heap.size, 0, none⟩ = some (.int .i64 b) := by rw [cell_of_row _ _ _ _ _ _ hx]; rfl
  simp only [GotV.cells]
  clear hx
  go_enter Tryd.func89, Tryd.ntmps89
  go_wp2_with fail
  go_ret
  exact ⟨by congr, C1⟩

set_option maxRecDepth 100000 in
set_option maxHeartbeats 4000000 in
theorem cp_index (G : List GotV) (i : Int) (so : Option Addr) (c q : Nat) (w : World) (hs : Src w so (gvs G)) (hlc : G.length ≤ c) (hl : G.length ≤ 1000000) (hb : w.cell? ⟨q, 0, none⟩ = some (.int .i64 i)) :
    Calls Tryd.prog 88 #[.slice so G.length c, .func (.func 89) #[] #[.pointer (some ⟨q, 0, none⟩)]] w fun e w' => e = .returned (.int .i64 (ixZ (gotIx G i))) ∧ Chg [] w w' := by
  have HST := Lib.hid (fun (k : Nat) (s : GotV) (h : G[k]? = some s) (wr : World) (C : Chg [] w wr) => show ∃ a, so = some a ∧ (Instr.loadAt 104 (.pointer (some (a.add (k * 2))))).run Tryd.prog wr = .ok (.agg s.cells) wr from by
    obtain ⟨a, rfl, _⟩ := hs.lt (by
      have h1 := (List.getElem?_eq_some_iff.1 h).1
      rw [gvs_len]
      omega)
    exact ⟨a, rfl, load_got (hs.chg C (by simp)) h⟩)
  have HGE := Lib.hid (fun k (hk : k < G.length) => show ∃ s, G[k]? = some s from ⟨_, List.getElem?_eq_getElem hk⟩)
  have HB := Lib.hid (fun wr (C : Chg [] w wr) (g : GotV) => cp_named g i q wr (C.cell_some hb (by simp)))
  have HAT := Lib.hid (fun (k : Nat) (g : GotV) (h : G[k]? = some g) => gotIx_at (i := i) h)
  have HNO := Lib.hid (gotIx_no (G := G) (i := i))
  have HNL := Lib.hid (fun (k : Nat) (h : ¬ k < G.length) => List.getElem?_eq_none (by omega : G.length ≤ k))
  obtain ⟨n, hn⟩ : ∃ n, G.length = n := ⟨_, rfl⟩
  rw [hn] at hl hlc HGE HNL ⊢
  clear hs hn hb
  go_enter Tryd.func88, Tryd.ntmps88
  go_wp2_with fail
  go_loopw [8] (fun v wr => ∃ k : Nat, v = .int .i64 (k : Int) ∧ k ≤ n ∧ Hid (∀ (t : Nat) (x : GotV), t < k → G[t]? = some x → x.block ≠ i) ∧ Hid (Chg [] w wr)) (fun v _ => n - (intOf v).toNat)
  case atStart => exact ⟨0, rfl, Nat.zero_le _, Lib.hid (fun t x ht => by omega), Lib.hid (Chg.refl _ _)⟩
  case round =>
    obtain ⟨k, rfl, hk, HX, HC⟩ := hrel
    by_cases hlt : k < n
    · have e1 : (k : Int) < n := Int.ofNat_lt.2 hlt
      have e0 : (0 : Int) ≤ k := Int.natCast_nonneg _
      have hkc : k < c := by omega
      obtain ⟨g, hg⟩ := HGE.out k hlt
      obtain ⟨a, rfl, hld⟩ := HST.out k g hg wr HC.out
      have KB := Lib.hid (HB.out wr HC.out g)
      have HG := Lib.hid hg
      generalize g.cells = gc at *
      clear hg
      go_wp2_with (refine wpList_load_y 104 (.tmp 14) rfl (by go_simp) (.pointer (some (a.add (k * 2)))) (.agg gc) hld rfl ?_)
      refine KB.out.mono ?_
      rintro e w5 ⟨rfl, C5⟩
      have HC5 := Lib.hid (HC.out.trans C5 (by simp))
      clear C5 hld
      by_cases hB : g.block = i
      · have hK : Hid (ixZ (gotIx G i) = (k : Int)) := Lib.hid (by rw [HAT.out k g HG.out hB HX.out]; rfl)
        have hd : decide (g.block = i) = true := decide_eq_true hB
        rw [hd]
        clear hB hd
        go_wp2_with fail
        go_ret
        exact ⟨by rw [hK.out]; rfl, HC5.out⟩
      · have hd : decide (g.block = i) = false := decide_eq_false hB
        have HX5 : Hid (∀ (t : Nat) (x : GotV), t < k + 1 → G[t]? = some x → x.block ≠ i) := Lib.hid (fun t y ht hy => by
          by_cases hik : t < k
          · exact HX.out t y hik hy
          · have : t = k := by omega
            subst this
            rw [HG.out] at hy
            cases hy
            exact hB)
        rw [hd]
        clear hB hd
        go_wp2_with fail
        go_roundw
        case rel => exact ⟨k + 1, by go_num, hlt, HX5, HC5⟩
        case measure => simp [intOf] <;> omega
    · have e1 : ¬ (k : Int) < n := fun h => hlt (Int.ofNat_lt.1 h)
      have hK : Hid (ixZ (gotIx G i) = -1) := Lib.hid (by
        rw [HNO.out (fun t x hx => HX.out t x (by
          refine Decidable.byContradiction (fun h => ?_)
          rw [HNL.out t (by omega)] at hx
          cases hx) hx)]
        rfl)
      go_wp2_with fail
      go_ret
      exact ⟨by rw [hK.out]; rfl, HC.out⟩
end Go.Proofs.YtfdhpjflkimihaaDoor
/- What is built of a plan, in plain words, and where its parts lie. No conditions beyond those that each statement types. -/
namespace Go.Proofs.YtfdhpjflkimihaaDoor
open Go.RowKit

/-- A part of what is built: of block i, when ps are the parts ahead of it. -/
def partV (r : RecV) (N : Nat) (T : List UInt8) (fo : HKey → Option (Pl × List UInt8)) (G : List GotV) (ps : List (List UInt8)) (i : Nat) (s : StepV) : List UInt8 :=
  if s.from_ = 1 then plT N T i
  else if s.from_ = 2 then fX (fo (hkey (r.dig i)))
  else if s.from_ = 3 then ps.getD s.same.toNat []
  else match gotIx G i with
    | some k => (G.getD k ⟨0, none, [], 0⟩).xs
    | none => []
def partsV (r : RecV) (N : Nat) (T : List UInt8) (fo : HKey → Option (Pl × List UInt8)) (G : List GotV) (l : List StepV) : Nat → List (List UInt8)
  | 0 => []
  | k + 1 => partsV r N T fo G l k ++ [partV r N T fo G (partsV r N T fo G l k) k (l.getD k ⟨0, 0, ⟨#[]⟩, 0, 0⟩)]
theorem partsV_len (r : RecV) (N : Nat) (T : List UInt8) (fo : HKey → Option (Pl × List UInt8)) (G : List GotV) (l : List StepV) (k : Nat) : (partsV r N T fo G l k).length = k := by
  induction k with
  | zero => rfl
  | succ k ih => rw [partsV, List.length_append, ih]; rfl
def badV (r : RecV) (ps : List (List UInt8)) : List Int := ((List.range ps.length).filter fun i => !rightB r i (ps.getD i [])).map (fun i : Nat => (i : Int))
theorem badV_next (r : RecV) (ps : List (List UInt8)) (x : List UInt8) : badV r (ps ++ [x]) = badV r ps ++ if rightB r ps.length x = true then [] else [(ps.length : Int)] := by
  unfold badV
  rw [List.length_append, List.length_singleton, List.range_succ, List.filter_append, List.map_append]
  congr 1
  · congr 1
    refine List.filter_congr (fun i hi => ?_)
    have hi := List.mem_range.1 hi
    rw [List.getD, List.getD, List.getElem?_append_left hi]
  · have e : (ps ++ [x]).getD ps.length [] = x := by rw [List.getD, List.getElem?_append_right (Nat.le_refl _), Nat.sub_self]; rfl
    rw [List.filter_cons, e, List.filter_nil]
    cases rightB r ps.length x <;> rfl
theorem badV_len (r : RecV) (ps : List (List UInt8)) : (badV r ps).length ≤ ps.length := by
  unfold badV
  rw [List.length_map]
  exact Nat.le_trans (List.length_filter_le _ _) (Nat.le_of_eq List.length_range)
/-- What Build answers: the bytes, the bad ones, the error. -/
structure BuiltV where
  out : List UInt8
  bad : List Int
  err : Int
def buildV (r : RecV) (N : Nat) (T : List UInt8) (fo : HKey → Option (Pl × List UInt8)) (G : List GotV) (l : List StepV) : BuiltV :=
  if r.want ≠ 0 then ⟨[], [], r.want⟩
  else if mayB l (cntN N) = false then ⟨[], [], 2⟩
  else if badV r (partsV r N T fo G l l.length) ≠ [] then ⟨[], badV r (partsV r N T fo G l l.length), 14⟩
  else ⟨(partsV r N T fo G l l.length).flatten, [], 0⟩
/-- It is handed back so, in memory of its own. -/
def BuiltTo (w : World) (x : BuiltV) (e : Ending) (w' : World) : Prop :=
  Chg [] w w' ∧ ∃ bo bc no nc, e = .returned (.tuple #[.slice bo x.out.length bc, .slice no x.bad.length nc, .int .i64 x.err]) ∧
    w'.ownsRow 0 5 1 (.slice bo x.out.length bc) x.out.length (bvs x.out) ∧ (∀ k, (Value.slice bo x.out.length bc).ownBlock = some k → w.heap.size ≤ k) ∧
    w'.ownsRow 0 3 1 (.slice no x.bad.length nc) x.bad.length (nvs x.bad) ∧ (∀ k, (Value.slice no x.bad.length nc).ownBlock = some k → w.heap.size ≤ k)
/-- A slice of bytes that is there, in none of the blocks of X. -/
def PV (w : World) (X : List Nat) (v : Value) (xs : List UInt8) : Prop :=
  ∃ po pc, v = .slice po xs.length pc ∧ Src w po (bvs xs) ∧ xs.length ≤ pc ∧ (po = none → pc = 0) ∧ (0 < xs.length → ∀ a, po = some a → a.block ∉ X ∧ a.block < w.heap.size)
theorem PV.chg {w w' : World} {X S : List Nat} {v : Value} {xs : List UInt8} (h : PV w X v xs) (C : Chg S w w') (hS : ∀ k ∈ S, k ∈ X ∨ w.heap.size ≤ k) : PV w' X v xs := by
  obtain ⟨po, pc, e, h1, h2, h3, h4⟩ := h
  refine ⟨po, pc, e, h1.chgN C (fun hp a ha hm => ?_), h2, h3, fun hp a ha => ⟨(h4 hp a ha).1, Nat.lt_of_lt_of_le (h4 hp a ha).2 C.size⟩⟩
  rw [bvs_length] at hp
  rcases hS _ hm with h | h
  · exact (h4 hp a ha).1 h
  · exact absurd (h4 hp a ha).2 (by omega)
theorem PV.grow {w : World} {X Y : List Nat} {v : Value} {xs : List UInt8} (h : PV w X v xs) (hY : ∀ k ∈ Y, k ∈ X ∨ w.heap.size ≤ k) : PV w Y v xs := by
  obtain ⟨po, pc, e, h1, h2, h3, h4⟩ := h
  refine ⟨po, pc, e, h1, h2, h3, fun hp a ha => ⟨fun hm => ?_, (h4 hp a ha).2⟩⟩
  rcases hY _ hm with h | h
  · exact (h4 hp a ha).1 h
  · exact absurd (h4 hp a ha).2 (by omega)
theorem PV.nil (w : World) (X : List Nat) : PV w X (.slice none 0 0) [] := ⟨_, 0, rfl, Src.empty _ _, Nat.le_refl _, fun _ => rfl, fun _ a h => by cases h⟩
/-- Bytes of the call's own. -/
theorem PV.own {w : World} {X : List Nat} {po : Option Addr} {pc : Nat} {xs : List UInt8} (h : w.ownsRow 0 5 1 (.slice po xs.length pc) xs.length (bvs xs)) (hX : ∀ k, (Value.slice po xs.length pc).ownBlock = some k → k ∉ X) : PV w X (.slice po xs.length pc) xs := by
  obtain ⟨ao, c, hv, hc, h0⟩ := ownsRow_slice h
  cases hv
  refine ⟨po, pc, rfl, ownsRow_src h, hc, fun h => (h0 h).2, fun _ a ha => ?_⟩
  subst ha
  rcases h.2 with ⟨hv, _⟩ | ⟨g, cap, cur, hv, _⟩
  · cases hv
  · cases hv
    exact ⟨hX g rfl, ownsRow_lt h g rfl⟩
/-- What was got, and what lies there. -/
structure GotsAt (w : World) (so : Option Addr) (c : Nat) (G : List GotV) : Prop where
  src : Src w so (gvs G)
  cap : G.length ≤ c
  nil : so = none → c = 0
  at_ : ∀ (k : Nat) (g : GotV), G[k]? = some g → PV w [] (.slice g.ao g.xs.length g.cap) g.xs
theorem GotsAt.chg {w w' : World} {so : Option Addr} {c : Nat} {G : List GotV} (h : GotsAt w so c G) (C : Chg [] w w') : GotsAt w' so c G :=
  ⟨h.src.chg C (by simp), h.cap, h.nil, fun k g hg => (h.at_ k g hg).chg C (by simp)⟩
theorem PV.short {w : World} {X : List Nat} {v : Value} {xs : List UInt8} (h : PV w X v xs) : ∃ po pc, v = .slice po xs.length pc ∧ xs.length ≤ pc ∧ (po = none → pc = 0) := by
  obtain ⟨po, pc, e, _, h2, h3, _⟩ := h
  exact ⟨po, pc, e, h2, h3⟩
/-- Between the rounds of Build: the row of parts, the bytes, the bad ones. -/
def forb (q : Nat) (u v : Value) : List Nat := q :: (u.ownBlock.toList ++ v.ownBlock.toList)
structure BSt (w2 wr : World) (q n : Nat) (ps : List (List UInt8)) (xs : List UInt8) (bad : List Int) (u v : Value) : Prop where
  C : Chg [q] w2 wr
  lq : q < w2.heap.size
  out : wr.ownsRow 0 5 1 u xs.length (bvs xs)
  outN : ∀ k, u.ownBlock = some k → w2.heap.size ≤ k
  bad : wr.ownsRow 0 3 1 v bad.length (nvs bad)
  badN : ∀ k, v.ownBlock = some k → w2.heap.size ≤ k
  row : ∃ pf, wr.rowIs q 25 n pf ∧ (∀ j x, ps[j]? = some x → PV wr (forb q u v) (pf j) x) ∧ ∀ j, ps.length ≤ j → j < n → pf j = .slice none 0 0
theorem nvs_len (l : List Int) : (nvs l).length = l.length := by simp [nvs]
theorem BSt.keep {w2 wr w' : World} {q n : Nat} {ps : List (List UInt8)} {xs : List UInt8} {bad : List Int} {u v : Value} (h : BSt w2 wr q n ps xs bad u v) (C : Chg [] wr w') : BSt w2 w' q n ps xs bad u v := by
  obtain ⟨pf, h1, h2, h3⟩ := h.row
  exact ⟨h.C.trans C (by simp), h.lq, ownsRow_chg h.out C (by simp), h.outN, ownsRow_chg h.bad C (by simp), h.badN, pf, h1.of_block (C.block q h1.lt (by simp)), fun j x hx => (h2 j x hx).chg C (by simp), h3⟩
theorem BSt.own_ne {w2 wr : World} {q n : Nat} {ps : List (List UInt8)} {xs : List UInt8} {bad : List Int} {u v : Value} (h : BSt w2 wr q n ps xs bad u v) : u.ownBlock ≠ some q ∧ v.ownBlock ≠ some q := by
  refine ⟨fun e => ?_, fun e => ?_⟩
  · have := h.outN q e; have := h.lq; omega
  · have := h.badN q e; have := h.lq; omega
theorem BSt.own_two {w2 wr : World} {q n : Nat} {ps : List (List UInt8)} {xs : List UInt8} {bad : List Int} {u v : Value} (h : BSt w2 wr q n ps xs bad u v) {k : Nat} (hu : u.ownBlock = some k) (hv : v.ownBlock = some k) : False := by
  rcases h.out.2 with ⟨rfl, _⟩ | ⟨g, cap, cur, rfl, _, hg, _⟩
  · cases hu
  · cases hu
    exact ownsRow_ne h.bad hg (by decide) hv
theorem BSt.put {w2 wr : World} {q n : Nat} {ps : List (List UInt8)} {xs : List UInt8} {bad : List Int} {u v : Value} (h : BSt w2 wr q n ps xs bad u v) {pv : Value} {x : List UInt8} (hp : PV wr (forb q u v) pv x) :
    BSt w2 (wr.setCell ⟨q, ps.length, none⟩ pv) q n (ps ++ [x]) xs bad u v := by
  obtain ⟨pf, h1, h2, h3⟩ := h.row
  have C : Chg [q] wr (wr.setCell ⟨q, ps.length, none⟩ pv) := Chg.setCell _ _ _ (.inl (by simp))
  obtain ⟨n1, n2⟩ := h.own_ne
  have hn : ∀ k ∈ [q], k ∈ forb q u v ∨ wr.heap.size ≤ k := fun k hk => .inl (by rw [List.mem_singleton.1 hk]; exact List.mem_cons_self)
  refine ⟨h.C.trans C (by simp), h.lq, ownsRow_chg h.out C (fun k hk hm => n1 (by rw [hk, List.mem_singleton.1 hm])), h.outN, ownsRow_chg h.bad C (fun k hk hm => n2 (by rw [hk, List.mem_singleton.1 hm])), h.badN, _, h1.set ps.length pv, ?_, fun j hj hn => by
    rw [List.length_append, List.length_singleton] at hj
    simp only [if_neg (show ¬ j = ps.length by omega)]
    exact h3 j (by omega) hn⟩
  intro j y hy
  by_cases hj : j = ps.length
  · subst hj
    rw [List.getElem?_append_right (Nat.le_refl _), Nat.sub_self] at hy
    cases hy
    simp only [if_true]
    exact hp.chg C hn
  · simp only [if_neg hj]
    refine (h2 j y ?_).chg C hn
    have hl := (List.getElem?_eq_some_iff.1 hy).1
    rw [List.length_append, List.length_singleton] at hl
    rwa [List.getElem?_append_left (by omega)] at hy
/-- A part that stays nil. -/
theorem BSt.skip {w2 wr : World} {q n : Nat} {ps : List (List UInt8)} {xs : List UInt8} {bad : List Int} {u v : Value} (h : BSt w2 wr q n ps xs bad u v) (hk : ps.length < n) : BSt w2 wr q n (ps ++ [[]]) xs bad u v := by
  obtain ⟨pf, h1, h2, h3⟩ := h.row
  refine ⟨h.C, h.lq, h.out, h.outN, h.bad, h.badN, pf, h1, ?_, fun j hj hn => h3 j (by rw [List.length_append] at hj; omega) hn⟩
  intro j y hy
  by_cases hj : j = ps.length
  · subst hj
    rw [List.getElem?_append_right (Nat.le_refl _), Nat.sub_self] at hy
    cases hy
    rw [h3 _ (Nat.le_refl _) hk]
    exact PV.nil _ _
  · have hl := (List.getElem?_eq_some_iff.1 hy).1
    rw [List.length_append, List.length_singleton] at hl
    refine h2 j y ?_
    rwa [List.getElem?_append_left (by omega)] at hy
/-- What lies in the row. -/
theorem BSt.cell {w2 wr : World} {q n : Nat} {ps : List (List UInt8)} {xs : List UInt8} {bad : List Int} {u v : Value} (h : BSt w2 wr q n ps xs bad u v) {j : Nat} (hj : j < n) : ∃ pv, wr.cell? ⟨q, j, none⟩ = some pv ∧ wr.frozen? ⟨q, j, none⟩ = false ∧ (∀ x, ps[j]? = some x → PV wr (forb q u v) pv x) := by
  obtain ⟨pf, h1, h2, h3⟩ := h.row
  exact ⟨_, h1.cell hj, h1.frozen j, fun x hx => h2 j x hx⟩
theorem forb_lt {w2 wr : World} {q n : Nat} {ps : List (List UInt8)} {xs : List UInt8} {bad : List Int} {u v : Value} (h : BSt w2 wr q n ps xs bad u v) : ∀ k ∈ forb q u v, k < wr.heap.size ∧ (k = q ∨ w2.heap.size ≤ k) := by
  intro k hk
  simp only [forb, List.mem_append, List.mem_cons, Option.mem_toList] at hk
  rcases hk with rfl | hk | hk
  · exact ⟨Nat.lt_of_lt_of_le h.lq h.C.size, .inl rfl⟩
  · exact ⟨ownsRow_lt h.out k hk, .inr (h.outN k hk)⟩
  · exact ⟨ownsRow_lt h.bad k hk, .inr (h.badN k hk)⟩
theorem BSt.out_to {w2 wr w' : World} {q n m c : Nat} {ps : List (List UInt8)} {xs x : List UInt8} {bad : List Int} {u v : Value} {ao : Option Addr} (h : BSt w2 wr q n ps xs bad u v) (hm : m = (xs ++ x).length) (ho : w'.ownsRow 0 5 1 (.slice ao m c) m (bvs xs ++ bvs x))
    (hg : wr.grownBy w' u.ownBlock) (hb : (Value.slice ao m c).ownBlock = u.ownBlock ∨ (Value.slice ao m c).ownBlock = some wr.heap.size) : BSt w2 w' q n ps (xs ++ x) bad (.slice ao m c) v := by
  subst hm
  obtain ⟨pf, h1, h2, h3⟩ := h.row
  obtain ⟨n1, n2⟩ := h.own_ne
  have C : Chg u.ownBlock.toList wr w' := Chg.grown hg (fun k hk => .inl (by simp [hk]))
  have hq : q ∉ u.ownBlock.toList := fun hm => n1 (by simpa using hm)
  have hsz := h.C.size
  refine ⟨h.C.trans C (fun k hk => .inr (h.outN k (by simpa using hk))), h.lq, by rw [bvs_append]; exact ho, fun k hk => ?_, ownsRow_chg h.bad C (fun k hk hm => h.own_two (by simpa using hm) hk), h.badN, pf, h1.of_block (C.block q h1.lt hq), fun j y hy => ?_, h3⟩
  · rcases hb with e | e
    · exact h.outN k (by rw [← e]; exact hk)
    · rw [e] at hk; cases hk; exact hsz
  · refine ((h2 j y hy).grow (Y := forb q (.slice ao (xs ++ x).length c) v ++ u.ownBlock.toList) (fun k hk => ?_)).chg C (fun k hk => .inl (by simp only [List.mem_append]; exact .inr hk)) |>.grow (fun k hk => .inl (by simp only [List.mem_append]; exact .inl hk))
    simp only [forb, List.mem_append, List.mem_cons, Option.mem_toList] at hk ⊢
    rcases hk with (hk | hk | hk) | hk
    · exact .inl (.inl hk)
    · rcases hb with e | e
      · exact .inl (.inr (.inl (by rw [← e]; exact hk)))
      · rw [e] at hk; cases hk; exact .inr (Nat.le_refl _)
    · exact .inl (.inr (.inr hk))
    · exact .inl (.inr (.inl hk))
theorem BSt.bad_to {w2 wr w' : World} {q n m c : Nat} {ps : List (List UInt8)} {xs : List UInt8} {bad : List Int} {b : Int} {u v : Value} {ao : Option Addr} (h : BSt w2 wr q n ps xs bad u v) (hm : m = (bad ++ [b]).length) (ho : w'.ownsRow 0 3 1 (.slice ao m c) m (nvs bad ++ [.int .i64 b]))
    (hg : wr.grownBy w' v.ownBlock) (hb : (Value.slice ao m c).ownBlock = v.ownBlock ∨ (Value.slice ao m c).ownBlock = some wr.heap.size) : BSt w2 w' q n ps xs (bad ++ [b]) u (.slice ao m c) := by
  subst hm
  obtain ⟨pf, h1, h2, h3⟩ := h.row
  obtain ⟨n1, n2⟩ := h.own_ne
  have C : Chg v.ownBlock.toList wr w' := Chg.grown hg (fun k hk => .inl (by simp [hk]))
  have hq : q ∉ v.ownBlock.toList := fun hm => n2 (by simpa using hm)
  have hsz := h.C.size
  refine ⟨h.C.trans C (fun k hk => .inr (h.badN k (by simpa using hk))), h.lq, ownsRow_chg h.out C (fun k hk hm => h.own_two hk (by simpa using hm)), h.outN, by rw [nvs_append]; exact ho, fun k hk => ?_, pf, h1.of_block (C.block q h1.lt hq), fun j y hy => ?_, h3⟩
  · rcases hb with e | e
    · exact h.badN k (by rw [← e]; exact hk)
    · rw [e] at hk; cases hk; exact hsz
  · refine ((h2 j y hy).grow (Y := forb q u (.slice ao (bad ++ [b]).length c) ++ v.ownBlock.toList) (fun k hk => ?_)).chg C (fun k hk => .inl (by simp only [List.mem_append]; exact .inr hk)) |>.grow (fun k hk => .inl (by simp only [List.mem_append]; exact .inl hk))
    simp only [forb, List.mem_append, List.mem_cons, Option.mem_toList] at hk ⊢
    rcases hk with (hk | hk | hk) | hk
    · exact .inl (.inl hk)
    · exact .inl (.inr (.inl hk))
    · rcases hb with e | e
      · exact .inl (.inr (.inr (by rw [← e]; exact hk)))
      · rw [e] at hk; cases hk; exact .inr (Nat.le_refl _)
    · exact .inl (.inr (.inr hk))
end Go.Proofs.YtfdhpjflkimihaaDoor
/- The copier's Build, walked. No conditions beyond those that each statement types. -/
namespace Go.Proofs.YtfdhpjflkimihaaDoor
open Go.RowKit

theorem infoBytesU : (Tryd.prog.info? 25).map (fun i => (i.zero, i.size, i.bytes)) = some (some (.slice none 0 0), 1, 24) := by kernel_rfl
theorem infoByteU : (Tryd.prog.info? 5).map (fun i => (i.zero, i.size, i.bytes)) = some (some (.int .u8 0), 1, 1) := by kernel_rfl
theorem BuiltTo.none (w w' : World) (e : Int) (C : Chg [] w w') : BuiltTo w ⟨[], [], e⟩ (.returned (.tuple #[.slice none 0 0, .slice none 0 0, .int .i64 e])) w' :=
  ⟨C, Option.none, 0, Option.none, 0, rfl, World.ownsRow_nil _ _ _ _, (fun (k : Nat) (hk : Option.none = some k) => by cases hk), World.ownsRow_nil _ _ _ _, (fun (k : Nat) (hk : Option.none = some k) => by cases hk)⟩
theorem mayB_true {l : List StepV} {n : Nat} (h : mayB l n = true) : l.length = n ∧ ∀ (k : Nat) (s : StepV), l[k]? = some s → badS k s = false := by
  have hk : ∀ (k : Nat) (s : StepV), l[k]? = some s → badS k s = false := fun k s hs => by
    cases hb : badS k s with
    | false => rfl
    | true => rw [mayB_bad hs hb] at h; cases h
  rw [mayB_all (fun t s _ hs => hk t s hs)] at h
  exact ⟨of_decide_eq_true h, hk⟩
theorem badS_no {k : Nat} {s : StepV} (h : badS k s = false) : s.block = (k : Int) ∧ 1 ≤ s.from_ ∧ s.from_ ≤ 4 ∧ (s.from_ = 3 → 0 ≤ s.same ∧ s.same < (k : Int)) := by
  unfold badS at h
  have h := of_decide_eq_false h
  omega
theorem partV_short {r : RecV} {N : Nat} {T : List UInt8} {fo : HKey → Option (Pl × List UInt8)} {G : List GotV} (hfo : ∀ k, (fX (fo k)).length ≤ 128) (hG : ∀ (k : Nat) (g : GotV), G[k]? = some g → g.xs.length ≤ 1000000) (ps : List (List UInt8)) (hp : ∀ x ∈ ps, x.length ≤ 1000000) (i : Nat) (s : StepV) :
    (partV r N T fo G ps i s).length ≤ 1000000 := by
  unfold partV
  split
  · exact Nat.le_trans (plT_128 N T i) (by decide)
  · split
    · exact Nat.le_trans (hfo _) (by decide)
    · split
      · rw [List.getD]
        cases h : ps[s.same.toNat]? with
        | none => exact Nat.zero_le _
        | some x => exact hp x (List.mem_of_getElem? h)
      · split
        · rename_i k hk
          obtain ⟨g, hg, _⟩ := gotIx_lt hk
          rw [List.getD, hg]
          exact hG k g hg
        · exact Nat.zero_le _
theorem partsV_short {r : RecV} {N : Nat} {T : List UInt8} {fo : HKey → Option (Pl × List UInt8)} {G : List GotV} (hfo : ∀ k, (fX (fo k)).length ≤ 128) (hG : ∀ (k : Nat) (g : GotV), G[k]? = some g → g.xs.length ≤ 1000000) (l : List StepV) :
    ∀ k, (∀ x ∈ partsV r N T fo G l k, x.length ≤ 1000000) ∧ (partsV r N T fo G l k).flatten.length ≤ k * 1000000 := by
  intro k
  induction k with
  | zero => exact ⟨fun x hx => (List.not_mem_nil hx).elim, Nat.le_refl _⟩
  | succ k ih =>
    have h := partV_short (r := r) (N := N) (T := T) hfo hG (partsV r N T fo G l k) ih.1 k (l.getD k ⟨0, 0, ⟨#[]⟩, 0, 0⟩)
    refine ⟨fun x hx => ?_, ?_⟩
    · rw [partsV, List.mem_append, List.mem_singleton] at hx
      rcases hx with hx | rfl
      · exact ih.1 x hx
      · exact h
    · rw [partsV, List.flatten_append, List.length_append, List.flatten_cons, List.flatten_nil, List.append_nil]
      have := ih.2
      omega
set_option maxRecDepth 100000 in
theorem cp_build_not (RC : Array Value) (r : RecV) (ao : Option Addr) (c : Nat) (hw : r.want ≠ 0) (lv : Value) (p : Option Addr) (tv gv : Value) (w : World) (H : RecIs w RC r ao c) :
    Calls Tryd.prog 54 #[.agg RC, lv, .pointer p, tv, gv] w (BuiltTo w ⟨[], [], r.want⟩) := by
  have hx0 := heap_alloc_new w (.cells RC 77)
  have C0 := Chg.alloc [] w (.cells RC 77)
  have KW := Lib.hid (fun w' (C : Chg [] w w') => cp_wanted RC r ao c w' (H.chg0 C))
  have hldr := run_loadAt_rec _ _ RC _ hx0 H.size
  generalize r.want = W at *
  clear H hx0
  go_enter Tryd.func54, Tryd.ntmps54
  go_wp2_with (refine wpList_load_y 77 (.tmp 5) rfl (by go_simp) (.pointer (some ⟨w.heap.size, 0, none⟩)) (.agg RC) hldr rfl ?_)
  refine (KW.out _ C0).mono ?_
  rintro e w2 ⟨rfl, C2⟩
  have HC2 := Lib.hid (C0.trans C2 (by simp))
  clear C0 C2 hldr
  go_wp2_with fail
  go_ret3
  exact BuiltTo.none _ _ _ HC2.out
set_option maxRecDepth 100000 in
set_option maxHeartbeats 8000000 in
theorem cp_build (RC : Array Value) (r : RecV) (ao : Option Addr) (c : Nat) (N : Nat) (g : r.Good N) (l : List StepV) (so : Option Addr) (sc : Nat) (p : Option Addr) (fo : HKey → Option (Pl × List UInt8)) (ta : Option Addr) (tc : Nat) (T : List UInt8) (G : List GotV) (go : Option Addr) (gc : Nat) (w : World)
    (hL : Laid w) (H : RecIs w RC r ao c) (hF : FindsAs w p fo) (hfo : ∀ k, (fX (fo k)).length ≤ 128) (hs : Src w ta (bvs T)) (hT : T.length ≤ 9223372036854775807) (htc : T.length ≤ tc) (h0 : ta = none → tc = 0)
    (hl : Src w so (svs l)) (hlc : l.length ≤ sc) (hl6 : l.length ≤ 1000000) (hG : GotsAt w go gc G) (hG6 : G.length ≤ 1000000) (hGx : ∀ (k : Nat) (g : GotV), G[k]? = some g → g.xs.length ≤ 1000000) :
    Calls Tryd.prog 54 #[.agg RC, .slice so l.length sc, .pointer p, .slice ta T.length tc, .slice go G.length gc] w (BuiltTo w (buildV r N T fo G l)) := by
  have hx0 := heap_alloc_new w (.cells RC 77)
  have C0 := Chg.alloc [] w (.cells RC 77)
  have KW := Lib.hid (fun w' (C : Chg [] w w') => by
    have := cp_wanted RC r ao c w' (H.chg0 C)
    rewrite [g.want] at this
    exact this)
  have KM := Lib.hid (fun w' (C : Chg [] w w') => cp_may l so sc (cntN N) w' (hl.chg C (by simp)) hlc hl6)
  have HST := Lib.hid (fun (k : Nat) (s : StepV) (h : l[k]? = some s) (wr : World) (C : Chg [] w wr) => show ∃ a, so = some a ∧ (Instr.loadAt 85 (.pointer (some (a.add (k * 5))))).run Tryd.prog wr = .ok (.agg s.cells) wr from by
    obtain ⟨a, rfl, _⟩ := hl.lt (by
      have h1 := (List.getElem?_eq_some_iff.1 h).1
      rw [show (svs l).length = l.length * 5 from flat_length (enc := fun s : StepV => s.cells.toList) (size := 5) (fun _ => rfl) l]
      omega)
    exact ⟨a, rfl, load_step (hl.chg C (by simp)) h⟩)
  have HGE := Lib.hid (fun k (hk : k < l.length) => show ∃ s, l[k]? = some s from ⟨_, List.getElem?_eq_getElem hk⟩)
  have KP := Lib.hid (fun (i : Nat) (hi : i < cntN N) w' (C : Chg [] w w') => cp_placed RC r ao c N g i hi ta tc T w' (H.chg0 C) (hs.chg C (by simp)) hT htc h0)
  have KF := Lib.hid (fun w' k (C : Chg [] w w') => hF w' k C)
  have KI := Lib.hid (fun (i : Int) (q : Nat) w' (C : Chg [] w w') => cp_index G i go gc q w' (hG.src.chg C (by simp)) hG.cap hG6)
  have KR := Lib.hid (fun (i : Nat) (hi : i < cntN N) (po : Option Addr) (pc : Nat) (xs : List UInt8) w' (C : Chg [] w w') (h1 : Src w' po (bvs xs)) (h2 : xs.length ≤ 1000000) (h3 : xs.length ≤ pc) => cp_right RC r ao c N g i hi po pc xs w' (hL.chg C (by simp)) (H.chg0 C) h1 h2 h3)
  have HLD := Lib.hid (fun (k : Nat) (hk : k < cntN N) (w' : World) (C : Chg [] w w') => show ∃ a fk, ao = some a ∧ r.dig k = fk ∧ (Instr.loadAt 32 (.pointer (some (a.add (k * 32))))).run Tryd.prog w' = .ok (.agg (hashC fk)) w' from by
    obtain ⟨fk, hfk⟩ : ∃ fk, r.L[k]? = some fk := ⟨_, List.getElem?_eq_getElem (by rw [g.len]; exact hk)⟩
    have hsrc := H.src
    obtain ⟨a, rfl, _⟩ := hsrc.lt (by
      have h1 := (List.getElem?_eq_some_iff.1 hfk).1
      rw [hvs_length]
      omega)
    exact ⟨a, fk, rfl, by unfold RecV.dig; rw [List.getD, hfk]; rfl, load_blk (hsrc.chg C (by simp)) hfk⟩)
  have HGOT := Lib.hid (fun (k : Nat) (g : GotV) (h : G[k]? = some g) (wr : World) (C : Chg [] w wr) => show ∃ a, go = some a ∧ a.block < w.heap.size ∧ wr.cell? (a.add (k * 2 + 1)) = some (.slice g.ao g.xs.length g.cap) ∧ PV w [] (.slice g.ao g.xs.length g.cap) g.xs from by
    have h1 := (List.getElem?_eq_some_iff.1 h).1
    obtain ⟨a, ha, hlt⟩ := hG.src.lt (by rw [gvs_len]; omega)
    subst ha
    refine ⟨a, rfl, hlt, ?_, hG.at_ k g h⟩
    have hc := src_flat (w := wr) (a := a) (cells := fun s : GotV => s.cells.toList) (size := 2) (fun _ => rfl) ((hG.src.chg C (by simp)).cell a rfl) h 1 (.slice g.ao g.xs.length g.cap) rfl
    rwa [addr_add_add] at hc)
  have HGL := Lib.hid (fun (i : Int) (k : Nat) (h : gotIx G i = some k) => show ∃ g, G[k]? = some g ∧ k < G.length ∧ (G.getD k ⟨0, none, [], 0⟩).xs = g.xs from by
    obtain ⟨g, hg, _⟩ := gotIx_lt h
    exact ⟨g, hg, (List.getElem?_eq_some_iff.1 hg).1, by rw [List.getD, hg]; rfl⟩)
  have HGC := Lib.hid (show G.length ≤ gc from hG.cap)
  obtain ⟨n, hn⟩ : ∃ n, cntN N = n := ⟨_, rfl⟩
  have hn32 : n ≤ 32 := by rw [← hn]; exact cntN_le N
  have hbl := H.bl
  rw [g.len, hn] at hbl
  rw [hn] at KM KP KR HLD
  have hnc : n ≤ c := by have := H.cap; rw [g.len, hn] at this; exact this
  have HBL := Lib.hid hbl
  have HRS := Lib.hid H.size
  have HTS := Lib.hid (part_in_old hs)
  have HFO := Lib.hid hfo
  have HPT := Lib.hid (fun i => plT_len N T i)
  have HSH := Lib.hid (partsV_short (r := r) (N := N) (T := T) hfo hGx l)
  have HPS : Hid (∀ (k : Nat) (s : StepV), l[k]? = some s → partsV r N T fo G l (k + 1) = partsV r N T fo G l k ++ [partV r N T fo G (partsV r N T fo G l k) k s]) := Lib.hid (fun k s hs => by rw [partsV, List.getD, hs]; rfl)
  have HPL := Lib.hid (partsV_len r N T fo G l)
  have HP0 : Hid (partsV r N T fo G l 0 = []) := Lib.hid rfl
  have HPV : Hid (∀ ps i s, partV r N T fo G ps i s = if s.from_ = 1 then plT N T i else if s.from_ = 2 then fX (fo (hkey (r.dig i))) else if s.from_ = 3 then ps.getD s.same.toNat [] else match gotIx G i with | some k => (G.getD k ⟨0, none, [], 0⟩).xs | none => []) := Lib.hid (fun ps i s => rfl)
  have HBV : Hid (mayB l n = false → buildV r N T fo G l = ⟨[], [], 2⟩) := Lib.hid (fun h => by unfold buildV; rw [if_neg (by rw [g.want]; simp), hn, if_pos h])
  have HBB : Hid (mayB l n = true → badV r (partsV r N T fo G l n) ≠ [] → buildV r N T fo G l = ⟨[], badV r (partsV r N T fo G l n), 14⟩) := Lib.hid (fun h h2 => by unfold buildV; rw [if_neg (by rw [g.want]; simp), hn, if_neg (by rw [h]; decide), (mayB_true h).1, if_pos h2])
  have HBO : Hid (mayB l n = true → badV r (partsV r N T fo G l n) = [] → buildV r N T fo G l = ⟨(partsV r N T fo G l n).flatten, [], 0⟩) := Lib.hid (fun h h2 => by unfold buildV; rw [if_neg (by rw [g.want]; simp), hn, if_neg (by rw [h]; decide), (mayB_true h).1, if_neg (fun h3 => h3 h2)])
  obtain ⟨tn, htn⟩ : ∃ tn, T.length = tn := ⟨_, rfl⟩
  obtain ⟨ln, hln⟩ : ∃ ln, l.length = ln := ⟨_, rfl⟩
  obtain ⟨gn, hgn⟩ : ∃ gn, G.length = gn := ⟨_, rfl⟩
  have HTN := Lib.hid htn
  have HLNN := Lib.hid hln
  rw [hln] at KM HGE hlc
  rw [hgn] at KI HGL HGC
  rw [htn] at KP
  rw [hln, hgn, htn]
  generalize partsV r N T fo G l = PS at *
  generalize buildV r N T fo G l = BU at *
  clear H hL hF hfo hs hT htc h0 hn hbl htn hgn hl hl6 hG hG6 hGx hln
  go_enter Tryd.func54, Tryd.ntmps54
  go_upto_region 1 with (fail)
  obtain ⟨q, hq⟩ : ∃ q, w.heap.size = q := ⟨_, rfl⟩
  rw [hq] at hx0 ⊢
  generalize w.alloc (.cells RC 77) = w1 at *
  have HC0 := Lib.hid C0
  have HX0 := Lib.hid hx0
  have HLDR := Lib.hid (fun (w' : World) (C : Chg [] w1 w') => run_loadAt_rec w' q RC _ ((C.block q (lt_of_block hx0) (by simp)).trans hx0) HRS.out)
  have hldr := HLDR.out w1 (Chg.refl _ _)
  have HQ := Lib.hid hq
  clear hq hx0 C0
  go_wp2_with (refine wpList_load_y 77 (.tmp 5) rfl (by go_simp) (.pointer (some ⟨q, 0, none⟩)) (.agg RC) hldr rfl ?_)
  refine (KW.out _ HC0.out).mono ?_
  rintro e w2 ⟨rfl, C2⟩
  have HC2 := Lib.hid C2
  have c23 : w2.cell? ⟨q, 23, none⟩ = some (.slice ao n c) := by rw [cell_of_row _ _ _ _ _ _ ((C2.block q (lt_of_block HX0.out) (by simp)).trans HX0.out)]; exact HBL.out
  clear C2 hldr
  go_wp2_with fail
  refine (KM.out _ (HC0.out.trans HC2.out (by simp))).mono ?_
  rintro e w3 ⟨rfl, C3⟩
  have HC3 := Lib.hid (HC2.out.trans C3 (by simp))
  clear C3 c23 HC2
  obtain ⟨mb, hmb⟩ : ∃ mb, mayB l n = mb := ⟨_, rfl⟩
  have HMB := Lib.hid hmb
  rw [hmb]
  clear hmb
  cases mb with
  | false =>
    go_wp2_with fail
    go_ret3
    rw [HBV.out HMB.out]
    exact BuiltTo.none _ _ _ (HC0.out.trans HC3.out (by simp))
  | true =>
    have hln : ln = n := by rw [← HLNN.out]; exact (mayB_true HMB.out).1
    have HOK := Lib.hid (mayB_true HMB.out).2
    subst hln
    have hmk := fun w => run_make_row' (P := Tryd.prog) 106 25 (.slice none 0 0) 24 Tryd.underlying106 infoBytesU rfl .i64 .i64 ln (by omega) (by omega) w
    go_upto_region 7 with (fail)
    obtain ⟨q2, hq2⟩ : ∃ q2, w3.heap.size = q2 := ⟨_, rfl⟩
    have CM := Chg.alloc [] w3 (.cells (madeCells #[.slice none 0 0] ln) 25)
    have hrow := World.rowIs_made w3 (.slice none 0 0) ln 25
    have hlt2 : w3.heap.size < (w3.alloc (.cells (madeCells #[.slice none 0 0] ln) 25)).heap.size := by simp
    have hqq := HC3.out.size
    have hqx := lt_of_block HX0.out
    rw [hq2] at hrow hlt2 hqq ⊢
    generalize w3.alloc (.cells (madeCells #[.slice none 0 0] ln) 25) = w4 at *
    have HC4 := Lib.hid (HC3.out.trans CM (by simp))
    have HQ4 := Lib.hid hlt2
    have HQ2 : Hid (q < q2) := Lib.hid (by omega)
    have HB0 : Hid (BSt w4 w4 q2 ln (PS 0) (PS 0).flatten (badV r (PS 0)) (.slice none 0 0) (.slice none 0 0)) := Lib.hid (by
      rw [HP0.out]
      refine ⟨Chg.refl _ _, hlt2, World.ownsRow_nil _ _ _ _, (fun k hk => by cases hk), World.ownsRow_nil _ _ _ _, (fun k hk => by cases hk), _, hrow, (fun j x hx => by cases hx), fun j _ _ => rfl⟩)
    have HO0 : Hid (0 = (PS 0).flatten.length) := Lib.hid (by rw [HP0.out]; rfl)
    have HN0 : Hid (0 = (badV r (PS 0)).length) := Lib.hid (by rw [HP0.out]; rfl)
    clear hmk CM hrow hlt2 hqq hqx hq2
    go_wp2_with fail
    go_loopw [10, 11, 34] (fun v10 v11 v34 wr => ∃ (k ol nl oc nc : Nat) (oo no : Option Addr), v10 = .slice oo ol oc ∧ v11 = .slice no nl nc ∧ v34 = .int .i64 (k : Int) ∧ k ≤ ln ∧ Hid (ol = (PS k).flatten.length) ∧ Hid (nl = (badV r (PS k)).length) ∧ Hid (BSt w4 wr q2 ln (PS k) (PS k).flatten (badV r (PS k)) (.slice oo ol oc) (.slice no nl nc))) (fun _ _ v _ => ln - (intOf v).toNat)
    case atStart => exact ⟨0, 0, 0, 0, 0, none, none, rfl, rfl, rfl, Nat.zero_le _, HO0, HN0, HB0⟩
    case round =>
      obtain ⟨k, ol, nl, oc, nc, oo, no, rfl, rfl, rfl, hk, HOL, HNL, HB⟩ := hrel
      clear HB0 HO0 HN0
      by_cases hlt : k < ln
      · have e1 : (k : Int) < ln := Int.ofNat_lt.2 hlt
        have e0 : (0 : Int) ≤ k := Int.natCast_nonneg _
        have hkc : k < c := by omega
        have hks : k < sc := by omega
        obtain ⟨s, hsk⟩ := HGE.out k hlt
        have HCW : Hid (∀ wz, Chg [] wr wz → Chg [] w wz) := Lib.hid (fun wz C => ((HC0.out.trans HC4.out (by simp)).trans HB.out.C (fun j hj => .inr (by
          have := HQ.out
          have := HQ2.out
          rw [List.mem_singleton.1 hj]; omega))).trans C (by simp))
        obtain ⟨a, rfl, hld⟩ := HST.out k s hsk wr (HCW.out wr (Chg.refl _ _))
        have HSS := Lib.hid (HPS.out k s hsk)
        have HPX' := Lib.hid (HPV.out (PS k) k s)
        obtain ⟨hs1, hs2, hs3, hs4⟩ := badS_no (HOK.out k s hsk)
        generalize partV r N T fo G (PS k) k s = X at *
        obtain ⟨s1, s2, s3, s4, s5⟩ := s
        have HS4 : Hid (s2 = 3 → 0 ≤ s5 ∧ s5 < (k : Int)) := Lib.hid hs4
        have HSX : Hid (X = if s2 = 1 then plT N T k else if s2 = 2 then fX (fo (hkey (r.dig k))) else if s2 = 3 then (PS k).getD s5.toNat [] else match gotIx G k with | some k => (G.getD k ⟨0, none, [], 0⟩).xs | none => []) := HPX'
        simp only [StepV.cells] at hld
        simp only at hs1 hs2 hs3 
        subst hs1
        have CA := (Chg.alloc [] wr (.cells #[.int .i64 (k : Int)] 3)).trans (Chg.alloc [] (wr.alloc (.cells #[.int .i64 (k : Int)] 3)) (.cells #[.int .i64 (k : Int), .int .i64 s2, .string s3, .int .i64 s4, .int .i64 s5] 85)) (by simp)
        have xi := ((Chg.alloc [] (wr.alloc (.cells #[.int .i64 (k : Int)] 3)) (.cells #[.int .i64 (k : Int), .int .i64 s2, .string s3, .int .i64 s4, .int .i64 s5] 85)).block _ (lt_of_block (heap_alloc_new wr (.cells #[.int .i64 (k : Int)] 3))) (by simp)).trans (heap_alloc_new wr (.cells #[.int .i64 (k : Int)] 3))
        have xs5 := heap_alloc_new (wr.alloc (.cells #[.int .i64 (k : Int)] 3)) (.cells #[.int .i64 (k : Int), .int .i64 s2, .string s3, .int .i64 s4, .int .i64 s5] 85)
        have sz1 : (wr.alloc (.cells #[.int .i64 (k : Int)] 3)).heap.size = wr.heap.size + 1 := by simp
        rw [sz1] at xs5
        clear hsk hs4 HPX'
        go_upto_region 10 with (refine wpList_load_y 85 (.tmp 37) rfl (by go_simp) (.pointer (some (a.add (k * 5)))) (.agg #[.int .i64 (k : Int), .int .i64 s2, .string s3, .int .i64 s4, .int .i64 s5]) hld rfl ?_)
        obtain ⟨qi, hqi⟩ : ∃ qi, wr.heap.size = qi := ⟨_, rfl⟩
        rw [hqi] at xi xs5 sz1 ⊢
        generalize (wr.alloc (.cells #[.int .i64 (k : Int)] 3)).alloc (.cells #[.int .i64 (k : Int), .int .i64 s2, .string s3, .int .i64 s4, .int .i64 s5] 85) = w5 at *
        have X5 := Lib.hid xi
        have XS5 := Lib.hid xs5
        have HB5 := Lib.hid (HB.out.keep CA)
        have HFQ : Hid (∀ j ∈ forb q2 (.slice oo ol oc) (.slice no nl nc), j < qi) := Lib.hid (fun j hj => by rw [← hqi]; exact (forb_lt HB.out j hj).1)
        have HNE : Hid (qi ≠ q2 ∧ q ≠ q2) := Lib.hid (by
          have h1 := HB.out.C.size
          have h2 := HQ4.out
          have h3 := HQ2.out
          omega)
        have HQI : Hid (q2 < qi) := Lib.hid (by
          have h1 := HB.out.C.size
          have h2 := HQ4.out
          omega)
        have HCW5 : Hid (∀ wz, Chg [] w5 wz → Chg [] w wz) := Lib.hid (fun wz C => HCW.out wz (CA.trans C (by simp)))
        have XR5 := Lib.hid ((CA.block q (by
          have h1 := HB.out.C.size
          have h2 := HQ4.out
          have h3 := HQ2.out
          omega) (by simp)).trans ((HB.out.C.block q (by
          have h2 := HQ4.out
          have h3 := HQ2.out
          omega) (fun hm => HNE.out.2 (List.mem_singleton.1 hm))).trans ((HC4.out.block q (lt_of_block HX0.out) (by simp)).trans HX0.out)))
        have z1 : w5.cell? ⟨qi + 1, 1, none⟩ = some (.int .i64 s2) := by rw [cell_of_row _ _ _ _ _ _ xs5]; rfl
        have HPLK := Lib.hid (HPL.out k)
        clear hld CA xi xs5 sz1 hqi HCW HB
        go_cut [40] (fun v w' => v = .int .i64 s2 ∧ w5 = w')
        case first =>
          go_wp2_with fail
          all_goals go_meet
          case rel => exact ⟨rfl, rfl⟩
        case rest =>
        rename_i hK0
        obtain ⟨rfl, rfl⟩ := hcut
        refine hK0 _ _ ?_
        clear hK0 z1
        go_cut [10] (fun v w' => v = .slice oo ol oc ∧ Hid (BSt w4 w' q2 ln (PS (k + 1)) (PS k).flatten (badV r (PS k)) (.slice oo ol oc) (.slice no nl nc)) ∧ Hid (Chg [q2] w5 w'))
        case first =>
          by_cases g1 : s2 = 1
          · subst g1
            have HPX : Hid (X = plT N T k) := Lib.hid (by rw [HSX.out]; rfl)
            clear HSX
            go_upto_region 15 with (fail)
            refine wp_region_held_drew (S := fun w' => Chg [q2] w5 w') (by kernel_rfl) ((Chg.drewN [q2] w5 1)) (fun H0 => ?_)
            refine' tkH (i := 0) (v := _) rfl (Or.inl ⟨by rfl, ?hyp0⟩) H0 ?restp0
            case hyp0 =>
              intro w' hSw
              have s1 := hSw
              go_simp
              try with_reducible rfl
            (try simp only [Act.put, List.getElem_toArray, List.getElem_cons_zero, List.setIfInBounds_toArray, List.set_cons_zero, List.set_cons_succ])
            refine' tkH (i := 1) (v := _) rfl (Or.inl ⟨by rfl, ?hyp1⟩) H0 ?restp1
            case hyp1 =>
              intro w' hSw
              have s1 := hSw
              have hc := (show w'.cell? ⟨qi, 0, none⟩ = some (.int .i64 (k : Int)) by rw [cell_of_row _ _ _ _ _ _ ((Chg.block (show Chg [q2] w5 w' from s1) qi (lt_of_block X5.out) (fun hm => HNE.out.1 (List.mem_singleton.1 hm))).trans X5.out)]; rfl)
              go_simp
              try with_reducible rfl
            (try simp only [Act.put, List.getElem_toArray, List.getElem_cons_succ, List.getElem_cons_zero, List.setIfInBounds_toArray, List.set_cons_zero, List.set_cons_succ])
            refine' tkH (i := 2) (v := .agg RC) rfl (Or.inl ⟨by rfl, ?hyp2⟩) H0 ?restp2
            case hyp2 =>
              intro w' hSw
              have s1 := hSw
              have hl := run_loadAt_rec w' q RC _ ((Chg.block (show Chg [q2] w5 w' from s1) q (lt_of_block XR5.out) (fun hm => HNE.out.2 (List.mem_singleton.1 hm))).trans XR5.out) HRS.out
              simp [execOp, Act.eval, hl, Result.andThen]
            (try simp only [Act.put, List.getElem_toArray, List.getElem_cons_succ, List.getElem_cons_zero, List.setIfInBounds_toArray, List.set_cons_zero, List.set_cons_succ])
            refine' tkH (i := 3) (v := _) rfl (Or.inl ⟨by rfl, ?hyp3⟩) H0 ?restp3
            case hyp3 =>
              intro w' hSw
              have s1 := hSw
              have hc := (show w'.cell? ⟨qi, 0, none⟩ = some (.int .i64 (k : Int)) by rw [cell_of_row _ _ _ _ _ _ ((Chg.block (show Chg [q2] w5 w' from s1) qi (lt_of_block X5.out) (fun hm => HNE.out.1 (List.mem_singleton.1 hm))).trans X5.out)]; rfl)
              go_simp
              try with_reducible rfl
            (try simp only [Act.put, List.getElem_toArray, List.getElem_cons_succ, List.getElem_cons_zero, List.setIfInBounds_toArray, List.set_cons_zero, List.set_cons_succ])
            refine' tkH (i := 4) (v := _) rfl (Or.inl ⟨by rfl, ?hyp4⟩) H0 ?restp4
            case hyp4 =>
              intro w' hSw
              have s1 := hSw
              go_simp
              try with_reducible rfl
            (try simp only [Act.put, List.getElem_toArray, List.getElem_cons_succ, List.getElem_cons_zero, List.setIfInBounds_toArray, List.set_cons_zero, List.set_cons_succ])
            refine wpAnyH_ready (rs := [5]) (by kernel_rfl) (by simp) (AllReadyH.cons rfl (fun K hK => ?_) AllReadyH.nil)
            go_simp
            refine (KP.out k hlt _ (HCW5.out _ (Chg.drewN [] w5 1))).mono ?_
            rintro e wy ⟨po, pc, rfl, hsx, hpn, hpl, hpo, Cy⟩
            rw [← HPX.out] at hsx hpl hpo ⊢
            have HTX := Lib.hid (HPT.out k)
            rw [← HPX.out] at HTX
            have CY : Chg [] w5 wy := (Chg.drewN [] w5 1).trans Cy (by simp)
            have HBY := Lib.hid (HB5.out.keep CY)
            have hpv : PV wy (forb q2 (.slice oo ol oc) (.slice no nl nc)) (.slice po X.length pc) X := ⟨po, pc, rfl, hsx, hpl, hpn, fun _ a2 ha => by
              obtain ⟨hp, t, h1, h2⟩ := hpo a2 ha
              have h3 := HTS.out t h1 (Nat.lt_of_lt_of_le hp HTX.out)
              refine ⟨fun hm => ?_, by rw [h2]; have := (HCW5.out _ CY).size; omega⟩
              have hq1 := HQ.out
              have hq2 := HQ2.out
              have hq3 := HQ4.out
              rcases (forb_lt HBY.out _ hm).2 with h | h
              · omega
              · omega⟩
            obtain ⟨u0, hu0, hf0, _⟩ := HBY.out.cell hlt
            have HPP := Lib.hid (HBY.out.put hpv)
            rw [HPLK.out] at HPP
            have HXV := Lib.hid (show ∃ u, wy.cell? ⟨q2, k, none⟩ = some u ∧ wy.frozen? ⟨q2, k, none⟩ = false from ⟨u0, hu0, hf0⟩)
            have HC7 := Lib.hid (CY.mono (T := [q2]) (by simp))
            generalize X.length = xn at *
            clear hpv hsx hpn hpl hpo hu0 hf0 CY HBY Cy HTX
            go_simp
            refine hK.out _ _ HC7.out (fun H1 => ?_)
            clear hK K
            refine' tkH (i := 6) (v := _) rfl (Or.inl ⟨by rfl, ?hyp6⟩) H1 ?restp6
            case hyp6 =>
              intro w' hSw
              have s1 := hSw
              go_simp
              try with_reducible rfl
            (try simp only [Act.put, List.getElem_toArray, List.getElem_cons_succ, List.getElem_cons_zero, List.setIfInBounds_toArray, List.set_cons_zero, List.set_cons_succ])
            refine wpAnyH_ready (rs := [7]) (by kernel_rfl) (by simp) (AllReadyH.cons rfl (fun K hK => ?_) AllReadyH.nil)
            obtain ⟨u0, hu0, hf0⟩ := HXV.out
            go_simp
            refine hK.out _ _ (H1.trans (Chg.setCell (S := [q2]) wy ⟨q2, k, none⟩ (.slice po xn pc) (.inl (by simp))) (by simp)) (fun H2 => ?_)
            clear hK K
            refine wpAnyH_done (by kernel_rfl) ?_ _
            have HCR := Lib.hid H2
            go_wp2_with fail
            all_goals go_meet
            case rel => exact ⟨rfl, by rw [HSS.out]; exact HPP, HCR⟩
          · by_cases g2 : s2 = 2
            · subst g2
              have HPX : Hid (X = fX (fo (hkey (r.dig k)))) := Lib.hid (by rw [HSX.out]; rfl)
              clear HSX
              obtain ⟨ab, fk, rfl, hdg, hlk0⟩ := HLD.out k hlt w5 (HCW5.out _ (Chg.refl _ _))
              obtain ⟨Rk, hRk⟩ : ∃ Rk, hashC fk = Rk := ⟨_, rfl⟩
              have HCW2 : Hid (∀ wz, Chg [q2] w5 wz → Chg [] w wz) := Lib.hid (fun wz C => (HCW5.out w5 (Chg.refl _ _)).trans C (fun j hj => .inr (by
                have h1 := HQ.out
                have h2 := HQ2.out
                rw [List.mem_singleton.1 hj]; omega)))
              have HLK : Hid (∀ w', Chg [] w w' → (Instr.loadAt 32 (.pointer (some (ab.add (k * 32))))).run Tryd.prog w' = .ok (.agg Rk) w') := Lib.hid (fun w' C => by
                obtain ⟨ab2, fk2, h1, h2, h3⟩ := HLD.out k hlt w' C
                cases h1
                rw [hdg] at h2
                cases h2
                rw [← hRk]
                exact h3)
              have KFk := Lib.hid (fun (w' : World) (C : Chg [] w w') => by
                have := KF.out w' (hkey (r.dig k)) C
                rewrite [hdg, hkV_hkey, hashV, hRk, ← hdg] at this
                exact this)
              clear hlk0 hRk hdg
              go_upto_region 17 with (fail)
              refine wp_region_held_drew (S := fun w' => Chg [q2] w5 w') (by kernel_rfl) ((Chg.drewN [q2] w5 1)) (fun H0 => ?_)
              refine' tkH (i := 0) (v := _) rfl (Or.inl ⟨by rfl, ?hyf0⟩) H0 ?restf0
              case hyf0 =>
                intro w' hSw
                have s1 := hSw
                go_simp
                try with_reducible rfl
              (try simp only [Act.put, List.getElem_toArray, List.getElem_cons_zero, List.setIfInBounds_toArray, List.set_cons_zero, List.set_cons_succ])
              refine' tkH (i := 1) (v := _) rfl (Or.inl ⟨by rfl, ?hyf1⟩) H0 ?restf1
              case hyf1 =>
                intro w' hSw
                have s1 := hSw
                have hc := (show w'.cell? ⟨qi, 0, none⟩ = some (.int .i64 (k : Int)) by rw [cell_of_row _ _ _ _ _ _ ((Chg.block (show Chg [q2] w5 w' from s1) qi (lt_of_block X5.out) (fun hm => HNE.out.1 (List.mem_singleton.1 hm))).trans X5.out)]; rfl)
                go_simp
                try with_reducible rfl
              (try simp only [Act.put, List.getElem_toArray, List.getElem_cons_succ, List.getElem_cons_zero, List.setIfInBounds_toArray, List.set_cons_zero, List.set_cons_succ])
              refine' tkH (i := 2) (v := _) rfl (Or.inl ⟨by rfl, ?hyf2⟩) H0 ?restf2
              case hyf2 =>
                intro w' hSw
                have s1 := hSw
                go_simp
                try with_reducible rfl
              (try simp only [Act.put, List.getElem_toArray, List.getElem_cons_succ, List.getElem_cons_zero, List.setIfInBounds_toArray, List.set_cons_zero, List.set_cons_succ])
              refine' tkH (i := 3) (v := _) rfl (Or.inl ⟨by rfl, ?hyf3⟩) H0 ?restf3
              case hyf3 =>
                intro w' hSw
                have s1 := hSw
                go_simp
                try with_reducible rfl
              (try simp only [Act.put, List.getElem_toArray, List.getElem_cons_succ, List.getElem_cons_zero, List.setIfInBounds_toArray, List.set_cons_zero, List.set_cons_succ])
              refine' tkH (i := 4) (v := _) rfl (Or.inl ⟨by rfl, ?hyf4⟩) H0 ?restf4
              case hyf4 =>
                intro w' hSw
                have s1 := hSw
                have hc := (show w'.cell? ⟨q, 23, none⟩ = some (.slice (some ab) ln c) by rw [cell_of_row _ _ _ _ _ _ ((Chg.block (show Chg [q2] w5 w' from s1) q (lt_of_block XR5.out) (fun hm => HNE.out.2 (List.mem_singleton.1 hm))).trans XR5.out)]; exact HBL.out)
                go_simp
                try with_reducible rfl
              (try simp only [Act.put, List.getElem_toArray, List.getElem_cons_succ, List.getElem_cons_zero, List.setIfInBounds_toArray, List.set_cons_zero, List.set_cons_succ])
              refine' tkH (i := 5) (v := _) rfl (Or.inl ⟨by rfl, ?hyf5⟩) H0 ?restf5
              case hyf5 =>
                intro w' hSw
                have s1 := hSw
                have hc := (show w'.cell? ⟨qi, 0, none⟩ = some (.int .i64 (k : Int)) by rw [cell_of_row _ _ _ _ _ _ ((Chg.block (show Chg [q2] w5 w' from s1) qi (lt_of_block X5.out) (fun hm => HNE.out.1 (List.mem_singleton.1 hm))).trans X5.out)]; rfl)
                go_simp
                try with_reducible rfl
              (try simp only [Act.put, List.getElem_toArray, List.getElem_cons_succ, List.getElem_cons_zero, List.setIfInBounds_toArray, List.set_cons_zero, List.set_cons_succ])
              refine' tkH (i := 6) (v := _) rfl (Or.inl ⟨by rfl, ?hyf6⟩) H0 ?restf6
              case hyf6 =>
                intro w' hSw
                have s1 := hSw
                go_simp
                try with_reducible rfl
              (try simp only [Act.put, List.getElem_toArray, List.getElem_cons_succ, List.getElem_cons_zero, List.setIfInBounds_toArray, List.set_cons_zero, List.set_cons_succ])
              refine' tkH (i := 7) (v := .agg Rk) rfl (Or.inl ⟨by rfl, ?hyf7⟩) H0 ?restf7
              case hyf7 =>
                intro w' hSw
                have s1 := hSw
                have hl := HLK.out w' (HCW2.out w' s1)
                simp [execOp, Act.eval, hl, Result.andThen]
              (try simp only [Act.put, List.getElem_toArray, List.getElem_cons_succ, List.getElem_cons_zero, List.setIfInBounds_toArray, List.set_cons_zero, List.set_cons_succ])
              refine wpAnyH_ready (rs := [8]) (by kernel_rfl) (by simp) (AllReadyH.cons rfl (fun K hK => ?_) AllReadyH.nil)
              go_simp
              refine (KFk.out _ (HCW5.out _ (Chg.drewN [] w5 1))).mono ?_
              rintro e wy hfd
              obtain ⟨Cy, po, pc, rfl, hown, hnew⟩ := found_any hfd
              rw [← HPX.out] at hown hnew ⊢
              have CY : Chg [] w5 wy := (Chg.drewN [] w5 1).trans Cy (by simp)
              have HBY := Lib.hid (HB5.out.keep CY)
              have hpv : PV wy (forb q2 (.slice oo ol oc) (.slice no nl nc)) (.slice po X.length pc) X := PV.own hown (fun k hk hm => by
                have h1 := hnew k hk
                have h2 := (forb_lt HB5.out _ hm).1
                rw [heap_drewN] at h1
                omega)
              obtain ⟨u0, hu0, hf0, _⟩ := HBY.out.cell hlt
              have HPP := Lib.hid (HBY.out.put hpv)
              rw [HPLK.out] at HPP
              have HXV := Lib.hid (show ∃ u, wy.cell? ⟨q2, k, none⟩ = some u ∧ wy.frozen? ⟨q2, k, none⟩ = false from ⟨u0, hu0, hf0⟩)
              have HC7 := Lib.hid (CY.mono (T := [q2]) (by simp))
              generalize X.length = xn at *
              clear hpv hown hnew hfd hu0 hf0 CY HBY Cy
              generalize fM (fo (hkey (r.dig k))) = mm at *
              generalize (fo (hkey (r.dig k))).isSome = oks at *
              go_simp
              refine hK.out _ _ HC7.out (fun H1 => ?_)
              clear hK K
              refine' tkH (i := 9) (v := _) rfl (Or.inl ⟨by rfl, ?hyf9⟩) H1 ?restf9
              case hyf9 =>
                intro w' hSw
                have s1 := hSw
                go_simp
                try with_reducible rfl
              (try simp only [Act.put, List.getElem_toArray, List.getElem_cons_succ, List.getElem_cons_zero, List.setIfInBounds_toArray, List.set_cons_zero, List.set_cons_succ])
              refine' tkH (i := 10) (v := _) rfl (Or.inl ⟨by rfl, ?hyf10⟩) H1 ?restf10
              case hyf10 =>
                intro w' hSw
                have s1 := hSw
                go_simp
                try with_reducible rfl
              (try simp only [Act.put, List.getElem_toArray, List.getElem_cons_succ, List.getElem_cons_zero, List.setIfInBounds_toArray, List.set_cons_zero, List.set_cons_succ])
              refine' tkH (i := 11) (v := _) rfl (Or.inl ⟨by rfl, ?hyf11⟩) H1 ?restf11
              case hyf11 =>
                intro w' hSw
                have s1 := hSw
                go_simp
                try with_reducible rfl
              (try simp only [Act.put, List.getElem_toArray, List.getElem_cons_succ, List.getElem_cons_zero, List.setIfInBounds_toArray, List.set_cons_zero, List.set_cons_succ])
              refine' tkH (i := 12) (v := _) rfl (Or.inl ⟨by rfl, ?hyf12⟩) H1 ?restf12
              case hyf12 =>
                intro w' hSw
                have s1 := hSw
                go_simp
                try with_reducible rfl
              (try simp only [Act.put, List.getElem_toArray, List.getElem_cons_succ, List.getElem_cons_zero, List.setIfInBounds_toArray, List.set_cons_zero, List.set_cons_succ])
              refine' tkH (i := 13) (v := _) rfl (Or.inl ⟨by rfl, ?hyf13⟩) H1 ?restf13
              case hyf13 =>
                intro w' hSw
                have s1 := hSw
                go_simp
                try with_reducible rfl
              (try simp only [Act.put, List.getElem_toArray, List.getElem_cons_succ, List.getElem_cons_zero, List.setIfInBounds_toArray, List.set_cons_zero, List.set_cons_succ])
              refine wpAnyH_ready (rs := [14]) (by kernel_rfl) (by simp) (AllReadyH.cons rfl (fun K hK => ?_) AllReadyH.nil)
              obtain ⟨u0, hu0, hf0⟩ := HXV.out
              go_simp
              refine hK.out _ _ (H1.trans (Chg.setCell (S := [q2]) wy ⟨q2, k, none⟩ (.slice po xn pc) (.inl (by simp))) (by simp)) (fun H2 => ?_)
              clear hK K
              refine wpAnyH_done (by kernel_rfl) ?_ _
              have HCR := Lib.hid H2
              go_wp2_with fail
              all_goals go_meet
              case rel => exact ⟨rfl, by rw [HSS.out]; exact HPP, HCR⟩
            · by_cases g3 : s2 = 3
              · subst g3
                have HPX : Hid (X = (PS k).getD s5.toNat []) := Lib.hid (by rw [HSX.out]; rfl)
                clear HSX
                obtain ⟨g5, g6⟩ := HS4.out rfl
                obtain ⟨kk, rfl⟩ := Int.eq_ofNat_of_zero_le g5
                have g7 : kk < k := by omega
                have e5 : (kk : Int) < ln := by omega
                have e6 : (0 : Int) ≤ (kk : Int) := g5
                have hXK : (PS k)[kk]? = some X := by
                  have h1 : kk < (PS k).length := by rw [HPLK.out]; exact g7
                  have h2 := HPX.out
                  rw [Int.toNat_natCast, List.getD, List.getElem?_eq_getElem h1] at h2
                  rw [List.getElem?_eq_getElem h1, h2]
                  rfl
                obtain ⟨pv, hck, hfk, hpv⟩ := HB5.out.cell (show kk < ln by omega)
                have hpv := hpv X hXK
                obtain ⟨po, pc, rfl, _, _⟩ := hpv.short
                have hdr := (Chg.drewN [] w5 1)
                have HPP := Lib.hid ((HB5.out.keep hdr).put (hpv.chg hdr (by simp)))
                rw [HPLK.out] at HPP
                obtain ⟨u0, hu0, hf0, _⟩ := HB5.out.cell hlt
                have HXV := Lib.hid (show ∃ u, w5.cell? ⟨q2, k, none⟩ = some u ∧ w5.frozen? ⟨q2, k, none⟩ = false from ⟨u0, hu0, hf0⟩)
                have HNE3 : Hid (qi + 1 ≠ q2) := Lib.hid (by have := HQI.out; omega)
                generalize X.length = xn at *
                have HCK := Lib.hid hck
                clear hpv hck hfk hu0 hf0 hdr hXK
                go_upto_region 19 with (fail)
                refine wp_region_held_drew (S := fun w' => Chg [q2] w5 w' ∧ w'.cell? ⟨q2, kk, none⟩ = some (.slice po xn pc)) (by kernel_rfl) (⟨(Chg.drewN [q2] w5 1), HCK.out⟩) (fun H0 => ?_)
                refine' tkH (i := 0) (v := _) rfl (Or.inl ⟨by rfl, ?hys0⟩) H0 ?rests0
                case hys0 =>
                  intro w' hSw
                  obtain ⟨s1, s2⟩ := hSw
                  go_simp
                  try with_reducible rfl
                (try simp only [Act.put, List.getElem_toArray, List.getElem_cons_zero, List.setIfInBounds_toArray, List.set_cons_zero, List.set_cons_succ])
                refine' tkH (i := 1) (v := _) rfl (Or.inl ⟨by rfl, ?hys1⟩) H0 ?rests1
                case hys1 =>
                  intro w' hSw
                  obtain ⟨s1, s2⟩ := hSw
                  have hc := (show w'.cell? ⟨qi, 0, none⟩ = some (.int .i64 (k : Int)) by rw [cell_of_row _ _ _ _ _ _ ((Chg.block (show Chg [q2] w5 w' from s1) qi (lt_of_block X5.out) (fun hm => HNE.out.1 (List.mem_singleton.1 hm))).trans X5.out)]; rfl)
                  go_simp
                  try with_reducible rfl
                (try simp only [Act.put, List.getElem_toArray, List.getElem_cons_succ, List.getElem_cons_zero, List.setIfInBounds_toArray, List.set_cons_zero, List.set_cons_succ])
                refine' tkH (i := 2) (v := _) rfl (Or.inl ⟨by rfl, ?hys2⟩) H0 ?rests2
                case hys2 =>
                  intro w' hSw
                  obtain ⟨s1, s2⟩ := hSw
                  go_simp
                  try with_reducible rfl
                (try simp only [Act.put, List.getElem_toArray, List.getElem_cons_succ, List.getElem_cons_zero, List.setIfInBounds_toArray, List.set_cons_zero, List.set_cons_succ])
                refine' tkH (i := 3) (v := _) rfl (Or.inl ⟨by rfl, ?hys3⟩) H0 ?rests3
                case hys3 =>
                  intro w' hSw
                  obtain ⟨s1, s2⟩ := hSw
                  go_simp
                  try with_reducible rfl
                (try simp only [Act.put, List.getElem_toArray, List.getElem_cons_succ, List.getElem_cons_zero, List.setIfInBounds_toArray, List.set_cons_zero, List.set_cons_succ])
                refine' tkH (i := 4) (v := _) rfl (Or.inl ⟨by rfl, ?hys4⟩) H0 ?rests4
                case hys4 =>
                  intro w' hSw
                  obtain ⟨s1, s2⟩ := hSw
                  have hc := (show w'.cell? ⟨qi + 1, 4, none⟩ = some (.int .i64 (kk : Int)) by rw [cell_of_row _ _ _ _ _ _ ((Chg.block (show Chg [q2] w5 w' from s1) (qi + 1) (lt_of_block XS5.out) (fun hm => HNE3.out (List.mem_singleton.1 hm))).trans XS5.out)]; rfl)
                  go_simp
                  try with_reducible rfl
                (try simp only [Act.put, List.getElem_toArray, List.getElem_cons_succ, List.getElem_cons_zero, List.setIfInBounds_toArray, List.set_cons_zero, List.set_cons_succ])
                refine' tkH (i := 5) (v := _) rfl (Or.inl ⟨by rfl, ?hys5⟩) H0 ?rests5
                case hys5 =>
                  intro w' hSw
                  obtain ⟨s1, s2⟩ := hSw
                  go_simp
                  try with_reducible rfl
                (try simp only [Act.put, List.getElem_toArray, List.getElem_cons_succ, List.getElem_cons_zero, List.setIfInBounds_toArray, List.set_cons_zero, List.set_cons_succ])
                refine' tkH (i := 6) (v := _) rfl (Or.inl ⟨by rfl, ?hys6⟩) H0 ?rests6
                case hys6 =>
                  intro w' hSw
                  obtain ⟨s1, s2⟩ := hSw
                  go_simp
                  try with_reducible rfl
                (try simp only [Act.put, List.getElem_toArray, List.getElem_cons_succ, List.getElem_cons_zero, List.setIfInBounds_toArray, List.set_cons_zero, List.set_cons_succ])
                refine' tkH (i := 7) (v := _) rfl (Or.inl ⟨by rfl, ?hys7⟩) H0 ?rests7
                case hys7 =>
                  intro w' hSw
                  obtain ⟨s1, s2⟩ := hSw
                  go_simp
                  try with_reducible rfl
                (try simp only [Act.put, List.getElem_toArray, List.getElem_cons_succ, List.getElem_cons_zero, List.setIfInBounds_toArray, List.set_cons_zero, List.set_cons_succ])
                refine wpAnyH_ready (rs := [8]) (by kernel_rfl) (by simp) (AllReadyH.cons rfl (fun K hK => ?_) AllReadyH.nil)
                obtain ⟨u0, hu0, hf0⟩ := HXV.out
                have hu0 : w5.drew.cell? ⟨q2, k, none⟩ = some u0 := hu0
                have hf0 : w5.drew.frozen? ⟨q2, k, none⟩ = false := hf0
                go_simp
                refine hK.out _ _ ⟨H0.1.trans (Chg.setCell (S := [q2]) w5.drew ⟨q2, k, none⟩ (.slice po xn pc) (.inl (by simp))) (by simp), (World.cell?_setCell_other _ _ _ _ (by intro e; cases e; omega)).trans H0.2⟩ (fun H1 => ?_)
                clear hK K
                refine wpAnyH_done (by kernel_rfl) ?_ _
                have HCR := Lib.hid H1.1
                go_wp2_with fail
                all_goals go_meet
                case rel => exact ⟨rfl, by rw [HSS.out]; exact HPP, HCR⟩
              · have g4 : s2 = 4 := by omega
                subst g4
                have HPX : Hid (X = match gotIx G k with | some k => (G.getD k ⟨0, none, [], 0⟩).xs | none => []) := Lib.hid (by rw [HSX.out]; rfl)
                clear HSX
                have c0 : w5.cell? ⟨qi, 0, none⟩ = some (.int .i64 (k : Int)) := by rw [cell_of_row _ _ _ _ _ _ X5.out]; rfl
                have KIk := Lib.hid (KI.out (k : Int) qi w5 (HCW5.out _ (Chg.refl _ _)) c0)
                clear c0
                go_wp2_with fail
                refine KIk.out.mono ?_
                rintro e w6 ⟨rfl, C6⟩
                have HC6 := Lib.hid C6
                have HB6 := Lib.hid (HB5.out.keep C6)
                have XI6 := Lib.hid ((C6.block qi (lt_of_block X5.out) (by simp)).trans X5.out)
                clear C6 KIk
                obtain ⟨oi, hoi⟩ : ∃ oi, gotIx G (k : Int) = oi := ⟨_, rfl⟩
                rw [hoi]
                have HOI := Lib.hid hoi
                clear hoi
                cases oi with
                | none =>
                  have HPX2 : Hid (X = []) := Lib.hid (by rw [HPX.out, HOI.out])
                  have HPP := Lib.hid (HB6.out.skip (by rw [HPLK.out]; exact hlt))
                  rw [← HPX2.out] at HPP
                  have HCR := Lib.hid (HC6.out.mono (T := [q2]) (by simp))
                  simp only [ixZ]
                  go_wp2_with fail
                  all_goals go_meet
                  case rel => exact ⟨rfl, by rw [HSS.out]; exact HPP, HCR⟩
                | some kg =>
                  obtain ⟨gg, hgg, hgl, hgx⟩ := HGL.out k kg HOI.out
                  have HPX2 : Hid (X = gg.xs) := Lib.hid (by rw [HPX.out, HOI.out]; exact hgx)
                  have HCW6 : Hid (∀ wz, Chg [q2] w6 wz → Chg [] w wz) := Lib.hid (fun wz C => (HCW5.out w6 HC6.out).trans C (fun j hj => .inr (by
                    have h1 := HQ.out
                    have h2 := HQ2.out
                    rw [List.mem_singleton.1 hj]; omega)))
                  obtain ⟨ag, rfl, hgb, _, hpv0⟩ := HGOT.out kg gg hgg w6 (HCW5.out w6 HC6.out)
                  have hpv : PV w6 (forb q2 (.slice oo ol oc) (.slice no nl nc)) (.slice gg.ao gg.xs.length gg.cap) gg.xs := (hpv0.grow (fun j hj => .inr (by
                    have h1 := HQ.out
                    have h2 := HQ2.out
                    have h3 := HQ4.out
                    rcases (forb_lt HB6.out _ hj).2 with h | h <;> omega))).chg (HCW5.out w6 HC6.out) (by simp)
                  have HPP := Lib.hid ((HB6.out.keep (Chg.drewN [] w6 1)).put (hpv.chg (Chg.drewN [] w6 1) (by simp)))
                  rw [HPLK.out, ← HPX2.out] at HPP
                  have HGC2 : Hid (∀ w', Chg [q2] w6 w' → w'.cell? ⟨(ag.add (kg * 2)).block, (ag.add (kg * 2)).off + 1, none⟩ = some (.slice gg.ao gg.xs.length gg.cap)) := Lib.hid (fun w' C => by
                    obtain ⟨ag2, h1, _, h2, _⟩ := HGOT.out kg gg hgg w' (HCW6.out w' C)
                    cases h1
                    rw [← addr_add_add] at h2
                    exact h2)
                  obtain ⟨u0, hu0, hf0, _⟩ := HB6.out.cell hlt
                  have HXV := Lib.hid (show ∃ u, w6.cell? ⟨q2, k, none⟩ = some u ∧ w6.frozen? ⟨q2, k, none⟩ = false from ⟨u0, hu0, hf0⟩)
                  rw [← HPX2.out] at HGC2
                  have e7 : (kg : Int) < gn := by omega
                  have e8 : (0 : Int) ≤ kg := Int.natCast_nonneg _
                  have hgc := HGC.out
                  have hkgc : kg < gc := by omega
                  generalize gg.ao = po at *
                  generalize gg.cap = pc at *
                  generalize X.length = xn at *
                  simp only [ixZ]
                  clear hpv hpv0 hu0 hf0 hgg hgx
                  go_upto_region 13 with (fail)
                  refine wp_region_held_drew (S := fun w' => Chg [q2] w6 w') (by kernel_rfl) ((Chg.drewN [q2] w6 1)) (fun H0 => ?_)
                  refine' tkH (i := 0) (v := _) rfl (Or.inl ⟨by rfl, ?hyg0⟩) H0 ?restg0
                  case hyg0 =>
                    intro w' hSw
                    have s1 := hSw
                    go_simp
                    try with_reducible rfl
                  (try simp only [Act.put, List.getElem_toArray, List.getElem_cons_zero, List.setIfInBounds_toArray, List.set_cons_zero, List.set_cons_succ])
                  refine' tkH (i := 1) (v := _) rfl (Or.inl ⟨by rfl, ?hyg1⟩) H0 ?restg1
                  case hyg1 =>
                    intro w' hSw
                    have s1 := hSw
                    have hc := (show w'.cell? ⟨qi, 0, none⟩ = some (.int .i64 (k : Int)) by rw [cell_of_row _ _ _ _ _ _ ((Chg.block (show Chg [q2] w6 w' from s1) qi (lt_of_block XI6.out) (fun hm => HNE.out.1 (List.mem_singleton.1 hm))).trans XI6.out)]; rfl)
                    go_simp
                    try with_reducible rfl
                  (try simp only [Act.put, List.getElem_toArray, List.getElem_cons_succ, List.getElem_cons_zero, List.setIfInBounds_toArray, List.set_cons_zero, List.set_cons_succ])
                  refine' tkH (i := 2) (v := _) rfl (Or.inl ⟨by rfl, ?hyg2⟩) H0 ?restg2
                  case hyg2 =>
                    intro w' hSw
                    have s1 := hSw
                    go_simp
                    try with_reducible rfl
                  (try simp only [Act.put, List.getElem_toArray, List.getElem_cons_succ, List.getElem_cons_zero, List.setIfInBounds_toArray, List.set_cons_zero, List.set_cons_succ])
                  refine' tkH (i := 3) (v := _) rfl (Or.inl ⟨by rfl, ?hyg3⟩) H0 ?restg3
                  case hyg3 =>
                    intro w' hSw
                    have s1 := hSw
                    go_simp
                    try with_reducible rfl
                  (try simp only [Act.put, List.getElem_toArray, List.getElem_cons_succ, List.getElem_cons_zero, List.setIfInBounds_toArray, List.set_cons_zero, List.set_cons_succ])
                  refine' tkH (i := 4) (v := _) rfl (Or.inl ⟨by rfl, ?hyg4⟩) H0 ?restg4
                  case hyg4 =>
                    intro w' hSw
                    have s1 := hSw
                    go_simp
                    try with_reducible rfl
                  (try simp only [Act.put, List.getElem_toArray, List.getElem_cons_succ, List.getElem_cons_zero, List.setIfInBounds_toArray, List.set_cons_zero, List.set_cons_succ])
                  refine' tkH (i := 5) (v := _) rfl (Or.inl ⟨by rfl, ?hyg5⟩) H0 ?restg5
                  case hyg5 =>
                    intro w' hSw
                    have s1 := hSw
                    go_simp
                    try with_reducible rfl
                  (try simp only [Act.put, List.getElem_toArray, List.getElem_cons_succ, List.getElem_cons_zero, List.setIfInBounds_toArray, List.set_cons_zero, List.set_cons_succ])
                  refine' tkH (i := 6) (v := _) rfl (Or.inl ⟨by rfl, ?hyg6⟩) H0 ?restg6
                  case hyg6 =>
                    intro w' hSw
                    have s1 := hSw
                    have hc := HGC2.out w' s1
                    go_simp
                    try with_reducible rfl
                  (try simp only [Act.put, List.getElem_toArray, List.getElem_cons_succ, List.getElem_cons_zero, List.setIfInBounds_toArray, List.set_cons_zero, List.set_cons_succ])
                  refine' tkH (i := 7) (v := _) rfl (Or.inl ⟨by rfl, ?hyg7⟩) H0 ?restg7
                  case hyg7 =>
                    intro w' hSw
                    have s1 := hSw
                    go_simp
                    try with_reducible rfl
                  (try simp only [Act.put, List.getElem_toArray, List.getElem_cons_succ, List.getElem_cons_zero, List.setIfInBounds_toArray, List.set_cons_zero, List.set_cons_succ])
                  refine wpAnyH_ready (rs := [8]) (by kernel_rfl) (by simp) (AllReadyH.cons rfl (fun K hK => ?_) AllReadyH.nil)
                  obtain ⟨u0, hu0, hf0⟩ := HXV.out
                  have hu0 : w6.drew.cell? ⟨q2, k, none⟩ = some u0 := hu0
                  have hf0 : w6.drew.frozen? ⟨q2, k, none⟩ = false := hf0
                  go_simp
                  refine hK.out _ _ (H0.trans (Chg.setCell (S := [q2]) w6.drew ⟨q2, k, none⟩ (.slice po xn pc) (.inl (by simp))) (by simp)) (fun H1 => ?_)
                  clear hK K
                  refine wpAnyH_done (by kernel_rfl) ?_ _
                  have HCR := Lib.hid ((HC6.out.mono (T := [q2]) (by simp)).trans H1 (by simp))
                  go_wp2_with fail
                  all_goals go_meet
                  case rel => exact ⟨rfl, by rw [HSS.out]; exact HPP, HCR⟩
        case rest =>
        obtain ⟨rfl, HBC, HCC⟩ := hcut
        go_upto_region 20 with (fail)
        have HIC : Hid (wc.cell? ⟨qi, 0, none⟩ = some (.int .i64 (k : Int))) := Lib.hid (by rw [cell_of_row _ _ _ _ _ _ ((HCC.out.block qi (lt_of_block X5.out) (fun hm => HNE.out.1 (List.mem_singleton.1 hm))).trans X5.out)]; rfl)
        have HIL : Hid (qi < wc.heap.size) := Lib.hid (Nat.lt_of_lt_of_le (lt_of_block X5.out) HCC.out.size)
        have XR7 := Lib.hid ((HCC.out.block q (lt_of_block XR5.out) (fun hm => HNE.out.2 (List.mem_singleton.1 hm))).trans XR5.out)
        obtain ⟨pv, hpc, _, hpv⟩ := HBC.out.cell hlt
        have hXK : (PS (k + 1))[k]? = some X := by rw [HSS.out, List.getElem?_append_right (by rw [HPLK.out]; exact Nat.le_refl _), HPLK.out, Nat.sub_self]; rfl
        have hpv := hpv X hXK
        have HPVX := Lib.hid hpv
        obtain ⟨po, pc, rfl, hsx, hpl, hpn, hpb⟩ := hpv
        have HPB := Lib.hid (fun hp a ha => (hpb hp a ha).1)
        have HPC := Lib.hid hpc
        have HXS := Lib.hid ((HSH.out (k + 1)).1 X (List.mem_of_getElem? hXK))
        have HCW7 : Hid (∀ wz, Chg [] wc wz → Chg [] w wz) := Lib.hid (fun wz C => ((HCW5.out w5 (Chg.refl _ _)).trans HCC.out (fun j hj => .inr (by
          have h1 := HQ.out
          have h2 := HQ2.out
          rw [List.mem_singleton.1 hj]; omega))).trans C (by simp))
        have KRk := Lib.hid (KR.out k hlt po pc X wc.drew (HCW7.out _ (Chg.drewN [] wc 1)) (hsx.chg (Chg.drewN [] wc 1) (by simp)) HXS.out hpl)
        have HSX2 := Lib.hid hsx
        have HPN := Lib.hid hpn
        have HXF : Hid ((PS (k + 1)).flatten = (PS k).flatten ++ X) := Lib.hid (by rw [HSS.out, List.flatten_append, List.flatten_cons, List.flatten_nil, List.append_nil])
        have HBN : Hid (badV r (PS (k + 1)) = badV r (PS k) ++ if rightB r k X = true then [] else [(k : Int)]) := Lib.hid (by rw [HSS.out, badV_next, HPLK.out])
        have HXB : Hid (ol + X.length ≤ 32000000) := Lib.hid (by
          have h1 := (HSH.out (k + 1)).2
          rw [HXF.out, List.length_append, ← HOL.out] at h1
          have : (k + 1) * 1000000 ≤ 32 * 1000000 := Nat.mul_le_mul_right _ (by omega)
          omega)
        have HNB : Hid (nl ≤ 32) := Lib.hid (by
          have h1 := badV_len r (PS k)
          rw [HPLK.out, ← HNL.out] at h1
          omega)
        obtain ⟨xn, hxn⟩ : ∃ xn, X.length = xn := ⟨_, rfl⟩
        have HXN := Lib.hid hxn
        rw [hxn] at HPC KRk HXB
        obtain ⟨RB, hRB⟩ : ∃ RB, rightB r k X = RB := ⟨_, rfl⟩
        rw [hRB] at HBN KRk
        clear hxn hRB hXK hpv hsx hpl hpn hpb hpc HSX X5 XS5 XR5 HB5 HCC HPVX HCW5 hs2 hs3
        refine wp_region_held_drew (S := fun w' => Chg [] wc w') (by kernel_rfl) ((Chg.drewN [] wc 1)) (fun H0 => ?_)
        refine' tkH (i := 0) (v := .agg RC) rfl (Or.inl ⟨by rfl, ?hyr0⟩) H0 ?restr0
        case hyr0 =>
          intro w' hSw
          have s1 := hSw
          have hl := run_loadAt_rec w' q RC _ ((Chg.block (show Chg [] wc w' from s1) q (lt_of_block XR7.out) (by simp)).trans XR7.out) HRS.out
          simp [execOp, Act.eval, hl, Result.andThen]
        (try simp only [Act.put, List.getElem_toArray, List.getElem_cons_zero, List.setIfInBounds_toArray, List.set_cons_zero, List.set_cons_succ])
        refine' tkH (i := 1) (v := _) rfl (Or.inl ⟨by rfl, ?hyr1⟩) H0 ?restr1
        case hyr1 =>
          intro w' hSw
          have s1 := hSw
          have hc := (show w'.cell? ⟨qi, 0, none⟩ = some (.int .i64 (k : Int)) from (Chg.cell_some (show Chg [] wc w' from s1) HIC.out (by simp)))
          go_simp
          try with_reducible rfl
        (try simp only [Act.put, List.getElem_toArray, List.getElem_cons_succ, List.getElem_cons_zero, List.setIfInBounds_toArray, List.set_cons_zero, List.set_cons_succ])
        refine' tkH (i := 2) (v := _) rfl (Or.inl ⟨by rfl, ?hyr2⟩) H0 ?restr2
        case hyr2 =>
          intro w' hSw
          have s1 := hSw
          go_simp
          try with_reducible rfl
        (try simp only [Act.put, List.getElem_toArray, List.getElem_cons_succ, List.getElem_cons_zero, List.setIfInBounds_toArray, List.set_cons_zero, List.set_cons_succ])
        refine' tkH (i := 3) (v := _) rfl (Or.inl ⟨by rfl, ?hyr3⟩) H0 ?restr3
        case hyr3 =>
          intro w' hSw
          have s1 := hSw
          have hc := (show w'.cell? ⟨qi, 0, none⟩ = some (.int .i64 (k : Int)) from (Chg.cell_some (show Chg [] wc w' from s1) HIC.out (by simp)))
          go_simp
          try with_reducible rfl
        (try simp only [Act.put, List.getElem_toArray, List.getElem_cons_succ, List.getElem_cons_zero, List.setIfInBounds_toArray, List.set_cons_zero, List.set_cons_succ])
        refine' tkH (i := 4) (v := _) rfl (Or.inl ⟨by rfl, ?hyr4⟩) H0 ?restr4
        case hyr4 =>
          intro w' hSw
          have s1 := hSw
          go_simp
          try with_reducible rfl
        (try simp only [Act.put, List.getElem_toArray, List.getElem_cons_succ, List.getElem_cons_zero, List.setIfInBounds_toArray, List.set_cons_zero, List.set_cons_succ])
        refine' tkH (i := 5) (v := _) rfl (Or.inl ⟨by rfl, ?hyr5⟩) H0 ?restr5
        case hyr5 =>
          intro w' hSw
          have s1 := hSw
          have hc := (show w'.cell? ⟨q2, k, none⟩ = some (.slice po xn pc) from (Chg.cell_some (show Chg [] wc w' from s1) HPC.out (by simp)))
          go_simp
          try with_reducible rfl
        (try simp only [Act.put, List.getElem_toArray, List.getElem_cons_succ, List.getElem_cons_zero, List.setIfInBounds_toArray, List.set_cons_zero, List.set_cons_succ])
        refine wpAnyH_ready (rs := [6]) (by kernel_rfl) (by simp) (AllReadyH.cons rfl (fun K hK => ?_) AllReadyH.nil)
        go_simp
        refine KRk.out.mono ?_
        rintro e wz ⟨rfl, Cz⟩
        go_simp
        refine hK.out _ _ (H0.trans Cz (by simp)) (fun H1 => ?_)
        clear hK K Cz
        refine' tkH (i := 7) (v := _) rfl (Or.inl ⟨by rfl, ?hyr7⟩) H1 ?restr7
        case hyr7 =>
          intro w' hSw
          have s1 := hSw
          go_simp
          try with_reducible rfl
        (try simp only [Act.put, List.getElem_toArray, List.getElem_cons_succ, List.getElem_cons_zero, List.setIfInBounds_toArray, List.set_cons_zero, List.set_cons_succ])
        refine wpAnyH_done (by kernel_rfl) ?_ _
        have HC7 := Lib.hid H1
        have HIC2 := Lib.hid (HC7.out.cell_some HIC.out (by simp))
        have HPC2 := Lib.hid (HC7.out.cell_some HPC.out (by simp))
        have HBC2 := Lib.hid (HBC.out.keep HC7.out)
        have HSX3 := Lib.hid (HSX2.out.chg HC7.out (by simp))
        have HIL2 : Hid (qi < wz.heap.size) := Lib.hid (Nat.lt_of_lt_of_le HIL.out HC7.out.size)
        clear H0 H1 HBC HIC HPC KRk HSX2 HC7 HIL XR7 HCW7
        go_upto_if 96 with (fail)
        go_cut [11] (fun v w' => ∃ (nl2 nc2 : Nat) (no2 : Option Addr), v = .slice no2 nl2 nc2 ∧ Hid (nl2 = (badV r (PS (k + 1))).length) ∧ Hid (BSt w4 w' q2 ln (PS (k + 1)) (PS k).flatten (badV r (PS (k + 1))) (.slice oo ol oc) (.slice no2 nl2 nc2)) ∧ Hid (w'.cell? ⟨qi, 0, none⟩ = some (.int .i64 (k : Int))) ∧ Hid (w'.cell? ⟨q2, k, none⟩ = some (.slice po xn pc)) ∧ Hid (Src w' po (bvs X)))
        case first =>
          cases RB with
          | true =>
            go_wp2_with fail
            all_goals go_meet
            case rel => exact ⟨_, _, _, rfl, by rw [HBN.out]; simpa using HNL, by rw [HBN.out]; simpa using HBC2, HIC2, HPC2, HSX3⟩
          | false =>
            obtain ⟨i0, hi0, hz0, hz1, hz2⟩ := info_parts infoIntU
            have CB := Chg.alloc [] wz (.cells #[.int .i64 (k : Int)] 3)
            have HBD := Lib.hid (HBC2.out.keep CB)
            have hown : (wz.alloc (.cells #[.int .i64 (k : Int)] 3)).ownsRow 0 3 1 (.slice no nl nc) nl (nvs (badV r (PS k))) := by
              have := HBD.out.bad
              rw [← HNL.out] at this
              exact this
            have hsrc := src_row wz #[.int .i64 (k : Int)] 3 (0, 0)
            have hic := HIC2.out
            have hab := HNB.out
            have HAB : Hid (nl + 1 ≤ maxLen ∧ (nl + 1) * 8 ≤ 140737488355328) := Lib.hid (by unfold maxLen; omega)
            clear hab
            go_wp2_with (at_builtin; go_loud (refine wpList_append_y (.tmp 97) (.tmp 99) 63 rfl rfl 3 i0 _ 1 8 Tryd.underlying63 hi0 hz0 hz1 hz2 rfl (by decide) (.slice no nl nc) nl (nvs (badV r (PS k))) hown (some ⟨wz.heap.size, 0, none⟩) 1 1 [.int .i64 (k : Int)] rfl hsrc (fun h => by cases h) (by simp [Value.oneCell']) HAB.out.1 HAB.out.2 rfl rfl ?_))
            intro ao2 c3 wg hown5 hgr hblk
            have CG := Chg.grown hgr (S := (Value.slice no nl nc).ownBlock.toList) (fun b hb => .inl (by simp [hb]))
            have hin : ∀ j ∈ (Value.slice no nl nc).ownBlock.toList, j ∈ forb q2 (.slice oo ol oc) (.slice no nl nc) := fun j hj => List.mem_cons_of_mem _ (List.mem_append_right _ hj)
            have HNL2 : Hid (nl + 1 = (badV r (PS (k + 1))).length) := Lib.hid (by rw [HBN.out, List.length_append, ← HNL.out]; rfl)
            have HB9 : Hid (BSt w4 wg q2 ln (PS (k + 1)) (PS k).flatten (badV r (PS (k + 1))) (.slice oo ol oc) (.slice ao2 (nl + 1) c3)) := Lib.hid (by
              have := HBD.out.bad_to (b := (k : Int)) (m := nl + 1) (c := c3) (ao := ao2) (by rw [List.length_append, ← HNL.out]; rfl) hown5 hgr (by rw [show (wz.alloc (.cells #[.int .i64 (k : Int)] 3)).heap.size = wz.heap.size + 1 by simp]; exact hblk)
              rw [HBN.out]
              exact this)
            have HIC9 := Lib.hid (CG.cell_some (CB.cell_some HIC2.out (by simp)) (fun hm => Nat.lt_irrefl _ (HFQ.out _ (hin _ hm))))
            have HPC9 := Lib.hid (CG.cell_some (CB.cell_some HPC2.out (by simp)) (fun hm => HBD.out.own_ne.2 (by simpa using hm)))
            have HSX9 := Lib.hid ((HSX3.out.chg CB (by simp)).chgN CG (fun hp a ha hm => HPB.out (by rwa [bvs_length] at hp) a ha (hin _ hm)))
            clear hown5 hgr hblk hown hsrc CB CG HAB hic hi0 hz0 hz1 hz2 hin
            go_wp2_with fail
            all_goals go_meet
            case rel => exact ⟨_, _, _, rfl, HNL2, HB9, HIC9, HPC9, HSX9⟩
        case rest =>
        obtain ⟨nl2, nc2, no2, rfl, HNL2, HBR, HICR, HPCR, HSXR⟩ := hcut
        obtain ⟨i0, hi0, hz0, hz1, hz2⟩ := info_parts infoByteU
        have hown : wc.ownsRow 0 5 1 (.slice oo ol oc) ol (bvs (PS k).flatten) := by
          have := HBR.out.out
          rw [← HOL.out] at this
          exact this
        have hic := HICR.out
        have hpc := HPCR.out
        have hab := HXB.out
        have HAB : Hid (ol + xn ≤ maxLen ∧ (ol + xn) * 1 ≤ 140737488355328) := Lib.hid (by unfold maxLen; omega)
        clear hab
        go_wp2_with (at_builtin; go_loud (refine wpList_append_y (.tmp 101) (.tmp 105) 25 rfl rfl 5 i0 _ 1 1 Tryd.underlying25 hi0 hz0 hz1 hz2 rfl (by decide) (.slice oo ol oc) ol (bvs (PS k).flatten) hown po xn pc (bvs X) (by rw [bvs_length, HXN.out, Nat.mul_one]) HSXR.out HPN.out (bvs_one X) HAB.out.1 HAB.out.2 rfl rfl ?_))
        intro ao2 c3 wg hown5 hgr hblk
        have HOL2 : Hid (ol + xn = (PS (k + 1)).flatten.length) := Lib.hid (by rw [HXF.out, List.length_append, ← HOL.out, HXN.out])
        have HB9 : Hid (BSt w4 wg q2 ln (PS (k + 1)) (PS (k + 1)).flatten (badV r (PS (k + 1))) (.slice ao2 (ol + xn) c3) (.slice no2 nl2 nc2)) := Lib.hid (by
          have := HBR.out.out_to (x := X) (m := ol + xn) (c := c3) (ao := ao2) (by rw [List.length_append, ← HOL.out, HXN.out]) hown5 hgr hblk
          rw [HXF.out]
          exact this)
        clear hown5 hgr hblk hown HAB hic hpc hi0 hz0 hz1 hz2
        go_wp2_with fail
        go_roundw
        case rel => exact ⟨k + 1, ol + xn, nl2, c3, nc2, ao2, no2, rfl, rfl, by go_num, hlt, HOL2, HNL2, HB9⟩
        case measure => simp [intOf] <;> omega
      · have e1 : ¬ (k : Int) < ln := fun h => hlt (Int.ofNat_lt.1 h)
        have hkn : k = ln := by omega
        have HOF : Hid (ol = (PS ln).flatten.length) := Lib.hid (by rw [← hkn]; exact HOL.out)
        have HNF : Hid (nl = (badV r (PS ln)).length) := Lib.hid (by rw [← hkn]; exact HNL.out)
        have HBF : Hid (BSt w4 wr q2 ln (PS ln) (PS ln).flatten (badV r (PS ln)) (.slice oo ol oc) (.slice no nl nc)) := Lib.hid (by
          have := HB.out
          rw [hkn] at this
          exact this)
        have HCF : Hid (Chg [] w wr ∧ ∀ j, w4.heap.size ≤ j → w.heap.size ≤ j) := Lib.hid ⟨(HC0.out.trans HC4.out (by simp)).trans HB.out.C (fun j hj => .inr (by
          have := HQ.out
          have := HQ2.out
          rw [List.mem_singleton.1 hj]; omega)), fun j hj => Nat.le_trans (HC0.out.trans HC4.out (by simp)).size hj⟩
        clear HOL HNL HB hkn
        by_cases hnl : nl = 0
        · have HE : Hid (badV r (PS ln) = []) := Lib.hid (List.eq_nil_of_length_eq_zero (by rw [← HNF.out]; exact hnl))
          subst hnl
          go_wp2_with fail
          go_ret3
          rw [HBO.out HMB.out HE.out]
          refine ⟨HCF.out.1, oo, oc, none, 0, by rw [← HOF.out]; rfl, ?_, ?_, World.ownsRow_nil _ _ _ _, (fun k hk => by cases hk)⟩
          · have := HBF.out.out
            rw [← HOF.out] at this ⊢
            exact this
          · exact fun k hk => HCF.out.2 _ (HBF.out.outN k (by rw [HOF.out]; exact hk))
        · have HE : Hid (badV r (PS ln) ≠ []) := Lib.hid (fun h => hnl (by rw [HNF.out, h]; rfl))
          have e5 : (0 : Int) < (nl : Int) := by omega
          clear hnl
          go_wp2_with fail
          go_ret3
          rw [HBB.out HMB.out HE.out]
          refine ⟨HCF.out.1, none, 0, no, nc, by rw [← HNF.out]; rfl, World.ownsRow_nil _ _ _ _, (fun k hk => by cases hk), ?_, ?_⟩
          · have := HBF.out.bad
            rw [← HNF.out] at this ⊢
            exact this
          · exact fun k hk => HCF.out.2 _ (HBF.out.badN k (by rw [HNF.out]; exact hk))
end Go.Proofs.YtfdhpjflkimihaaDoor
/- The law's wanted, times, given, from, walked. No conditions beyond those that each statement types. -/
namespace Go.Proofs.YtfdhpjflkimihaaDoor
open Go.RowKit

theorem ownsRow_src_any {w : World} {B : Nat} {e : TypeId} {size : Nat} {ao : Option Addr} {n c : Nat} {xs : List Value} (h : w.ownsRow B e size (.slice ao n c) n xs) : Src w ao xs := by
  refine ⟨fun ha => ?_, fun a ha j u hu => ?_⟩
  · subst ha
    rcases h.2 with ⟨hv, hn⟩ | ⟨g, cap, cur, hv, _⟩
    · exact List.eq_nil_of_length_eq_zero (by rw [h.1, hn, Nat.zero_mul])
    · simp at hv
  · subst ha
    rcases h.2 with ⟨hv, hn⟩ | ⟨g, cap, cur, hv, _⟩
    · simp at hv
    · simp only [Value.slice.injEq, Option.some.injEq] at hv
      obtain ⟨rfl, _, _⟩ := hv
      exact h.cells (g := g) rfl j u hu
def recC (n B : Int) (v : Value) : Array Value := #[.string ⟨#[119]⟩, .int .i64 1, .bool false, .int .i64 n, .int .i64 0, .int .i64 0, .int .u32 0, .int .u32 0, .int .u32 0, .int .u32 0, .int .u32 0, .int .u32 0, .int .u32 0, .int .u32 0, .int .u32 0, .int .u32 0, .int .u32 0, .int .u32 0, .int .u32 0, .int .u32 0, .int .u32 0, .int .u32 0, .int .i64 B, v, .string ⟨#[]⟩, .int .i64 0, .int .i64 0]
def recZ : Array Value := #[.string ⟨#[]⟩, .int .i64 0, .bool false, .int .i64 0, .int .i64 0, .int .i64 0, .int .u32 0, .int .u32 0, .int .u32 0, .int .u32 0, .int .u32 0, .int .u32 0, .int .u32 0, .int .u32 0, .int .u32 0, .int .u32 0, .int .u32 0, .int .u32 0, .int .u32 0, .int .u32 0, .int .u32 0, .int .u32 0, .int .i64 0, .slice none 0 0, .string ⟨#[]⟩, .int .i64 0, .int .i64 0]
theorem build_rec (n B : Int) (ao : Option Addr) (m c : Nat) (w : World) : (Instr.build 77 #[(0, .string ⟨#[119]⟩), (1, .int .i64 1), (3, .int .i64 n), (7, .int .i64 B), (8, .slice ao m c)]).run Tryd.prog w = .ok (.agg (recC n B (.slice ao m c))) w := by kernel_rfl
theorem zero_rec (w : World) : (zeroValue 77).run Tryd.prog w = .ok (.agg recZ) w := by kernel_rfl
theorem recC_one (n B : Int) (ao : Option Addr) (m c : Nat) : (recC n B (.slice ao m c)).all (·.oneCell') = true := by simp [recC, Value.oneCell']
/-- The record of a file. -/
def recV (d : List UInt8) : RecV := ⟨false, 1, d.length, bszN d.length, listL d⟩
theorem recV_good {d : List UInt8} (h : d.length ≤ 4096) : (recV d).Good d.length := ⟨rfl, rfl, rfl, h, rfl, listL_length d⟩
def Wanted (w : World) (d : List UInt8) (e : Ending) (w' : World) : Prop :=
  Chg [] w w' ∧ ∃ RC ao c, e = .returned (.agg RC) ∧ RecIs w' RC (recV d) ao c ∧ (∀ a, ao = some a → w.heap.size ≤ a.block) ∧ RC.all (·.oneCell') = true
theorem setRow_one {w : World} {g : Nat} {t : TypeId} {Z V : Array Value} (h : w.heap[g]? = some (.cells Z t (0, 0))) (hi : (Tryd.prog.info? t).map (·.size) = some V.size) (hz : Z.size = V.size) (hv : V.all (·.oneCell') = true) :
    (Instr.storeAt t (.pointer (some ⟨g, 0, none⟩)) (.agg V)).run Tryd.prog w = .ok () (w.setRow g V) ∧ (w.setRow g V).heap[g]? = some (.cells V t (0, 0)) ∧ ∀ w0, Chg [] w0 w → w0.heap.size ≤ g → Chg [] w0 (w.setRow g V) :=
  ⟨run_storeAt_row w g _ _ Z V h hi hz hv, setRow_heap w g _ _ _ _ h, fun w0 C hg => C.trans (Chg.setRow (S := [g]) w g V (.inl (by simp))) (fun j hj => by simp at hj; subst hj; exact .inr hg)⟩
set_option maxRecDepth 100000 in
set_option maxHeartbeats 4000000 in
theorem law_wanted (d : List UInt8) (so : Option Addr) (sc : Nat) (w : World) (hL : Laid w) (hs : Src w so (bvs d)) (hd : d.length ≤ 4096) (hc : d.length ≤ sc) :
    Calls Tryd.prog 42 #[.slice so d.length sc] w (Wanted w d) := by
  obtain ⟨Z, hZ⟩ : ∃ Z, recZ = Z := ⟨_, rfl⟩
  have hzr := zero_rec w
  have hzs : Z.size = 27 := by rw [← hZ]; rfl
  rw [hZ] at hzr
  have hx0 := heap_alloc_new w (.cells Z 77)
  have C0 := Chg.alloc [] w (.cells Z 77)
  have hlo : listO d = some (listL d) := by unfold listO; rw [if_neg (by omega)]
  have KL := Lib.hid (fun w' (C : Chg [] w w') => by
    have := blk_List d so sc w' (hL.chg C (by simp)) (hs.chg C (by simp)) hc
    rewrite [hlo] at this
    exact this)
  have KS := Lib.hid (fun w' => by
    have := blk_size (d.length : Int) w'
    rewrite [show bszZ (d.length : Int) = bszN d.length from by unfold bszZ; rw [if_neg (by omega)]; rfl] at this
    exact this)
  have HLL := Lib.hid (listL_length d)
  have HRV : Hid (recV d = ⟨false, 1, d.length, bszN d.length, listL d⟩) := Lib.hid rfl
  obtain ⟨n, hn⟩ : ∃ n, d.length = n := ⟨_, rfl⟩
  obtain ⟨B, hB⟩ : ∃ B, bszN d.length = B := ⟨_, rfl⟩
  rw [hB] at KS HRV
  rw [hn] at KL KS HRV ⊢
  generalize listL d = LL at *
  clear hlo hs hc hn hB hZ
  go_enter Tryd.func42, Tryd.ntmps42
  go_wp2_with (refine wpList_alloc_x rfl 77 rfl (.agg Z) hzr ?_)
  obtain ⟨q, hq⟩ : ∃ q, w.heap.size = q := ⟨_, rfl⟩
  rw [hq] at hx0 ⊢
  have HQ : Hid (w.heap.size ≤ q) := Lib.hid (Nat.le_of_eq hq)
  generalize w.alloc (.cells Z 77) = w1 at *
  have HC0 := Lib.hid C0
  have HX0 := Lib.hid hx0
  clear hq hx0 C0
  refine (KL.out w1 HC0.out).mono ?_
  rintro e w2 ⟨C2, al, cl, rfl, hown, hnew⟩
  have HC2 := Lib.hid C2
  have HOW := Lib.hid hown
  have HNW := Lib.hid hnew
  have HX2 := Lib.hid ((C2.block q (lt_of_block HX0.out) (by simp)).trans HX0.out)
  have hbl := build_rec (n : Int) (B : Int) al LL.length cl w2
  obtain ⟨hst, hh, hcg⟩ := setRow_one (V := recC n B (.slice al LL.length cl)) HX2.out infoRec hzs (recC_one _ _ _ _ _)
  have HH := Lib.hid hh
  have HCG := Lib.hid (hcg w (HC0.out.trans C2 (by simp)) HQ.out)
  have hks := KS.out w2
  clear C2 hown hnew hh hcg
  simp only [recC] at hst
  clear hbl
  go_wp2_with fail
  refine hks.mono ?_
  rintro e w3 ⟨rfl, rfl⟩
  go_wp2_with (refine wpList_store_y 77 (.tmp 2) (.tmp 16) rfl (by first | rfl | go_simp) (.pointer (some ⟨q, 0, none⟩)) (.agg _) _ hst rfl rfl ?_)
  exact bodyPost_ret (v := .agg (recC (n : Int) (B : Int) (.slice al LL.length cl))) (results_cell_row rfl _ _ _ _ (recC (n : Int) (B : Int) (.slice al LL.length cl)) _ _ rfl HH.out Tryd.underlying77 rfl infoRec) rfl ⟨HCG.out, _, al, cl, rfl, by
    have hc := Chg.setRow (S := [q]) w2 q (recC (n : Int) (B : Int) (.slice al LL.length cl)) (.inl (by simp))
    obtain ⟨_, _, hv, hcl, h0⟩ := ownsRow_slice HOW.out
    cases hv
    have hrv := HRV.out
    have hqn : ∀ a, al = some a → a.block ∉ [q] := fun a ha hm => by
      have h1 := HNW.out a.block (by rw [ha]; rfl)
      have h2 := lt_of_block HX0.out
      rw [List.mem_singleton] at hm
      omega
    refine ⟨rfl, by rw [hrv]; rfl, by rw [hrv]; rfl, by rw [hrv]; rfl, by rw [hrv]; rfl, by rw [hrv]; rfl, ?_, by rw [hrv]; exact hcl, fun h => (h0 h).2⟩
    rw [hrv]
    exact (ownsRow_src_any HOW.out).chg hc hqn, fun a ha => by
    have h1 := HNW.out a.block (by rw [ha]; rfl)
    have h2 := HC0.out.size
    omega, recC_one _ _ _ _ _⟩
/-- A text of one byte, many times. -/
theorem law_times (c : UInt8) (n : Nat) (hn : n ≤ 1000) (w : World) : Calls Tryd.prog 53 #[.string ⟨#[c]⟩, .int .i64 n] w fun e w' => e = .returned (.string (many c n)) ∧ Chg [] w w' := by
  have K := Lib.hid (fun w => repeat_one c n hn w)
  generalize many c n = X at *
  go_enter Tryd.func53, Tryd.ntmps53
  go_wp2_with fail
  refine (K.out _).mono ?_
  rintro e w1 ⟨rfl, C1⟩
  go_wp2_with fail
  go_ret
  exact ⟨rfl, C1⟩
def m_given : List UInt8 := List.replicate 32 120 ++ List.replicate 8 121
/-- Bytes in new memory. -/
def NewB (w : World) (xs : List UInt8) (e : Ending) (w' : World) : Prop := ∃ g c, e = .returned (.slice (some ⟨g, 0, none⟩) xs.length c) ∧ xs.length ≤ c ∧ Src w' (some ⟨g, 0, none⟩) (bvs xs) ∧ w.heap.size ≤ g ∧ g < w'.heap.size ∧ Chg [] w w'
set_option maxRecDepth 100000 in
theorem law_given (w : World) : Calls Tryd.prog 52 #[] w (NewB w m_given) := by
  have K := Lib.hid (fun (c : UInt8) (n : Nat) (hn : n ≤ 1000) w => law_times c n hn w)
  go_enter Tryd.func52, Tryd.ntmps52
  go_wp2_with fail
  refine (K.out 120 32 (by decide) _).mono ?_
  rintro e w1 ⟨rfl, C1⟩
  go_wp2_with fail
  refine (K.out 121 8 (by decide) _).mono ?_
  rintro e w2 ⟨rfl, C2⟩
  have HC2 := Lib.hid (C1.trans C2 (by simp))
  clear C1 C2
  go_wp2_with (refine wpList_bytes_of_str _ rfl 9 25 _ rfl 5 Tryd.underlying9 Tryd.underlying25 Tryd.underlying5 (many 120 32 ++ many 121 8) rfl 40 rfl m_given rfl ?_)
  intro g c w3 hc M
  have HM := Lib.hid M
  clear M
  go_wp2_with fail
  go_ret
  have h1 := HC2.out.size
  have h2 := HM.out.new
  exact ⟨g, c, rfl, hc, HM.out.src, by omega, by omega, HC2.out.trans HM.out.chg (by simp)⟩
end Go.Proofs.YtfdhpjflkimihaaDoor
/- The law's from, walked. No conditions beyond those that each statement types. -/
namespace Go.Proofs.YtfdhpjflkimihaaDoor
open Go.RowKit

def fromB (s : StepV) : UInt8 := UInt8.ofNat (48 + s.from_.toNat)
def fromL (l : List StepV) : List UInt8 := l.map fromB
theorem fromL_next {l : List StepV} {k : Nat} {s : StepV} (h : l[k]? = some s) : fromL (l.take (k + 1)) = fromL (l.take k) ++ [fromB s] := by
  unfold fromL
  rw [take_nextE h, List.map_append]
  rfl
theorem fromB_int {f : Int} (h1 : 0 ≤ f) (h2 : f ≤ 9) : wrap64 (48 + f) = 48 + f ∧ IntKind.i64.wrap (48 + f) = 48 + f ∧ IntKind.u8.wrap (48 + f) = 48 + f ∧ (48 + f : Int) = ((UInt8.ofNat (48 + f.toNat)).toNat : Int) := by
  obtain ⟨n, rfl⟩ := Int.eq_ofNat_of_zero_le h1
  have h3 : n ≤ 9 := by omega
  have h4 : n = 0 ∨ n = 1 ∨ n = 2 ∨ n = 3 ∨ n = 4 ∨ n = 5 ∨ n = 6 ∨ n = 7 ∨ n = 8 ∨ n = 9 := by omega
  rcases h4 with rfl | rfl | rfl | rfl | rfl | rfl | rfl | rfl | rfl | rfl <;> decide +kernel
set_option maxRecDepth 100000 in
set_option maxHeartbeats 4000000 in
theorem law_from (l : List StepV) (so : Option Addr) (sc : Nat) (w : World) (hs : Src w so (svs l)) (hlc : l.length ≤ sc) (hl : l.length ≤ 1000) (hf : ∀ (k : Nat) (s : StepV), l[k]? = some s → 0 ≤ s.from_ ∧ s.from_ ≤ 9) :
    Calls Tryd.prog 55 #[.slice so l.length sc] w fun e w' => e = .returned (.string ⟨(fromL l).toArray⟩) ∧ Chg [] w w' := by
  have HST := Lib.hid (fun (k : Nat) (s : StepV) (h : l[k]? = some s) (wr : World) (C : Chg [] w wr) => show ∃ a, so = some a ∧ wr.cell? ⟨(a.add (k * 5)).block, (a.add (k * 5)).off + 1, none⟩ = some (.int .i64 s.from_) from by
    have h1 := (List.getElem?_eq_some_iff.1 h).1
    obtain ⟨a, rfl, _⟩ := hs.lt (by
      rw [show (svs l).length = l.length * 5 from flat_length (enc := fun s : StepV => s.cells.toList) (size := 5) (fun _ => rfl) l]
      omega)
    have hc := src_flat (w := wr) (a := a) (cells := fun s : StepV => s.cells.toList) (size := 5) (fun _ => rfl) ((hs.chg C (by simp)).cell a rfl) h 1 (.int .i64 s.from_) rfl
    exact ⟨a, rfl, hc⟩)
  have HGE := Lib.hid (fun k (hk : k < l.length) => show ∃ s, l[k]? = some s from ⟨_, List.getElem?_eq_getElem hk⟩)
  have HTA : Hid (l.take l.length = l) := Lib.hid List.take_length
  have HF := Lib.hid hf
  obtain ⟨n, hn⟩ : ∃ n, l.length = n := ⟨_, rfl⟩
  rw [hn] at hl hlc HGE HTA ⊢
  clear hs hn hf
  go_enter Tryd.func55, Tryd.ntmps55
  go_wp2_with fail
  go_loopw [3, 4] (fun v3 v4 wr => ∃ (k : Nat) (S : ByteArray), v3 = .string S ∧ v4 = .int .i64 (k : Int) ∧ k ≤ n ∧ S.size = k ∧ Hid (S.data.toList = fromL (l.take k)) ∧ Hid (Chg [] w wr)) (fun _ v _ => n - (intOf v).toNat)
  case atStart => exact ⟨0, ⟨#[]⟩, rfl, rfl, Nat.zero_le _, rfl, Lib.hid rfl, Lib.hid (Chg.refl _ _)⟩
  case round =>
    obtain ⟨k, S, rfl, rfl, hk, hS, HS, HC⟩ := hrel
    by_cases hlt : k < n
    · have e1 : (k : Int) < n := Int.ofNat_lt.2 hlt
      have e0 : (0 : Int) ≤ k := Int.natCast_nonneg _
      have hkc : k < sc := by omega
      obtain ⟨s, hsk⟩ := HGE.out k hlt
      obtain ⟨a, rfl, hc⟩ := HST.out k s hsk wr HC.out
      have HNX := Lib.hid (fromL_next hsk)
      obtain ⟨f1, f2⟩ := HF.out k s hsk
      obtain ⟨f3, f4, f5, f6⟩ := fromB_int f1 f2
      have HFB : Hid (fromB s = UInt8.ofNat (48 + s.from_.toNat)) := Lib.hid rfl
      generalize s.from_ = f at *
      obtain ⟨b, hb⟩ : ∃ b : UInt8, UInt8.ofNat (48 + f.toNat) = b := ⟨_, rfl⟩
      rw [hb] at f6 HFB
      obtain ⟨z, hz⟩ : ∃ z : Int, 48 + f = z := ⟨_, rfl⟩
      rw [hz] at f3 f4 f5 f6
      have HZ := Lib.hid hz
      subst f6
      have CA := Chg.alloc [] wr (.cells #[.int .u8 (b.toNat : Int)] 5)
      have hsrc := src_row wr #[.int .u8 (b.toNat : Int)] 5 (0, 0)
      clear hsk f1 f2 hb
      go_wp2_with (refine wpList_str_of_bytes _ rfl 25 9 (.tmp 19) rfl 5 Tryd.underlying25 Tryd.underlying5 Tryd.underlying9 (some ⟨wr.heap.size, 0, none⟩) 1 1 rfl ⟨#[b]⟩ rfl hsrc ?_)
      go_roundw
      case rel => exact ⟨k + 1, S ++ ⟨#[b]⟩, rfl, by go_num, hlt, by rw [ByteArray.size_append, hS]; rfl, Lib.hid (by rw [HNX.out, HFB.out, ByteArray.data_append, Array.toList_append, HS.out]), Lib.hid (HC.out.trans CA (by simp))⟩
      case measure => simp [intOf] <;> omega
    · have e1 : ¬ (k : Int) < n := fun h => hlt (Int.ofNat_lt.1 h)
      have hkn : k = n := by omega
      have HR : Hid (S = ⟨(fromL l).toArray⟩) := Lib.hid (by
        have h := HS.out
        rw [hkn, HTA.out] at h
        rw [← h])
      clear hkn
      go_wp2_with fail
      go_ret
      exact ⟨by rw [HR.out]; rfl, HC.out⟩
end Go.Proofs.YtfdhpjflkimihaaDoor
/- The chapter's example of the copier, in plain words. No conditions beyond those that each statement types. -/
namespace Go.Proofs.YtfdhpjflkimihaaDoor
open Go.RowKit

theorem given_parts : partsL m_given = [m_x16, m_x16, m_y8] := by decide
theorem given_L : (recV m_given).L = [digest m_x16, digest m_x16, digest m_y8] := by
  show (partsL m_given).map digest = _
  rw [given_parts]
  rfl
theorem given_n : m_given.length = 40 := rfl
theorem given_good : (recV m_given).Good 40 := recV_good (d := m_given) (by decide)
theorem given_cnt : cntN 40 = 3 := by decide
theorem given_len0 : (recV m_given).len 0 = 16 := given_good.lenP (i := 0) (by decide)
theorem given_len1 : (recV m_given).len 1 = 16 := given_good.lenP (i := 1) (by decide)
theorem given_len2 : (recV m_given).len 2 = 8 := given_good.lenP (i := 2) (by decide)
theorem given_dig0 : (recV m_given).dig 0 = digest m_x16 := by unfold RecV.dig; rw [given_L]; rfl
theorem given_dig1 : (recV m_given).dig 1 = digest m_x16 := by unfold RecV.dig; rw [given_L]; rfl
theorem given_dig2 : (recV m_given).dig 2 = digest m_y8 := by unfold RecV.dig; rw [given_L]; rfl
theorem rightB_eq (r : RecV) (i : Nat) (xs : List UInt8) : rightB r i xs = (decide ((xs.length : Int) = r.len i) && sameHash (digest xs) (r.dig i)) := rfl
theorem given_r0 (xs : List UInt8) : rightB (recV m_given) 0 xs = (decide ((xs.length : Int) = 16) && sameHash (digest xs) (digest m_x16)) := by rw [rightB_eq, given_dig0]; show (decide (_ = (recV m_given).len 0) && _) = _; rw [given_len0]
theorem given_r1 (xs : List UInt8) : rightB (recV m_given) 1 xs = (decide ((xs.length : Int) = 16) && sameHash (digest xs) (digest m_x16)) := by rw [rightB_eq, given_dig1]; show (decide (_ = (recV m_given).len 1) && _) = _; rw [given_len1]
theorem given_r2 (xs : List UInt8) : rightB (recV m_given) 2 xs = (decide ((xs.length : Int) = 8) && sameHash (digest xs) (digest m_y8)) := by rw [rightB_eq, given_dig2]; show (decide (_ = (recV m_given).len 2) && _) = _; rw [given_len2]
theorem given_s10 : sameBlk (recV m_given) 1 0 = true := by
  unfold sameBlk
  rw [given_dig0, given_dig1, sameHash_self]
  show (true && decide ((recV m_given).len 0 = (recV m_given).len 1)) = true
  rw [given_len0, given_len1]
  rfl
theorem given_s2 (k : Nat) (hk : k < 2) : sameBlk (recV m_given) 2 k = false := by
  unfold sameBlk
  have h : (recV m_given).len k = 16 := by
    have : k = 0 ∨ k = 1 := by omega
    rcases this with rfl | rfl
    · exact given_len0
    · exact given_len1
  rw [h]
  show (_ && decide ((16 : Int) = (recV m_given).len 2)) = false
  rw [given_len2]
  exact Bool.and_false _
/-- The steps of the plan where nothing is there. -/
def planG : List StepV := [⟨0, 4, ⟨#[]⟩, 0, 0⟩, ⟨1, 3, ⟨#[]⟩, 0, 0⟩, ⟨2, 4, ⟨#[]⟩, 0, 0⟩]
theorem given_plan : planL (recV m_given) 40 [] (fun _ => none) 3 = planG := by
  have p0 : stepPl (recV m_given) 40 [] (fun _ => none) 0 = ⟨0, 4, ⟨#[]⟩, 0, 0⟩ := by
    unfold stepPl
    rw [if_neg (by rw [show plT 40 [] 0 = [] from by decide, given_r0]; decide)]
    rfl
  have p1 : stepPl (recV m_given) 40 [] (fun _ => none) 1 = ⟨1, 3, ⟨#[]⟩, 0, 0⟩ := by
    unfold stepPl
    rw [if_neg (by rw [show plT 40 [] 1 = [] from by decide, given_r1]; decide), find_first (k := 0) (by decide) given_s10 (fun t ht => by omega)]
    rfl
  have p2 : stepPl (recV m_given) 40 [] (fun _ => none) 2 = ⟨2, 4, ⟨#[]⟩, 0, 0⟩ := by
    unfold stepPl
    rw [if_neg (by rw [show plT 40 [] 2 = [] from by decide, given_r2]; decide), find_no (fun t ht => given_s2 t ht)]
    rfl
  unfold planL planG
  rw [show List.range 3 = [0, 1, 2] from rfl, List.map_cons, List.map_cons, List.map_cons, List.map_nil, p0, p1, p2]
theorem given_may : mayB planG 3 = true := by decide
theorem given_from : fromL planG = [52, 51, 52] := by decide
def gotG (a1 : Option Addr) (c1 : Nat) (a2 : Option Addr) (c2 : Nat) : List GotV := [⟨0, a1, m_x16, c1⟩, ⟨2, a2, m_y8, c2⟩]
theorem given_build (a1 : Option Addr) (c1 : Nat) (a2 : Option Addr) (c2 : Nat) : buildV (recV m_given) 40 [] (fun _ => none) (gotG a1 c1 a2 c2) planG = ⟨m_given, [], 0⟩ := by
  have hp : partsV (recV m_given) 40 [] (fun _ => none) (gotG a1 c1 a2 c2) planG 3 = [m_x16, m_x16, m_y8] := rfl
  have hb : badV (recV m_given) [m_x16, m_x16, m_y8] = [] := by
    unfold badV
    rw [show List.range [m_x16, m_x16, m_y8].length = [0, 1, 2] from rfl]
    have e0 : rightB (recV m_given) 0 m_x16 = true := by rw [given_r0, sameHash_self]; rfl
    have e1 : rightB (recV m_given) 1 m_x16 = true := by rw [given_r1, sameHash_self]; rfl
    have e2 : rightB (recV m_given) 2 m_y8 = true := by rw [given_r2, sameHash_self]; rfl
    simp [e0, e1, e2]
  unfold buildV
  rw [if_neg (by rw [given_good.want]; simp), given_cnt, given_may, if_neg (by decide), show planG.length = 3 from rfl, hp, if_neg (by rw [hb]; simp)]
  congr 1
end Go.Proofs.YtfdhpjflkimihaaDoor
/- The digests of the chapters' texts, step by step; the literals by program (wip/gen/block_digests.py). No conditions. -/
namespace Go.Proofs.YtfdhpjflkimihaaDoor
open Go.RowKit

theorem sched_small' (p : Nat → UInt8) (k : Nat) (h : k < 16) (x : UInt32) (e : be4 (p (4 * k)) (p (4 * k + 1)) (p (4 * k + 2)) (p (4 * k + 3)) = x) : sched p k = x := (sched_small p k h).trans e
theorem sched_big' (p : Nat → UInt8) (k : Nat) (h : ¬ k < 16) (a b c d x : UInt32) (ha : sched p (k - 16) = a) (hb : sched p (k - 15) = b) (hc : sched p (k - 7) = c) (hd : sched p (k - 2) = d) (e : sch a b c d = x) : sched p k = x := by
  rw [sched_big p k h, ha, hb, hc, hd, e]
theorem rounds_succ' (p : Nat → UInt8) (v : V8) (t : Nat) (a b : V8) (w : UInt32) (ha : rounds p v t = a) (hw : sched p t = w) (e : a.rnd (rootL.getD t 0) w = b) : rounds p v (t + 1) = b := by
  show (rounds p v t).rnd (rootL.getD t 0) (sched p t) = b
  rw [ha, hw, e]

theorem sched_congrW {p q : Nat → UInt8} (h : ∀ i, i < 64 → p i = q i) : ∀ n t, t < n → t < 64 → sched p t = sched q t
  | 0, t, h0, _ => by omega
  | n + 1, t, h0, h1 => by
    by_cases h16 : t < 16
    · rw [sched_small p t h16, sched_small q t h16, h _ (by omega), h _ (by omega), h _ (by omega), h _ (by omega)]
    · rw [sched_big p t h16, sched_big q t h16, sched_congrW h n (t - 16) (by omega) (by omega), sched_congrW h n (t - 15) (by omega) (by omega), sched_congrW h n (t - 7) (by omega) (by omega), sched_congrW h n (t - 2) (by omega) (by omega)]
theorem rounds_congrW {p q : Nat → UInt8} (h : ∀ i, i < 64 → p i = q i) (v : V8) : ∀ t, t ≤ 64 → rounds p v t = rounds q v t
  | 0, _ => rfl
  | t + 1, ht => by
    show (rounds p v t).rnd (rootL.getD t 0) (sched p t) = (rounds q v t).rnd (rootL.getD t 0) (sched q t)
    rw [rounds_congrW h v t (by omega), sched_congrW h (t + 1) t (by omega) (by omega)]

theorem eat_blockW (s : SS) (M : List UInt8) (hn : s.n % 64 = 0) (hM : M.length = 64) : (s.eat M).wd = fun i => if i < 8 then wadd (s.wd i) ((rounds (fun i => M.getD i 0) (V8.of s.wd) 64).get i) else s.wd i := by
  have h := s.eat_fill M (by omega)
  rw [hn, hM] at h
  rw [h, if_pos rfl]
  have hc : ∀ i, i < 64 → (s.fill M).rs i = M.getD i 0 := fun i hi => by
    show (if s.n % 64 ≤ i ∧ i < s.n % 64 + M.length then M.getD (i - s.n % 64) 0 else s.rs i) = _
    rw [hn, hM, if_pos (by omega), Nat.sub_zero]
  have hr := rounds_congrW (q := fun i => M.getD i 0) hc (V8.of s.wd) 64 (Nat.le_refl _)
  have hf : (s.fill M).wd = s.wd := rfl
  funext i
  show (if i < 8 then wadd ((s.fill M).wd i) ((rounds (s.fill M).rs (V8.of (s.fill M).wd) 64).get i) else (s.fill M).wd i) = _
  rw [hf, hr]

theorem digest_eqW (m : List UInt8) : digest m = (ss0.eat (m ++ padOf m.length)).hash := by
  have h : (ss0.eat m).n = m.length := by
    rw [SS.eat_n]
    show 0 + m.length = _
    omega
  unfold digest SS.sum
  rw [h, ← SS.eat_append]

def p_x16 : Nat → UInt8 := fun i => ([120, 120, 120, 120, 120, 120, 120, 120, 120, 120, 120, 120, 120, 120, 120, 120, 128, 0, 0, 0, 0, 0, 0, 0, 0, 0, 0, 0, 0, 0, 0, 0, 0, 0, 0, 0, 0, 0, 0, 0, 0, 0, 0, 0, 0, 0, 0, 0, 0, 0, 0, 0, 0, 0, 0, 0, 0, 0, 0, 0, 0, 0, 0, 128] : List UInt8).getD i 0
theorem w_x16_0 : sched p_x16 0 = 2021161080 := sched_small' _ _ (by decide) _ (by kernel_rfl)
theorem w_x16_1 : sched p_x16 1 = 2021161080 := sched_small' _ _ (by decide) _ (by kernel_rfl)
theorem w_x16_2 : sched p_x16 2 = 2021161080 := sched_small' _ _ (by decide) _ (by kernel_rfl)
theorem w_x16_3 : sched p_x16 3 = 2021161080 := sched_small' _ _ (by decide) _ (by kernel_rfl)
theorem w_x16_4 : sched p_x16 4 = 2147483648 := sched_small' _ _ (by decide) _ (by kernel_rfl)
theorem w_x16_5 : sched p_x16 5 = 0 := sched_small' _ _ (by decide) _ (by kernel_rfl)
theorem w_x16_6 : sched p_x16 6 = 0 := sched_small' _ _ (by decide) _ (by kernel_rfl)
theorem w_x16_7 : sched p_x16 7 = 0 := sched_small' _ _ (by decide) _ (by kernel_rfl)
theorem w_x16_8 : sched p_x16 8 = 0 := sched_small' _ _ (by decide) _ (by kernel_rfl)
theorem w_x16_9 : sched p_x16 9 = 0 := sched_small' _ _ (by decide) _ (by kernel_rfl)
theorem w_x16_10 : sched p_x16 10 = 0 := sched_small' _ _ (by decide) _ (by kernel_rfl)
theorem w_x16_11 : sched p_x16 11 = 0 := sched_small' _ _ (by decide) _ (by kernel_rfl)
theorem w_x16_12 : sched p_x16 12 = 0 := sched_small' _ _ (by decide) _ (by kernel_rfl)
theorem w_x16_13 : sched p_x16 13 = 0 := sched_small' _ _ (by decide) _ (by kernel_rfl)
theorem w_x16_14 : sched p_x16 14 = 0 := sched_small' _ _ (by decide) _ (by kernel_rfl)
theorem w_x16_15 : sched p_x16 15 = 128 := sched_small' _ _ (by decide) _ (by kernel_rfl)
theorem w_x16_16 : sched p_x16 16 = 1515870809 := sched_big' _ _ (by decide) _ _ _ _ _ w_x16_0 w_x16_1 w_x16_9 w_x16_14 (by kernel_rfl)
theorem w_x16_17 : sched p_x16 17 = 1521113689 := sched_big' _ _ (by decide) _ _ _ _ _ w_x16_1 w_x16_2 w_x16_10 w_x16_15 (by kernel_rfl)
theorem w_x16_18 : sched p_x16 18 = 3234556745 := sched_big' _ _ (by decide) _ _ _ _ _ w_x16_2 w_x16_3 w_x16_11 w_x16_16 (by kernel_rfl)
theorem w_x16_19 : sched p_x16 19 = 4025074958 := sched_big' _ _ (by decide) _ _ _ _ _ w_x16_3 w_x16_4 w_x16_12 w_x16_17 (by kernel_rfl)
theorem w_x16_20 : sched p_x16 20 = 1493035686 := sched_big' _ _ (by decide) _ _ _ _ _ w_x16_4 w_x16_5 w_x16_13 w_x16_18 (by kernel_rfl)
theorem w_x16_21 : sched p_x16 21 = 3659354232 := sched_big' _ _ (by decide) _ _ _ _ _ w_x16_5 w_x16_6 w_x16_14 w_x16_19 (by kernel_rfl)
theorem w_x16_22 : sched p_x16 22 = 1209129115 := sched_big' _ _ (by decide) _ _ _ _ _ w_x16_6 w_x16_7 w_x16_15 w_x16_20 (by kernel_rfl)
theorem w_x16_23 : sched p_x16 23 = 1549814642 := sched_big' _ _ (by decide) _ _ _ _ _ w_x16_7 w_x16_8 w_x16_16 w_x16_21 (by kernel_rfl)
theorem w_x16_24 : sched p_x16 24 = 838280149 := sched_big' _ _ (by decide) _ _ _ _ _ w_x16_8 w_x16_9 w_x16_17 w_x16_22 (by kernel_rfl)
theorem w_x16_25 : sched p_x16 25 = 3985369335 := sched_big' _ _ (by decide) _ _ _ _ _ w_x16_9 w_x16_10 w_x16_18 w_x16_23 (by kernel_rfl)
theorem w_x16_26 : sched p_x16 26 = 1703282715 := sched_big' _ _ (by decide) _ _ _ _ _ w_x16_10 w_x16_11 w_x16_19 w_x16_24 (by kernel_rfl)
theorem w_x16_27 : sched p_x16 27 = 3797701684 := sched_big' _ _ (by decide) _ _ _ _ _ w_x16_11 w_x16_12 w_x16_20 w_x16_25 (by kernel_rfl)
theorem w_x16_28 : sched p_x16 28 = 2671054953 := sched_big' _ _ (by decide) _ _ _ _ _ w_x16_12 w_x16_13 w_x16_21 w_x16_26 (by kernel_rfl)
theorem w_x16_29 : sched p_x16 29 = 3904262923 := sched_big' _ _ (by decide) _ _ _ _ _ w_x16_13 w_x16_14 w_x16_22 w_x16_27 (by kernel_rfl)
theorem w_x16_30 : sched p_x16 30 = 2258533563 := sched_big' _ _ (by decide) _ _ _ _ _ w_x16_14 w_x16_15 w_x16_23 w_x16_28 (by kernel_rfl)
theorem w_x16_31 : sched p_x16 31 = 1161786007 := sched_big' _ _ (by decide) _ _ _ _ _ w_x16_15 w_x16_16 w_x16_24 w_x16_29 (by kernel_rfl)
theorem w_x16_32 : sched p_x16 32 = 1766301864 := sched_big' _ _ (by decide) _ _ _ _ _ w_x16_16 w_x16_17 w_x16_25 w_x16_30 (by kernel_rfl)
theorem w_x16_33 : sched p_x16 33 = 1753412581 := sched_big' _ _ (by decide) _ _ _ _ _ w_x16_17 w_x16_18 w_x16_26 w_x16_31 (by kernel_rfl)
theorem w_x16_34 : sched p_x16 34 = 954497201 := sched_big' _ _ (by decide) _ _ _ _ _ w_x16_18 w_x16_19 w_x16_27 w_x16_32 (by kernel_rfl)
theorem w_x16_35 : sched p_x16 35 = 4089110562 := sched_big' _ _ (by decide) _ _ _ _ _ w_x16_19 w_x16_20 w_x16_28 w_x16_33 (by kernel_rfl)
theorem w_x16_36 : sched p_x16 36 = 3017696841 := sched_big' _ _ (by decide) _ _ _ _ _ w_x16_20 w_x16_21 w_x16_29 w_x16_34 (by kernel_rfl)
theorem w_x16_37 : sched p_x16 37 = 3600441579 := sched_big' _ _ (by decide) _ _ _ _ _ w_x16_21 w_x16_22 w_x16_30 w_x16_35 (by kernel_rfl)
theorem w_x16_38 : sched p_x16 38 = 2331689503 := sched_big' _ _ (by decide) _ _ _ _ _ w_x16_22 w_x16_23 w_x16_31 w_x16_36 (by kernel_rfl)
theorem w_x16_39 : sched p_x16 39 = 2796382560 := sched_big' _ _ (by decide) _ _ _ _ _ w_x16_23 w_x16_24 w_x16_32 w_x16_37 (by kernel_rfl)
theorem w_x16_40 : sched p_x16 40 = 3695195129 := sched_big' _ _ (by decide) _ _ _ _ _ w_x16_24 w_x16_25 w_x16_33 w_x16_38 (by kernel_rfl)
theorem w_x16_41 : sched p_x16 41 = 4171457267 := sched_big' _ _ (by decide) _ _ _ _ _ w_x16_25 w_x16_26 w_x16_34 w_x16_39 (by kernel_rfl)
theorem w_x16_42 : sched p_x16 42 = 3648501914 := sched_big' _ _ (by decide) _ _ _ _ _ w_x16_26 w_x16_27 w_x16_35 w_x16_40 (by kernel_rfl)
theorem w_x16_43 : sched p_x16 43 = 4162262522 := sched_big' _ _ (by decide) _ _ _ _ _ w_x16_27 w_x16_28 w_x16_36 w_x16_41 (by kernel_rfl)
theorem w_x16_44 : sched p_x16 44 = 1060976825 := sched_big' _ _ (by decide) _ _ _ _ _ w_x16_28 w_x16_29 w_x16_37 w_x16_42 (by kernel_rfl)
theorem w_x16_45 : sched p_x16 45 = 3575467711 := sched_big' _ _ (by decide) _ _ _ _ _ w_x16_29 w_x16_30 w_x16_38 w_x16_43 (by kernel_rfl)
theorem w_x16_46 : sched p_x16 46 = 1662558026 := sched_big' _ _ (by decide) _ _ _ _ _ w_x16_30 w_x16_31 w_x16_39 w_x16_44 (by kernel_rfl)
theorem w_x16_47 : sched p_x16 47 = 3859635987 := sched_big' _ _ (by decide) _ _ _ _ _ w_x16_31 w_x16_32 w_x16_40 w_x16_45 (by kernel_rfl)
theorem w_x16_48 : sched p_x16 48 = 964149534 := sched_big' _ _ (by decide) _ _ _ _ _ w_x16_32 w_x16_33 w_x16_41 w_x16_46 (by kernel_rfl)
theorem w_x16_49 : sched p_x16 49 = 3247293165 := sched_big' _ _ (by decide) _ _ _ _ _ w_x16_33 w_x16_34 w_x16_42 w_x16_47 (by kernel_rfl)
theorem w_x16_50 : sched p_x16 50 = 758557242 := sched_big' _ _ (by decide) _ _ _ _ _ w_x16_34 w_x16_35 w_x16_43 w_x16_48 (by kernel_rfl)
theorem w_x16_51 : sched p_x16 51 = 2829152596 := sched_big' _ _ (by decide) _ _ _ _ _ w_x16_35 w_x16_36 w_x16_44 w_x16_49 (by kernel_rfl)
theorem w_x16_52 : sched p_x16 52 = 1586585881 := sched_big' _ _ (by decide) _ _ _ _ _ w_x16_36 w_x16_37 w_x16_45 w_x16_50 (by kernel_rfl)
theorem w_x16_53 : sched p_x16 53 = 1865103558 := sched_big' _ _ (by decide) _ _ _ _ _ w_x16_37 w_x16_38 w_x16_46 w_x16_51 (by kernel_rfl)
theorem w_x16_54 : sched p_x16 54 = 2642485321 := sched_big' _ _ (by decide) _ _ _ _ _ w_x16_38 w_x16_39 w_x16_47 w_x16_52 (by kernel_rfl)
theorem w_x16_55 : sched p_x16 55 = 3226750020 := sched_big' _ _ (by decide) _ _ _ _ _ w_x16_39 w_x16_40 w_x16_48 w_x16_53 (by kernel_rfl)
theorem w_x16_56 : sched p_x16 56 = 1915906257 := sched_big' _ _ (by decide) _ _ _ _ _ w_x16_40 w_x16_41 w_x16_49 w_x16_54 (by kernel_rfl)
theorem w_x16_57 : sched p_x16 57 = 2519705759 := sched_big' _ _ (by decide) _ _ _ _ _ w_x16_41 w_x16_42 w_x16_50 w_x16_55 (by kernel_rfl)
theorem w_x16_58 : sched p_x16 58 = 722712644 := sched_big' _ _ (by decide) _ _ _ _ _ w_x16_42 w_x16_43 w_x16_51 w_x16_56 (by kernel_rfl)
theorem w_x16_59 : sched p_x16 59 = 3017391092 := sched_big' _ _ (by decide) _ _ _ _ _ w_x16_43 w_x16_44 w_x16_52 w_x16_57 (by kernel_rfl)
theorem w_x16_60 : sched p_x16 60 = 2419010449 := sched_big' _ _ (by decide) _ _ _ _ _ w_x16_44 w_x16_45 w_x16_53 w_x16_58 (by kernel_rfl)
theorem w_x16_61 : sched p_x16 61 = 482239250 := sched_big' _ _ (by decide) _ _ _ _ _ w_x16_45 w_x16_46 w_x16_54 w_x16_59 (by kernel_rfl)
theorem w_x16_62 : sched p_x16 62 = 13968965 := sched_big' _ _ (by decide) _ _ _ _ _ w_x16_46 w_x16_47 w_x16_55 w_x16_60 (by kernel_rfl)
theorem w_x16_63 : sched p_x16 63 = 558351408 := sched_big' _ _ (by decide) _ _ _ _ _ w_x16_47 w_x16_48 w_x16_56 w_x16_61 (by kernel_rfl)
def v_x16 : V8 := ⟨1779033703, 3144134277, 1013904242, 2773480762, 1359893119, 2600822924, 528734635, 1541459225⟩
theorem r_x16_0 : rounds p_x16 v_x16 0 = ⟨1779033703, 3144134277, 1013904242, 2773480762, 1359893119, 2600822924, 528734635, 1541459225⟩ := rfl
theorem r_x16_1 : rounds p_x16 v_x16 1 = ⟨1954611397, 1779033703, 3144134277, 1013904242, 289430298, 1359893119, 2600822924, 528734635⟩ := rounds_succ' _ _ _ _ _ _ r_x16_0 w_x16_0 (by kernel_rfl)
theorem r_x16_2 : rounds p_x16 v_x16 2 = ⟨678315633, 1954611397, 1779033703, 3144134277, 2345836851, 289430298, 1359893119, 2600822924⟩ := rounds_succ' _ _ _ _ _ _ r_x16_1 w_x16_1 (by kernel_rfl)
theorem r_x16_3 : rounds p_x16 v_x16 3 = ⟨1143879162, 678315633, 1954611397, 1779033703, 3607201739, 2345836851, 289430298, 1359893119⟩ := rounds_succ' _ _ _ _ _ _ r_x16_2 w_x16_2 (by kernel_rfl)
theorem r_x16_4 : rounds p_x16 v_x16 4 = ⟨2006896003, 1143879162, 678315633, 1954611397, 4151077338, 3607201739, 2345836851, 289430298⟩ := rounds_succ' _ _ _ _ _ _ r_x16_3 w_x16_3 (by kernel_rfl)
theorem r_x16_5 : rounds p_x16 v_x16 5 = ⟨3218708716, 2006896003, 1143879162, 678315633, 90329462, 4151077338, 3607201739, 2345836851⟩ := rounds_succ' _ _ _ _ _ _ r_x16_4 w_x16_4 (by kernel_rfl)
theorem r_x16_6 : rounds p_x16 v_x16 6 = ⟨196206846, 3218708716, 2006896003, 1143879162, 764501885, 90329462, 4151077338, 3607201739⟩ := rounds_succ' _ _ _ _ _ _ r_x16_5 w_x16_5 (by kernel_rfl)
theorem r_x16_7 : rounds p_x16 v_x16 7 = ⟨2527292593, 196206846, 3218708716, 2006896003, 1486355487, 764501885, 90329462, 4151077338⟩ := rounds_succ' _ _ _ _ _ _ r_x16_6 w_x16_6 (by kernel_rfl)
theorem r_x16_8 : rounds p_x16 v_x16 8 = ⟨2470050360, 2527292593, 196206846, 3218708716, 3717215826, 1486355487, 764501885, 90329462⟩ := rounds_succ' _ _ _ _ _ _ r_x16_7 w_x16_7 (by kernel_rfl)
theorem r_x16_9 : rounds p_x16 v_x16 9 = ⟨1170621123, 2470050360, 2527292593, 196206846, 1594617322, 3717215826, 1486355487, 764501885⟩ := rounds_succ' _ _ _ _ _ _ r_x16_8 w_x16_8 (by kernel_rfl)
theorem r_x16_10 : rounds p_x16 v_x16 10 = ⟨2775468288, 1170621123, 2470050360, 2527292593, 991693752, 1594617322, 3717215826, 1486355487⟩ := rounds_succ' _ _ _ _ _ _ r_x16_9 w_x16_9 (by kernel_rfl)
theorem r_x16_11 : rounds p_x16 v_x16 11 = ⟨3559494944, 2775468288, 1170621123, 2470050360, 216267818, 991693752, 1594617322, 3717215826⟩ := rounds_succ' _ _ _ _ _ _ r_x16_10 w_x16_10 (by kernel_rfl)
theorem r_x16_12 : rounds p_x16 v_x16 12 = ⟨3925298394, 3559494944, 2775468288, 1170621123, 2104147646, 216267818, 991693752, 1594617322⟩ := rounds_succ' _ _ _ _ _ _ r_x16_11 w_x16_11 (by kernel_rfl)
theorem r_x16_13 : rounds p_x16 v_x16 13 = ⟨1655678278, 3925298394, 3559494944, 2775468288, 3245122526, 2104147646, 216267818, 991693752⟩ := rounds_succ' _ _ _ _ _ _ r_x16_12 w_x16_12 (by kernel_rfl)
theorem r_x16_14 : rounds p_x16 v_x16 14 = ⟨2905642967, 1655678278, 3925298394, 3559494944, 1709274607, 3245122526, 2104147646, 216267818⟩ := rounds_succ' _ _ _ _ _ _ r_x16_13 w_x16_13 (by kernel_rfl)
theorem r_x16_15 : rounds p_x16 v_x16 15 = ⟨1951536533, 2905642967, 1655678278, 3925298394, 3340112410, 1709274607, 3245122526, 2104147646⟩ := rounds_succ' _ _ _ _ _ _ r_x16_14 w_x16_14 (by kernel_rfl)
theorem r_x16_16 : rounds p_x16 v_x16 16 = ⟨1171858020, 1951536533, 2905642967, 1655678278, 297035587, 3340112410, 1709274607, 3245122526⟩ := rounds_succ' _ _ _ _ _ _ r_x16_15 w_x16_15 (by kernel_rfl)
theorem r_x16_17 : rounds p_x16 v_x16 17 = ⟨1878839387, 1171858020, 1951536533, 2905642967, 108947077, 297035587, 3340112410, 1709274607⟩ := rounds_succ' _ _ _ _ _ _ r_x16_16 w_x16_16 (by kernel_rfl)
theorem r_x16_18 : rounds p_x16 v_x16 18 = ⟨2101754210, 1878839387, 1171858020, 1951536533, 439982741, 108947077, 297035587, 3340112410⟩ := rounds_succ' _ _ _ _ _ _ r_x16_17 w_x16_17 (by kernel_rfl)
theorem r_x16_19 : rounds p_x16 v_x16 19 = ⟨1877642434, 2101754210, 1878839387, 1171858020, 699958361, 439982741, 108947077, 297035587⟩ := rounds_succ' _ _ _ _ _ _ r_x16_18 w_x16_18 (by kernel_rfl)
theorem r_x16_20 : rounds p_x16 v_x16 20 = ⟨800397412, 1877642434, 2101754210, 1878839387, 2915355819, 699958361, 439982741, 108947077⟩ := rounds_succ' _ _ _ _ _ _ r_x16_19 w_x16_19 (by kernel_rfl)
theorem r_x16_21 : rounds p_x16 v_x16 21 = ⟨794285477, 800397412, 1877642434, 2101754210, 314630799, 2915355819, 699958361, 439982741⟩ := rounds_succ' _ _ _ _ _ _ r_x16_20 w_x16_20 (by kernel_rfl)
theorem r_x16_22 : rounds p_x16 v_x16 22 = ⟨1614678271, 794285477, 800397412, 1877642434, 4091709971, 314630799, 2915355819, 699958361⟩ := rounds_succ' _ _ _ _ _ _ r_x16_21 w_x16_21 (by kernel_rfl)
theorem r_x16_23 : rounds p_x16 v_x16 23 = ⟨2168677423, 1614678271, 794285477, 800397412, 1512004029, 4091709971, 314630799, 2915355819⟩ := rounds_succ' _ _ _ _ _ _ r_x16_22 w_x16_22 (by kernel_rfl)
theorem r_x16_24 : rounds p_x16 v_x16 24 = ⟨2405752046, 2168677423, 1614678271, 794285477, 3506848654, 1512004029, 4091709971, 314630799⟩ := rounds_succ' _ _ _ _ _ _ r_x16_23 w_x16_23 (by kernel_rfl)
theorem r_x16_25 : rounds p_x16 v_x16 25 = ⟨1927439120, 2405752046, 2168677423, 1614678271, 1224013222, 3506848654, 1512004029, 4091709971⟩ := rounds_succ' _ _ _ _ _ _ r_x16_24 w_x16_24 (by kernel_rfl)
theorem r_x16_26 : rounds p_x16 v_x16 26 = ⟨1146704844, 1927439120, 2405752046, 2168677423, 2474486401, 1224013222, 3506848654, 1512004029⟩ := rounds_succ' _ _ _ _ _ _ r_x16_25 w_x16_25 (by kernel_rfl)
theorem r_x16_27 : rounds p_x16 v_x16 27 = ⟨3378896888, 1146704844, 1927439120, 2405752046, 437102899, 2474486401, 1224013222, 3506848654⟩ := rounds_succ' _ _ _ _ _ _ r_x16_26 w_x16_26 (by kernel_rfl)
theorem r_x16_28 : rounds p_x16 v_x16 28 = ⟨1306277495, 3378896888, 1146704844, 1927439120, 1107222424, 437102899, 2474486401, 1224013222⟩ := rounds_succ' _ _ _ _ _ _ r_x16_27 w_x16_27 (by kernel_rfl)
theorem r_x16_29 : rounds p_x16 v_x16 29 = ⟨199875039, 1306277495, 3378896888, 1146704844, 559556264, 1107222424, 437102899, 2474486401⟩ := rounds_succ' _ _ _ _ _ _ r_x16_28 w_x16_28 (by kernel_rfl)
theorem r_x16_30 : rounds p_x16 v_x16 30 = ⟨991980369, 199875039, 1306277495, 3378896888, 2317781512, 559556264, 1107222424, 437102899⟩ := rounds_succ' _ _ _ _ _ _ r_x16_29 w_x16_29 (by kernel_rfl)
theorem r_x16_31 : rounds p_x16 v_x16 31 = ⟨4221746725, 991980369, 199875039, 1306277495, 590584715, 2317781512, 559556264, 1107222424⟩ := rounds_succ' _ _ _ _ _ _ r_x16_30 w_x16_30 (by kernel_rfl)
theorem r_x16_32 : rounds p_x16 v_x16 32 = ⟨2732095505, 4221746725, 991980369, 199875039, 2949893569, 590584715, 2317781512, 559556264⟩ := rounds_succ' _ _ _ _ _ _ r_x16_31 w_x16_31 (by kernel_rfl)
theorem r_x16_33 : rounds p_x16 v_x16 33 = ⟨2994240340, 2732095505, 4221746725, 991980369, 954633430, 2949893569, 590584715, 2317781512⟩ := rounds_succ' _ _ _ _ _ _ r_x16_32 w_x16_32 (by kernel_rfl)
theorem r_x16_34 : rounds p_x16 v_x16 34 = ⟨3368716000, 2994240340, 2732095505, 4221746725, 958109757, 954633430, 2949893569, 590584715⟩ := rounds_succ' _ _ _ _ _ _ r_x16_33 w_x16_33 (by kernel_rfl)
theorem r_x16_35 : rounds p_x16 v_x16 35 = ⟨3097395898, 3368716000, 2994240340, 2732095505, 3795411392, 958109757, 954633430, 2949893569⟩ := rounds_succ' _ _ _ _ _ _ r_x16_34 w_x16_34 (by kernel_rfl)
theorem r_x16_36 : rounds p_x16 v_x16 36 = ⟨3516767118, 3097395898, 3368716000, 2994240340, 4188209655, 3795411392, 958109757, 954633430⟩ := rounds_succ' _ _ _ _ _ _ r_x16_35 w_x16_35 (by kernel_rfl)
theorem r_x16_37 : rounds p_x16 v_x16 37 = ⟨1505793993, 3516767118, 3097395898, 3368716000, 354074410, 4188209655, 3795411392, 958109757⟩ := rounds_succ' _ _ _ _ _ _ r_x16_36 w_x16_36 (by kernel_rfl)
theorem r_x16_38 : rounds p_x16 v_x16 38 = ⟨4254008449, 1505793993, 3516767118, 3097395898, 39266630, 354074410, 4188209655, 3795411392⟩ := rounds_succ' _ _ _ _ _ _ r_x16_37 w_x16_37 (by kernel_rfl)
theorem r_x16_39 : rounds p_x16 v_x16 39 = ⟨1158843960, 4254008449, 1505793993, 3516767118, 3164950203, 39266630, 354074410, 4188209655⟩ := rounds_succ' _ _ _ _ _ _ r_x16_38 w_x16_38 (by kernel_rfl)
theorem r_x16_40 : rounds p_x16 v_x16 40 = ⟨658873794, 1158843960, 4254008449, 1505793993, 1889683641, 3164950203, 39266630, 354074410⟩ := rounds_succ' _ _ _ _ _ _ r_x16_39 w_x16_39 (by kernel_rfl)
theorem r_x16_41 : rounds p_x16 v_x16 41 = ⟨1100474839, 658873794, 1158843960, 4254008449, 3298402143, 1889683641, 3164950203, 39266630⟩ := rounds_succ' _ _ _ _ _ _ r_x16_40 w_x16_40 (by kernel_rfl)
theorem r_x16_42 : rounds p_x16 v_x16 42 = ⟨4201566087, 1100474839, 658873794, 1158843960, 4050492010, 3298402143, 1889683641, 3164950203⟩ := rounds_succ' _ _ _ _ _ _ r_x16_41 w_x16_41 (by kernel_rfl)
theorem r_x16_43 : rounds p_x16 v_x16 43 = ⟨103639431, 4201566087, 1100474839, 658873794, 2925374074, 4050492010, 3298402143, 1889683641⟩ := rounds_succ' _ _ _ _ _ _ r_x16_42 w_x16_42 (by kernel_rfl)
theorem r_x16_44 : rounds p_x16 v_x16 44 = ⟨376582313, 103639431, 4201566087, 1100474839, 3279056338, 2925374074, 4050492010, 3298402143⟩ := rounds_succ' _ _ _ _ _ _ r_x16_43 w_x16_43 (by kernel_rfl)
theorem r_x16_45 : rounds p_x16 v_x16 45 = ⟨4004499119, 376582313, 103639431, 4201566087, 297972509, 3279056338, 2925374074, 4050492010⟩ := rounds_succ' _ _ _ _ _ _ r_x16_44 w_x16_44 (by kernel_rfl)
theorem r_x16_46 : rounds p_x16 v_x16 46 = ⟨2069722863, 4004499119, 376582313, 103639431, 1034855512, 297972509, 3279056338, 2925374074⟩ := rounds_succ' _ _ _ _ _ _ r_x16_45 w_x16_45 (by kernel_rfl)
theorem r_x16_47 : rounds p_x16 v_x16 47 = ⟨2968599978, 2069722863, 4004499119, 376582313, 472380869, 1034855512, 297972509, 3279056338⟩ := rounds_succ' _ _ _ _ _ _ r_x16_46 w_x16_46 (by kernel_rfl)
theorem r_x16_48 : rounds p_x16 v_x16 48 = ⟨395832867, 2968599978, 2069722863, 4004499119, 2909617661, 472380869, 1034855512, 297972509⟩ := rounds_succ' _ _ _ _ _ _ r_x16_47 w_x16_47 (by kernel_rfl)
theorem r_x16_49 : rounds p_x16 v_x16 49 = ⟨2688621744, 395832867, 2968599978, 2069722863, 1876271435, 2909617661, 472380869, 1034855512⟩ := rounds_succ' _ _ _ _ _ _ r_x16_48 w_x16_48 (by kernel_rfl)
theorem r_x16_50 : rounds p_x16 v_x16 50 = ⟨3281393383, 2688621744, 395832867, 2968599978, 3292187023, 1876271435, 2909617661, 472380869⟩ := rounds_succ' _ _ _ _ _ _ r_x16_49 w_x16_49 (by kernel_rfl)
theorem r_x16_51 : rounds p_x16 v_x16 51 = ⟨2493553933, 3281393383, 2688621744, 395832867, 2725950989, 3292187023, 1876271435, 2909617661⟩ := rounds_succ' _ _ _ _ _ _ r_x16_50 w_x16_50 (by kernel_rfl)
theorem r_x16_52 : rounds p_x16 v_x16 52 = ⟨2996199790, 2493553933, 3281393383, 2688621744, 981302999, 2725950989, 3292187023, 1876271435⟩ := rounds_succ' _ _ _ _ _ _ r_x16_51 w_x16_51 (by kernel_rfl)
theorem r_x16_53 : rounds p_x16 v_x16 53 = ⟨932930430, 2996199790, 2493553933, 3281393383, 1190179997, 981302999, 2725950989, 3292187023⟩ := rounds_succ' _ _ _ _ _ _ r_x16_52 w_x16_52 (by kernel_rfl)
theorem r_x16_54 : rounds p_x16 v_x16 54 = ⟨1976513507, 932930430, 2996199790, 2493553933, 2268613762, 1190179997, 981302999, 2725950989⟩ := rounds_succ' _ _ _ _ _ _ r_x16_53 w_x16_53 (by kernel_rfl)
theorem r_x16_55 : rounds p_x16 v_x16 55 = ⟨2529128886, 1976513507, 932930430, 2996199790, 1964555263, 2268613762, 1190179997, 981302999⟩ := rounds_succ' _ _ _ _ _ _ r_x16_54 w_x16_54 (by kernel_rfl)
theorem r_x16_56 : rounds p_x16 v_x16 56 = ⟨2262609300, 2529128886, 1976513507, 932930430, 737535808, 1964555263, 2268613762, 1190179997⟩ := rounds_succ' _ _ _ _ _ _ r_x16_55 w_x16_55 (by kernel_rfl)
theorem r_x16_57 : rounds p_x16 v_x16 57 = ⟨3148404387, 2262609300, 2529128886, 1976513507, 482326736, 737535808, 1964555263, 2268613762⟩ := rounds_succ' _ _ _ _ _ _ r_x16_56 w_x16_56 (by kernel_rfl)
theorem r_x16_58 : rounds p_x16 v_x16 58 = ⟨2497337551, 3148404387, 2262609300, 2529128886, 2067738876, 482326736, 737535808, 1964555263⟩ := rounds_succ' _ _ _ _ _ _ r_x16_57 w_x16_57 (by kernel_rfl)
theorem r_x16_59 : rounds p_x16 v_x16 59 = ⟨2431825016, 2497337551, 3148404387, 2262609300, 1185954549, 2067738876, 482326736, 737535808⟩ := rounds_succ' _ _ _ _ _ _ r_x16_58 w_x16_58 (by kernel_rfl)
theorem r_x16_60 : rounds p_x16 v_x16 60 = ⟨2024431666, 2431825016, 2497337551, 3148404387, 560099347, 1185954549, 2067738876, 482326736⟩ := rounds_succ' _ _ _ _ _ _ r_x16_59 w_x16_59 (by kernel_rfl)
theorem r_x16_61 : rounds p_x16 v_x16 61 = ⟨1593362093, 2024431666, 2431825016, 2497337551, 1399691289, 560099347, 1185954549, 2067738876⟩ := rounds_succ' _ _ _ _ _ _ r_x16_60 w_x16_60 (by kernel_rfl)
theorem r_x16_62 : rounds p_x16 v_x16 62 = ⟨3987956406, 1593362093, 2024431666, 2431825016, 2814665783, 1399691289, 560099347, 1185954549⟩ := rounds_succ' _ _ _ _ _ _ r_x16_61 w_x16_61 (by kernel_rfl)
theorem r_x16_63 : rounds p_x16 v_x16 63 = ⟨2756368711, 3987956406, 1593362093, 2024431666, 1429322889, 2814665783, 1399691289, 560099347⟩ := rounds_succ' _ _ _ _ _ _ r_x16_62 w_x16_62 (by kernel_rfl)
theorem r_x16_64 : rounds p_x16 v_x16 64 = ⟨843924210, 2756368711, 3987956406, 1593362093, 3048363495, 1429322889, 2814665783, 1399691289⟩ := rounds_succ' _ _ _ _ _ _ r_x16_63 w_x16_63 (by kernel_rfl)

theorem M_x16 : m_x16 ++ padOf m_x16.length = [120, 120, 120, 120, 120, 120, 120, 120, 120, 120, 120, 120, 120, 120, 120, 120, 128, 0, 0, 0, 0, 0, 0, 0, 0, 0, 0, 0, 0, 0, 0, 0, 0, 0, 0, 0, 0, 0, 0, 0, 0, 0, 0, 0, 0, 0, 0, 0, 0, 0, 0, 0, 0, 0, 0, 0, 0, 0, 0, 0, 0, 0, 0, 128] := by kernel_rfl
theorem dg_x16 : digest m_x16 0 = 156 := by
  have h0 := eat_blockW ss0 [120, 120, 120, 120, 120, 120, 120, 120, 120, 120, 120, 120, 120, 120, 120, 120, 128, 0, 0, 0, 0, 0, 0, 0, 0, 0, 0, 0, 0, 0, 0, 0, 0, 0, 0, 0, 0, 0, 0, 0, 0, 0, 0, 0, 0, 0, 0, 0, 0, 0, 0, 0, 0, 0, 0, 0, 0, 0, 0, 0, 0, 0, 0, 128] rfl rfl
  have hr : rounds (fun i => ([120, 120, 120, 120, 120, 120, 120, 120, 120, 120, 120, 120, 120, 120, 120, 120, 128, 0, 0, 0, 0, 0, 0, 0, 0, 0, 0, 0, 0, 0, 0, 0, 0, 0, 0, 0, 0, 0, 0, 0, 0, 0, 0, 0, 0, 0, 0, 0, 0, 0, 0, 0, 0, 0, 0, 0, 0, 0, 0, 0, 0, 0, 0, 128] : List UInt8).getD i 0) (V8.of ss0.wd) 64 = _ := r_x16_64
  rw [hr] at h0
  rw [digest_eqW, M_x16]
  unfold SS.hash
  rw [h0]
  show _ = _
  kernel_rfl

def p_z16 : Nat → UInt8 := fun i => ([122, 122, 122, 122, 122, 122, 122, 122, 122, 122, 122, 122, 122, 122, 122, 122, 128, 0, 0, 0, 0, 0, 0, 0, 0, 0, 0, 0, 0, 0, 0, 0, 0, 0, 0, 0, 0, 0, 0, 0, 0, 0, 0, 0, 0, 0, 0, 0, 0, 0, 0, 0, 0, 0, 0, 0, 0, 0, 0, 0, 0, 0, 0, 128] : List UInt8).getD i 0
theorem w_z16_0 : sched p_z16 0 = 2054847098 := sched_small' _ _ (by decide) _ (by kernel_rfl)
theorem w_z16_1 : sched p_z16 1 = 2054847098 := sched_small' _ _ (by decide) _ (by kernel_rfl)
theorem w_z16_2 : sched p_z16 2 = 2054847098 := sched_small' _ _ (by decide) _ (by kernel_rfl)
theorem w_z16_3 : sched p_z16 3 = 2054847098 := sched_small' _ _ (by decide) _ (by kernel_rfl)
theorem w_z16_4 : sched p_z16 4 = 2147483648 := sched_small' _ _ (by decide) _ (by kernel_rfl)
theorem w_z16_5 : sched p_z16 5 = 0 := sched_small' _ _ (by decide) _ (by kernel_rfl)
theorem w_z16_6 : sched p_z16 6 = 0 := sched_small' _ _ (by decide) _ (by kernel_rfl)
theorem w_z16_7 : sched p_z16 7 = 0 := sched_small' _ _ (by decide) _ (by kernel_rfl)
theorem w_z16_8 : sched p_z16 8 = 0 := sched_small' _ _ (by decide) _ (by kernel_rfl)
theorem w_z16_9 : sched p_z16 9 = 0 := sched_small' _ _ (by decide) _ (by kernel_rfl)
theorem w_z16_10 : sched p_z16 10 = 0 := sched_small' _ _ (by decide) _ (by kernel_rfl)
theorem w_z16_11 : sched p_z16 11 = 0 := sched_small' _ _ (by decide) _ (by kernel_rfl)
theorem w_z16_12 : sched p_z16 12 = 0 := sched_small' _ _ (by decide) _ (by kernel_rfl)
theorem w_z16_13 : sched p_z16 13 = 0 := sched_small' _ _ (by decide) _ (by kernel_rfl)
theorem w_z16_14 : sched p_z16 14 = 0 := sched_small' _ _ (by decide) _ (by kernel_rfl)
theorem w_z16_15 : sched p_z16 15 = 128 := sched_small' _ _ (by decide) _ (by kernel_rfl)
theorem w_z16_16 : sched p_z16 16 = 3751780255 := sched_big' _ _ (by decide) _ _ _ _ _ w_z16_0 w_z16_1 w_z16_9 w_z16_14 (by kernel_rfl)
theorem w_z16_17 : sched p_z16 17 = 3757023135 := sched_big' _ _ (by decide) _ _ _ _ _ w_z16_1 w_z16_2 w_z16_10 w_z16_15 (by kernel_rfl)
theorem w_z16_18 : sched p_z16 18 = 464229242 := sched_big' _ _ (by decide) _ _ _ _ _ w_z16_2 w_z16_3 w_z16_11 w_z16_16 (by kernel_rfl)
theorem w_z16_19 : sched p_z16 19 = 3347483239 := sched_big' _ _ (by decide) _ _ _ _ _ w_z16_3 w_z16_4 w_z16_12 w_z16_17 (by kernel_rfl)
theorem w_z16_20 : sched p_z16 20 = 1003791428 := sched_big' _ _ (by decide) _ _ _ _ _ w_z16_4 w_z16_5 w_z16_13 w_z16_18 (by kernel_rfl)
theorem w_z16_21 : sched p_z16 21 = 2488203921 := sched_big' _ _ (by decide) _ _ _ _ _ w_z16_5 w_z16_6 w_z16_14 w_z16_19 (by kernel_rfl)
theorem w_z16_22 : sched p_z16 22 = 3332665401 := sched_big' _ _ (by decide) _ _ _ _ _ w_z16_6 w_z16_7 w_z16_15 w_z16_20 (by kernel_rfl)
theorem w_z16_23 : sched p_z16 23 = 2178910895 := sched_big' _ _ (by decide) _ _ _ _ _ w_z16_7 w_z16_8 w_z16_16 w_z16_21 (by kernel_rfl)
theorem w_z16_24 : sched p_z16 24 = 2518291001 := sched_big' _ _ (by decide) _ _ _ _ _ w_z16_8 w_z16_9 w_z16_17 w_z16_22 (by kernel_rfl)
theorem w_z16_25 : sched p_z16 25 = 1338890928 := sched_big' _ _ (by decide) _ _ _ _ _ w_z16_9 w_z16_10 w_z16_18 w_z16_23 (by kernel_rfl)
theorem w_z16_26 : sched p_z16 26 = 319097265 := sched_big' _ _ (by decide) _ _ _ _ _ w_z16_10 w_z16_11 w_z16_19 w_z16_24 (by kernel_rfl)
theorem w_z16_27 : sched p_z16 27 = 2448589229 := sched_big' _ _ (by decide) _ _ _ _ _ w_z16_11 w_z16_12 w_z16_20 w_z16_25 (by kernel_rfl)
theorem w_z16_28 : sched p_z16 28 = 3124323633 := sched_big' _ _ (by decide) _ _ _ _ _ w_z16_12 w_z16_13 w_z16_21 w_z16_26 (by kernel_rfl)
theorem w_z16_29 : sched p_z16 29 = 3614144160 := sched_big' _ _ (by decide) _ _ _ _ _ w_z16_13 w_z16_14 w_z16_22 w_z16_27 (by kernel_rfl)
theorem w_z16_30 : sched p_z16 30 = 537915074 := sched_big' _ _ (by decide) _ _ _ _ _ w_z16_14 w_z16_15 w_z16_23 w_z16_28 (by kernel_rfl)
theorem w_z16_31 : sched p_z16 31 = 796326249 := sched_big' _ _ (by decide) _ _ _ _ _ w_z16_15 w_z16_16 w_z16_24 w_z16_29 (by kernel_rfl)
theorem w_z16_32 : sched p_z16 32 = 4257525123 := sched_big' _ _ (by decide) _ _ _ _ _ w_z16_16 w_z16_17 w_z16_25 w_z16_30 (by kernel_rfl)
theorem w_z16_33 : sched p_z16 33 = 2854468830 := sched_big' _ _ (by decide) _ _ _ _ _ w_z16_17 w_z16_18 w_z16_26 w_z16_31 (by kernel_rfl)
theorem w_z16_34 : sched p_z16 34 = 3872600913 := sched_big' _ _ (by decide) _ _ _ _ _ w_z16_18 w_z16_19 w_z16_27 w_z16_32 (by kernel_rfl)
theorem w_z16_35 : sched p_z16 35 = 3518638983 := sched_big' _ _ (by decide) _ _ _ _ _ w_z16_19 w_z16_20 w_z16_28 w_z16_33 (by kernel_rfl)
theorem w_z16_36 : sched p_z16 36 = 2722151959 := sched_big' _ _ (by decide) _ _ _ _ _ w_z16_20 w_z16_21 w_z16_29 w_z16_34 (by kernel_rfl)
theorem w_z16_37 : sched p_z16 37 = 2084445441 := sched_big' _ _ (by decide) _ _ _ _ _ w_z16_21 w_z16_22 w_z16_30 w_z16_35 (by kernel_rfl)
theorem w_z16_38 : sched p_z16 38 = 3968912672 := sched_big' _ _ (by decide) _ _ _ _ _ w_z16_22 w_z16_23 w_z16_31 w_z16_36 (by kernel_rfl)
theorem w_z16_39 : sched p_z16 39 = 843377206 := sched_big' _ _ (by decide) _ _ _ _ _ w_z16_23 w_z16_24 w_z16_32 w_z16_37 (by kernel_rfl)
theorem w_z16_40 : sched p_z16 40 = 3742847504 := sched_big' _ _ (by decide) _ _ _ _ _ w_z16_24 w_z16_25 w_z16_33 w_z16_38 (by kernel_rfl)
theorem w_z16_41 : sched p_z16 41 = 1092439093 := sched_big' _ _ (by decide) _ _ _ _ _ w_z16_25 w_z16_26 w_z16_34 w_z16_39 (by kernel_rfl)
theorem w_z16_42 : sched p_z16 42 = 296990783 := sched_big' _ _ (by decide) _ _ _ _ _ w_z16_26 w_z16_27 w_z16_35 w_z16_40 (by kernel_rfl)
theorem w_z16_43 : sched p_z16 43 = 1899937956 := sched_big' _ _ (by decide) _ _ _ _ _ w_z16_27 w_z16_28 w_z16_36 w_z16_41 (by kernel_rfl)
theorem w_z16_44 : sched p_z16 44 = 1753159190 := sched_big' _ _ (by decide) _ _ _ _ _ w_z16_28 w_z16_29 w_z16_37 w_z16_42 (by kernel_rfl)
theorem w_z16_45 : sched p_z16 45 = 4165510862 := sched_big' _ _ (by decide) _ _ _ _ _ w_z16_29 w_z16_30 w_z16_38 w_z16_43 (by kernel_rfl)
theorem w_z16_46 : sched p_z16 46 = 638793967 := sched_big' _ _ (by decide) _ _ _ _ _ w_z16_30 w_z16_31 w_z16_39 w_z16_44 (by kernel_rfl)
theorem w_z16_47 : sched p_z16 47 = 2301812759 := sched_big' _ _ (by decide) _ _ _ _ _ w_z16_31 w_z16_32 w_z16_40 w_z16_45 (by kernel_rfl)
theorem w_z16_48 : sched p_z16 48 = 2171438887 := sched_big' _ _ (by decide) _ _ _ _ _ w_z16_32 w_z16_33 w_z16_41 w_z16_46 (by kernel_rfl)
theorem w_z16_49 : sched p_z16 49 = 1539745756 := sched_big' _ _ (by decide) _ _ _ _ _ w_z16_33 w_z16_34 w_z16_42 w_z16_47 (by kernel_rfl)
theorem w_z16_50 : sched p_z16 50 = 1793008952 := sched_big' _ _ (by decide) _ _ _ _ _ w_z16_34 w_z16_35 w_z16_43 w_z16_48 (by kernel_rfl)
theorem w_z16_51 : sched p_z16 51 = 3586529021 := sched_big' _ _ (by decide) _ _ _ _ _ w_z16_35 w_z16_36 w_z16_44 w_z16_49 (by kernel_rfl)
theorem w_z16_52 : sched p_z16 52 = 2599081335 := sched_big' _ _ (by decide) _ _ _ _ _ w_z16_36 w_z16_37 w_z16_45 w_z16_50 (by kernel_rfl)
theorem w_z16_53 : sched p_z16 53 = 3672668904 := sched_big' _ _ (by decide) _ _ _ _ _ w_z16_37 w_z16_38 w_z16_46 w_z16_51 (by kernel_rfl)
theorem w_z16_54 : sched p_z16 54 = 4137208279 := sched_big' _ _ (by decide) _ _ _ _ _ w_z16_38 w_z16_39 w_z16_47 w_z16_52 (by kernel_rfl)
theorem w_z16_55 : sched p_z16 55 = 3567988919 := sched_big' _ _ (by decide) _ _ _ _ _ w_z16_39 w_z16_40 w_z16_48 w_z16_53 (by kernel_rfl)
theorem w_z16_56 : sched p_z16 56 = 3933692146 := sched_big' _ _ (by decide) _ _ _ _ _ w_z16_40 w_z16_41 w_z16_49 w_z16_54 (by kernel_rfl)
theorem w_z16_57 : sched p_z16 57 = 1016037268 := sched_big' _ _ (by decide) _ _ _ _ _ w_z16_41 w_z16_42 w_z16_50 w_z16_55 (by kernel_rfl)
theorem w_z16_58 : sched p_z16 58 = 985939651 := sched_big' _ _ (by decide) _ _ _ _ _ w_z16_42 w_z16_43 w_z16_51 w_z16_56 (by kernel_rfl)
theorem w_z16_59 : sched p_z16 59 = 1086052117 := sched_big' _ _ (by decide) _ _ _ _ _ w_z16_43 w_z16_44 w_z16_52 w_z16_57 (by kernel_rfl)
theorem w_z16_60 : sched p_z16 60 = 2271811513 := sched_big' _ _ (by decide) _ _ _ _ _ w_z16_44 w_z16_45 w_z16_53 w_z16_58 (by kernel_rfl)
theorem w_z16_61 : sched p_z16 61 = 2500796492 := sched_big' _ _ (by decide) _ _ _ _ _ w_z16_45 w_z16_46 w_z16_54 w_z16_59 (by kernel_rfl)
theorem w_z16_62 : sched p_z16 62 = 704278096 := sched_big' _ _ (by decide) _ _ _ _ _ w_z16_46 w_z16_47 w_z16_55 w_z16_60 (by kernel_rfl)
theorem w_z16_63 : sched p_z16 63 = 647719080 := sched_big' _ _ (by decide) _ _ _ _ _ w_z16_47 w_z16_48 w_z16_56 w_z16_61 (by kernel_rfl)
def v_z16 : V8 := ⟨1779033703, 3144134277, 1013904242, 2773480762, 1359893119, 2600822924, 528734635, 1541459225⟩
theorem r_z16_0 : rounds p_z16 v_z16 0 = ⟨1779033703, 3144134277, 1013904242, 2773480762, 1359893119, 2600822924, 528734635, 1541459225⟩ := rfl
theorem r_z16_1 : rounds p_z16 v_z16 1 = ⟨1988297415, 1779033703, 3144134277, 1013904242, 323116316, 1359893119, 2600822924, 528734635⟩ := rounds_succ' _ _ _ _ _ _ r_z16_0 w_z16_0 (by kernel_rfl)
theorem r_z16_2 : rounds p_z16 v_z16 2 = ⟨1488128194, 1988297415, 1779033703, 3144134277, 1401809914, 323116316, 1359893119, 2600822924⟩ := rounds_succ' _ _ _ _ _ _ r_z16_1 w_z16_1 (by kernel_rfl)
theorem r_z16_3 : rounds p_z16 v_z16 3 = ⟨3319071934, 1488128194, 1988297415, 1779033703, 3936133554, 1401809914, 323116316, 1359893119⟩ := rounds_succ' _ _ _ _ _ _ r_z16_2 w_z16_2 (by kernel_rfl)
theorem r_z16_4 : rounds p_z16 v_z16 4 = ⟨3520738329, 3319071934, 1488128194, 1988297415, 650085674, 3936133554, 1401809914, 323116316⟩ := rounds_succ' _ _ _ _ _ _ r_z16_3 w_z16_3 (by kernel_rfl)
theorem r_z16_5 : rounds p_z16 v_z16 5 = ⟨546189706, 3520738329, 3319071934, 1488128194, 148228903, 650085674, 3936133554, 1401809914⟩ := rounds_succ' _ _ _ _ _ _ r_z16_4 w_z16_4 (by kernel_rfl)
theorem r_z16_6 : rounds p_z16 v_z16 6 = ⟨550982361, 546189706, 3520738329, 3319071934, 2063042160, 148228903, 650085674, 3936133554⟩ := rounds_succ' _ _ _ _ _ _ r_z16_5 w_z16_5 (by kernel_rfl)
theorem r_z16_7 : rounds p_z16 v_z16 7 = ⟨2725726076, 550982361, 546189706, 3520738329, 3283510546, 2063042160, 148228903, 650085674⟩ := rounds_succ' _ _ _ _ _ _ r_z16_6 w_z16_6 (by kernel_rfl)
theorem r_z16_8 : rounds p_z16 v_z16 8 = ⟨1047797041, 2725726076, 550982361, 546189706, 554814598, 3283510546, 2063042160, 148228903⟩ := rounds_succ' _ _ _ _ _ _ r_z16_7 w_z16_7 (by kernel_rfl)
theorem r_z16_9 : rounds p_z16 v_z16 9 = ⟨3595659738, 1047797041, 2725726076, 550982361, 1577587670, 554814598, 3283510546, 2063042160⟩ := rounds_succ' _ _ _ _ _ _ r_z16_8 w_z16_8 (by kernel_rfl)
theorem r_z16_10 : rounds p_z16 v_z16 10 = ⟨2890277237, 3595659738, 1047797041, 2725726076, 1472373554, 1577587670, 554814598, 3283510546⟩ := rounds_succ' _ _ _ _ _ _ r_z16_9 w_z16_9 (by kernel_rfl)
theorem r_z16_11 : rounds p_z16 v_z16 11 = ⟨3804957863, 2890277237, 3595659738, 1047797041, 1320480213, 1472373554, 1577587670, 554814598⟩ := rounds_succ' _ _ _ _ _ _ r_z16_10 w_z16_10 (by kernel_rfl)
theorem r_z16_12 : rounds p_z16 v_z16 12 = ⟨445604313, 3804957863, 2890277237, 3595659738, 3238070809, 1320480213, 1472373554, 1577587670⟩ := rounds_succ' _ _ _ _ _ _ r_z16_11 w_z16_11 (by kernel_rfl)
theorem r_z16_13 : rounds p_z16 v_z16 13 = ⟨3976056258, 445604313, 3804957863, 2890277237, 2727587136, 3238070809, 1320480213, 1472373554⟩ := rounds_succ' _ _ _ _ _ _ r_z16_12 w_z16_12 (by kernel_rfl)
theorem r_z16_14 : rounds p_z16 v_z16 14 = ⟨2499659590, 3976056258, 445604313, 3804957863, 878017483, 2727587136, 3238070809, 1320480213⟩ := rounds_succ' _ _ _ _ _ _ r_z16_13 w_z16_13 (by kernel_rfl)
theorem r_z16_15 : rounds p_z16 v_z16 15 = ⟨1338043092, 2499659590, 3976056258, 445604313, 762799437, 878017483, 2727587136, 3238070809⟩ := rounds_succ' _ _ _ _ _ _ r_z16_14 w_z16_14 (by kernel_rfl)
theorem r_z16_16 : rounds p_z16 v_z16 16 = ⟨1678549144, 1338043092, 2499659590, 3976056258, 1789205790, 762799437, 878017483, 2727587136⟩ := rounds_succ' _ _ _ _ _ _ r_z16_15 w_z16_15 (by kernel_rfl)
theorem r_z16_17 : rounds p_z16 v_z16 17 = ⟨2688334582, 1678549144, 1338043092, 2499659590, 422263825, 1789205790, 762799437, 878017483⟩ := rounds_succ' _ _ _ _ _ _ r_z16_16 w_z16_16 (by kernel_rfl)
theorem r_z16_18 : rounds p_z16 v_z16 18 = ⟨1974526483, 2688334582, 1678549144, 1338043092, 424675501, 422263825, 1789205790, 762799437⟩ := rounds_succ' _ _ _ _ _ _ r_z16_17 w_z16_17 (by kernel_rfl)
theorem r_z16_19 : rounds p_z16 v_z16 19 = ⟨1359506358, 1974526483, 2688334582, 1678549144, 772594467, 424675501, 422263825, 1789205790⟩ := rounds_succ' _ _ _ _ _ _ r_z16_18 w_z16_18 (by kernel_rfl)
theorem r_z16_20 : rounds p_z16 v_z16 20 = ⟨3080916866, 1359506358, 1974526483, 2688334582, 3256383866, 772594467, 424675501, 422263825⟩ := rounds_succ' _ _ _ _ _ _ r_z16_19 w_z16_19 (by kernel_rfl)
theorem r_z16_21 : rounds p_z16 v_z16 21 = ⟨973202862, 3080916866, 1359506358, 1974526483, 114999532, 3256383866, 772594467, 424675501⟩ := rounds_succ' _ _ _ _ _ _ r_z16_20 w_z16_20 (by kernel_rfl)
theorem r_z16_22 : rounds p_z16 v_z16 22 = ⟨3130272477, 973202862, 3080916866, 1359506358, 1490848702, 114999532, 3256383866, 772594467⟩ := rounds_succ' _ _ _ _ _ _ r_z16_21 w_z16_21 (by kernel_rfl)
theorem r_z16_23 : rounds p_z16 v_z16 23 = ⟨3633149249, 3130272477, 973202862, 3080916866, 103876717, 1490848702, 114999532, 3256383866⟩ := rounds_succ' _ _ _ _ _ _ r_z16_22 w_z16_22 (by kernel_rfl)
theorem r_z16_24 : rounds p_z16 v_z16 24 = ⟨25595480, 3633149249, 3130272477, 973202862, 346790324, 103876717, 1490848702, 114999532⟩ := rounds_succ' _ _ _ _ _ _ r_z16_23 w_z16_23 (by kernel_rfl)
theorem r_z16_25 : rounds p_z16 v_z16 25 = ⟨904007105, 25595480, 3633149249, 3130272477, 1858532722, 346790324, 103876717, 1490848702⟩ := rounds_succ' _ _ _ _ _ _ r_z16_24 w_z16_24 (by kernel_rfl)
theorem r_z16_26 : rounds p_z16 v_z16 26 = ⟨384333388, 904007105, 25595480, 3633149249, 347106097, 1858532722, 346790324, 103876717⟩ := rounds_succ' _ _ _ _ _ _ r_z16_25 w_z16_25 (by kernel_rfl)
theorem r_z16_27 : rounds p_z16 v_z16 27 = ⟨4092634008, 384333388, 904007105, 25595480, 2694344710, 347106097, 1858532722, 346790324⟩ := rounds_succ' _ _ _ _ _ _ r_z16_26 w_z16_26 (by kernel_rfl)
theorem r_z16_28 : rounds p_z16 v_z16 28 = ⟨634580650, 4092634008, 384333388, 904007105, 214139022, 2694344710, 347106097, 1858532722⟩ := rounds_succ' _ _ _ _ _ _ r_z16_27 w_z16_27 (by kernel_rfl)
theorem r_z16_29 : rounds p_z16 v_z16 29 = ⟨945014643, 634580650, 4092634008, 384333388, 2124787970, 214139022, 2694344710, 347106097⟩ := rounds_succ' _ _ _ _ _ _ r_z16_28 w_z16_28 (by kernel_rfl)
theorem r_z16_30 : rounds p_z16 v_z16 30 = ⟨3056524744, 945014643, 634580650, 4092634008, 3769855159, 2124787970, 214139022, 2694344710⟩ := rounds_succ' _ _ _ _ _ _ r_z16_29 w_z16_29 (by kernel_rfl)
theorem r_z16_31 : rounds p_z16 v_z16 31 = ⟨4062762776, 3056524744, 945014643, 634580650, 957187562, 3769855159, 2124787970, 214139022⟩ := rounds_succ' _ _ _ _ _ _ r_z16_30 w_z16_30 (by kernel_rfl)
theorem r_z16_32 : rounds p_z16 v_z16 32 = ⟨597907803, 4062762776, 3056524744, 945014643, 1882827109, 957187562, 3769855159, 2124787970⟩ := rounds_succ' _ _ _ _ _ _ r_z16_31 w_z16_31 (by kernel_rfl)
theorem r_z16_33 : rounds p_z16 v_z16 33 = ⟨1004996414, 597907803, 4062762776, 3056524744, 851134871, 1882827109, 957187562, 3769855159⟩ := rounds_succ' _ _ _ _ _ _ r_z16_32 w_z16_32 (by kernel_rfl)
theorem r_z16_34 : rounds p_z16 v_z16 34 = ⟨2221967170, 1004996414, 597907803, 4062762776, 3689359320, 851134871, 1882827109, 957187562⟩ := rounds_succ' _ _ _ _ _ _ r_z16_33 w_z16_33 (by kernel_rfl)
theorem r_z16_35 : rounds p_z16 v_z16 35 = ⟨2292698273, 2221967170, 1004996414, 597907803, 4258829338, 3689359320, 851134871, 1882827109⟩ := rounds_succ' _ _ _ _ _ _ r_z16_34 w_z16_34 (by kernel_rfl)
theorem r_z16_36 : rounds p_z16 v_z16 36 = ⟨2532358958, 2292698273, 2221967170, 1004996414, 2576702771, 4258829338, 3689359320, 851134871⟩ := rounds_succ' _ _ _ _ _ _ r_z16_35 w_z16_35 (by kernel_rfl)
theorem r_z16_37 : rounds p_z16 v_z16 37 = ⟨4224279078, 2532358958, 2292698273, 2221967170, 4103845677, 2576702771, 4258829338, 3689359320⟩ := rounds_succ' _ _ _ _ _ _ r_z16_36 w_z16_36 (by kernel_rfl)
theorem r_z16_38 : rounds p_z16 v_z16 38 = ⟨2907101034, 4224279078, 2532358958, 2292698273, 210261849, 4103845677, 2576702771, 4258829338⟩ := rounds_succ' _ _ _ _ _ _ r_z16_37 w_z16_37 (by kernel_rfl)
theorem r_z16_39 : rounds p_z16 v_z16 39 = ⟨2551959275, 2907101034, 4224279078, 2532358958, 1437152005, 210261849, 4103845677, 2576702771⟩ := rounds_succ' _ _ _ _ _ _ r_z16_38 w_z16_38 (by kernel_rfl)
theorem r_z16_40 : rounds p_z16 v_z16 40 = ⟨1543111109, 2551959275, 2907101034, 4224279078, 993876357, 1437152005, 210261849, 4103845677⟩ := rounds_succ' _ _ _ _ _ _ r_z16_39 w_z16_39 (by kernel_rfl)
theorem r_z16_41 : rounds p_z16 v_z16 41 = ⟨2435935300, 1543111109, 2551959275, 2907101034, 1120713649, 993876357, 1437152005, 210261849⟩ := rounds_succ' _ _ _ _ _ _ r_z16_40 w_z16_40 (by kernel_rfl)
theorem r_z16_42 : rounds p_z16 v_z16 42 = ⟨4286637273, 2435935300, 1543111109, 2551959275, 2410852000, 1120713649, 993876357, 1437152005⟩ := rounds_succ' _ _ _ _ _ _ r_z16_41 w_z16_41 (by kernel_rfl)
theorem r_z16_43 : rounds p_z16 v_z16 43 = ⟨572253845, 4286637273, 2435935300, 1543111109, 2211098092, 2410852000, 1120713649, 993876357⟩ := rounds_succ' _ _ _ _ _ _ r_z16_42 w_z16_42 (by kernel_rfl)
theorem r_z16_44 : rounds p_z16 v_z16 44 = ⟨3909120743, 572253845, 4286637273, 2435935300, 2117259749, 2211098092, 2410852000, 1120713649⟩ := rounds_succ' _ _ _ _ _ _ r_z16_43 w_z16_43 (by kernel_rfl)
theorem r_z16_45 : rounds p_z16 v_z16 45 = ⟨139926361, 3909120743, 572253845, 4286637273, 1104336298, 2117259749, 2211098092, 2410852000⟩ := rounds_succ' _ _ _ _ _ _ r_z16_44 w_z16_44 (by kernel_rfl)
theorem r_z16_46 : rounds p_z16 v_z16 46 = ⟨43601094, 139926361, 3909120743, 572253845, 357949051, 1104336298, 2117259749, 2211098092⟩ := rounds_succ' _ _ _ _ _ _ r_z16_45 w_z16_45 (by kernel_rfl)
theorem r_z16_47 : rounds p_z16 v_z16 47 = ⟨518941966, 43601094, 139926361, 3909120743, 3042154731, 357949051, 1104336298, 2117259749⟩ := rounds_succ' _ _ _ _ _ _ r_z16_46 w_z16_46 (by kernel_rfl)
theorem r_z16_48 : rounds p_z16 v_z16 48 = ⟨3916456762, 518941966, 43601094, 139926361, 1897018504, 3042154731, 357949051, 1104336298⟩ := rounds_succ' _ _ _ _ _ _ r_z16_47 w_z16_47 (by kernel_rfl)
theorem r_z16_49 : rounds p_z16 v_z16 49 = ⟨3104656772, 3916456762, 518941966, 43601094, 1415856871, 1897018504, 3042154731, 357949051⟩ := rounds_succ' _ _ _ _ _ _ r_z16_48 w_z16_48 (by kernel_rfl)
theorem r_z16_50 : rounds p_z16 v_z16 50 = ⟨2763976717, 3104656772, 3916456762, 518941966, 1989887446, 1415856871, 1897018504, 3042154731⟩ := rounds_succ' _ _ _ _ _ _ r_z16_49 w_z16_49 (by kernel_rfl)
theorem r_z16_51 : rounds p_z16 v_z16 51 = ⟨116460531, 2763976717, 3104656772, 3916456762, 1780508815, 1989887446, 1415856871, 1897018504⟩ := rounds_succ' _ _ _ _ _ _ r_z16_50 w_z16_50 (by kernel_rfl)
theorem r_z16_52 : rounds p_z16 v_z16 52 = ⟨755486766, 116460531, 2763976717, 3104656772, 397357172, 1780508815, 1989887446, 1415856871⟩ := rounds_succ' _ _ _ _ _ _ r_z16_51 w_z16_51 (by kernel_rfl)
theorem r_z16_53 : rounds p_z16 v_z16 53 = ⟨3456627315, 755486766, 116460531, 2763976717, 1290619719, 397357172, 1780508815, 1989887446⟩ := rounds_succ' _ _ _ _ _ _ r_z16_52 w_z16_52 (by kernel_rfl)
theorem r_z16_54 : rounds p_z16 v_z16 54 = ⟨1483156740, 3456627315, 755486766, 116460531, 1866991363, 1290619719, 397357172, 1780508815⟩ := rounds_succ' _ _ _ _ _ _ r_z16_53 w_z16_53 (by kernel_rfl)
theorem r_z16_55 : rounds p_z16 v_z16 55 = ⟨2444198422, 1483156740, 3456627315, 755486766, 1779008714, 1866991363, 1290619719, 397357172⟩ := rounds_succ' _ _ _ _ _ _ r_z16_54 w_z16_54 (by kernel_rfl)
theorem r_z16_56 : rounds p_z16 v_z16 56 = ⟨1520106512, 2444198422, 1483156740, 3456627315, 2762207849, 1779008714, 1866991363, 1290619719⟩ := rounds_succ' _ _ _ _ _ _ r_z16_55 w_z16_55 (by kernel_rfl)
theorem r_z16_57 : rounds p_z16 v_z16 57 = ⟨3357588131, 1520106512, 2444198422, 1483156740, 2678380105, 2762207849, 1779008714, 1866991363⟩ := rounds_succ' _ _ _ _ _ _ r_z16_56 w_z16_56 (by kernel_rfl)
theorem r_z16_58 : rounds p_z16 v_z16 58 = ⟨3304364668, 3357588131, 1520106512, 2444198422, 2662608097, 2678380105, 2762207849, 1779008714⟩ := rounds_succ' _ _ _ _ _ _ r_z16_57 w_z16_57 (by kernel_rfl)
theorem r_z16_59 : rounds p_z16 v_z16 59 = ⟨570504507, 3304364668, 3357588131, 1520106512, 3125611257, 2662608097, 2678380105, 2762207849⟩ := rounds_succ' _ _ _ _ _ _ r_z16_58 w_z16_58 (by kernel_rfl)
theorem r_z16_60 : rounds p_z16 v_z16 60 = ⟨3604288968, 570504507, 3304364668, 3357588131, 197240270, 3125611257, 2662608097, 2678380105⟩ := rounds_succ' _ _ _ _ _ _ r_z16_59 w_z16_59 (by kernel_rfl)
theorem r_z16_61 : rounds p_z16 v_z16 61 = ⟨1308128900, 3604288968, 570504507, 3304364668, 2141145902, 197240270, 3125611257, 2662608097⟩ := rounds_succ' _ _ _ _ _ _ r_z16_60 w_z16_60 (by kernel_rfl)
theorem r_z16_62 : rounds p_z16 v_z16 62 = ⟨79720142, 1308128900, 3604288968, 570504507, 1012756589, 2141145902, 197240270, 3125611257⟩ := rounds_succ' _ _ _ _ _ _ r_z16_61 w_z16_61 (by kernel_rfl)
theorem r_z16_63 : rounds p_z16 v_z16 63 = ⟨3063490638, 79720142, 1308128900, 3604288968, 2630803738, 1012756589, 2141145902, 197240270⟩ := rounds_succ' _ _ _ _ _ _ r_z16_62 w_z16_62 (by kernel_rfl)
theorem r_z16_64 : rounds p_z16 v_z16 64 = ⟨919032696, 3063490638, 79720142, 1308128900, 2102474354, 2630803738, 1012756589, 2141145902⟩ := rounds_succ' _ _ _ _ _ _ r_z16_63 w_z16_63 (by kernel_rfl)

theorem M_z16 : m_z16 ++ padOf m_z16.length = [122, 122, 122, 122, 122, 122, 122, 122, 122, 122, 122, 122, 122, 122, 122, 122, 128, 0, 0, 0, 0, 0, 0, 0, 0, 0, 0, 0, 0, 0, 0, 0, 0, 0, 0, 0, 0, 0, 0, 0, 0, 0, 0, 0, 0, 0, 0, 0, 0, 0, 0, 0, 0, 0, 0, 0, 0, 0, 0, 0, 0, 0, 0, 128] := by kernel_rfl
theorem dg_z16 : digest m_z16 0 = 160 := by
  have h0 := eat_blockW ss0 [122, 122, 122, 122, 122, 122, 122, 122, 122, 122, 122, 122, 122, 122, 122, 122, 128, 0, 0, 0, 0, 0, 0, 0, 0, 0, 0, 0, 0, 0, 0, 0, 0, 0, 0, 0, 0, 0, 0, 0, 0, 0, 0, 0, 0, 0, 0, 0, 0, 0, 0, 0, 0, 0, 0, 0, 0, 0, 0, 0, 0, 0, 0, 128] rfl rfl
  have hr : rounds (fun i => ([122, 122, 122, 122, 122, 122, 122, 122, 122, 122, 122, 122, 122, 122, 122, 122, 128, 0, 0, 0, 0, 0, 0, 0, 0, 0, 0, 0, 0, 0, 0, 0, 0, 0, 0, 0, 0, 0, 0, 0, 0, 0, 0, 0, 0, 0, 0, 0, 0, 0, 0, 0, 0, 0, 0, 0, 0, 0, 0, 0, 0, 0, 0, 128] : List UInt8).getD i 0) (V8.of ss0.wd) 64 = _ := r_z16_64
  rw [hr] at h0
  rw [digest_eqW, M_z16]
  unfold SS.hash
  rw [h0]
  show _ = _
  kernel_rfl

def p_y8 : Nat → UInt8 := fun i => ([121, 121, 121, 121, 121, 121, 121, 121, 128, 0, 0, 0, 0, 0, 0, 0, 0, 0, 0, 0, 0, 0, 0, 0, 0, 0, 0, 0, 0, 0, 0, 0, 0, 0, 0, 0, 0, 0, 0, 0, 0, 0, 0, 0, 0, 0, 0, 0, 0, 0, 0, 0, 0, 0, 0, 0, 0, 0, 0, 0, 0, 0, 0, 64] : List UInt8).getD i 0
theorem w_y8_0 : sched p_y8 0 = 2038004089 := sched_small' _ _ (by decide) _ (by kernel_rfl)
theorem w_y8_1 : sched p_y8 1 = 2038004089 := sched_small' _ _ (by decide) _ (by kernel_rfl)
theorem w_y8_2 : sched p_y8 2 = 2147483648 := sched_small' _ _ (by decide) _ (by kernel_rfl)
theorem w_y8_3 : sched p_y8 3 = 0 := sched_small' _ _ (by decide) _ (by kernel_rfl)
theorem w_y8_4 : sched p_y8 4 = 0 := sched_small' _ _ (by decide) _ (by kernel_rfl)
theorem w_y8_5 : sched p_y8 5 = 0 := sched_small' _ _ (by decide) _ (by kernel_rfl)
theorem w_y8_6 : sched p_y8 6 = 0 := sched_small' _ _ (by decide) _ (by kernel_rfl)
theorem w_y8_7 : sched p_y8 7 = 0 := sched_small' _ _ (by decide) _ (by kernel_rfl)
theorem w_y8_8 : sched p_y8 8 = 0 := sched_small' _ _ (by decide) _ (by kernel_rfl)
theorem w_y8_9 : sched p_y8 9 = 0 := sched_small' _ _ (by decide) _ (by kernel_rfl)
theorem w_y8_10 : sched p_y8 10 = 0 := sched_small' _ _ (by decide) _ (by kernel_rfl)
theorem w_y8_11 : sched p_y8 11 = 0 := sched_small' _ _ (by decide) _ (by kernel_rfl)
theorem w_y8_12 : sched p_y8 12 = 0 := sched_small' _ _ (by decide) _ (by kernel_rfl)
theorem w_y8_13 : sched p_y8 13 = 0 := sched_small' _ _ (by decide) _ (by kernel_rfl)
theorem w_y8_14 : sched p_y8 14 = 0 := sched_small' _ _ (by decide) _ (by kernel_rfl)
theorem w_y8_15 : sched p_y8 15 = 64 := sched_small' _ _ (by decide) _ (by kernel_rfl)
theorem w_y8_16 : sched p_y8 16 = 486341884 := sched_big' _ _ (by decide) _ _ _ _ _ w_y8_0 w_y8_1 w_y8_9 w_y8_14 (by kernel_rfl)
theorem w_y8_17 : sched p_y8 17 = 2325846393 := sched_big' _ _ (by decide) _ _ _ _ _ w_y8_1 w_y8_2 w_y8_10 w_y8_15 (by kernel_rfl)
theorem w_y8_18 : sched p_y8 18 = 1642509022 := sched_big' _ _ (by decide) _ _ _ _ _ w_y8_2 w_y8_3 w_y8_11 w_y8_16 (by kernel_rfl)
theorem w_y8_19 : sched p_y8 19 = 4289813602 := sched_big' _ _ (by decide) _ _ _ _ _ w_y8_3 w_y8_4 w_y8_12 w_y8_17 (by kernel_rfl)
theorem w_y8_20 : sched p_y8 20 = 2402059619 := sched_big' _ _ (by decide) _ _ _ _ _ w_y8_4 w_y8_5 w_y8_13 w_y8_18 (by kernel_rfl)
theorem w_y8_21 : sched p_y8 21 = 2239941753 := sched_big' _ _ (by decide) _ _ _ _ _ w_y8_5 w_y8_6 w_y8_14 w_y8_19 (by kernel_rfl)
theorem w_y8_22 : sched p_y8 22 = 3527310738 := sched_big' _ _ (by decide) _ _ _ _ _ w_y8_6 w_y8_7 w_y8_15 w_y8_20 (by kernel_rfl)
theorem w_y8_23 : sched p_y8 23 = 1552912318 := sched_big' _ _ (by decide) _ _ _ _ _ w_y8_7 w_y8_8 w_y8_16 w_y8_21 (by kernel_rfl)
theorem w_y8_24 : sched p_y8 24 = 2079413824 := sched_big' _ _ (by decide) _ _ _ _ _ w_y8_8 w_y8_9 w_y8_17 w_y8_22 (by kernel_rfl)
theorem w_y8_25 : sched p_y8 25 = 2552658195 := sched_big' _ _ (by decide) _ _ _ _ _ w_y8_9 w_y8_10 w_y8_18 w_y8_23 (by kernel_rfl)
theorem w_y8_26 : sched p_y8 26 = 2175281973 := sched_big' _ _ (by decide) _ _ _ _ _ w_y8_10 w_y8_11 w_y8_19 w_y8_24 (by kernel_rfl)
theorem w_y8_27 : sched p_y8 27 = 2193243116 := sched_big' _ _ (by decide) _ _ _ _ _ w_y8_11 w_y8_12 w_y8_20 w_y8_25 (by kernel_rfl)
theorem w_y8_28 : sched p_y8 28 = 2522802020 := sched_big' _ _ (by decide) _ _ _ _ _ w_y8_12 w_y8_13 w_y8_21 w_y8_26 (by kernel_rfl)
theorem w_y8_29 : sched p_y8 29 = 753532182 := sched_big' _ _ (by decide) _ _ _ _ _ w_y8_13 w_y8_14 w_y8_22 w_y8_27 (by kernel_rfl)
theorem w_y8_30 : sched p_y8 30 = 2350571043 := sched_big' _ _ (by decide) _ _ _ _ _ w_y8_14 w_y8_15 w_y8_23 w_y8_28 (by kernel_rfl)
theorem w_y8_31 : sched p_y8 31 = 28156271 := sched_big' _ _ (by decide) _ _ _ _ _ w_y8_15 w_y8_16 w_y8_24 w_y8_29 (by kernel_rfl)
theorem w_y8_32 : sched p_y8 32 = 1849244157 := sched_big' _ _ (by decide) _ _ _ _ _ w_y8_16 w_y8_17 w_y8_25 w_y8_30 (by kernel_rfl)
theorem w_y8_33 : sched p_y8 33 = 2368492416 := sched_big' _ _ (by decide) _ _ _ _ _ w_y8_17 w_y8_18 w_y8_26 w_y8_31 (by kernel_rfl)
theorem w_y8_34 : sched p_y8 34 = 764246583 := sched_big' _ _ (by decide) _ _ _ _ _ w_y8_18 w_y8_19 w_y8_27 w_y8_32 (by kernel_rfl)
theorem w_y8_35 : sched p_y8 35 = 826706522 := sched_big' _ _ (by decide) _ _ _ _ _ w_y8_19 w_y8_20 w_y8_28 w_y8_33 (by kernel_rfl)
theorem w_y8_36 : sched p_y8 36 = 521261081 := sched_big' _ _ (by decide) _ _ _ _ _ w_y8_20 w_y8_21 w_y8_29 w_y8_34 (by kernel_rfl)
theorem w_y8_37 : sched p_y8 37 = 1183760779 := sched_big' _ _ (by decide) _ _ _ _ _ w_y8_21 w_y8_22 w_y8_30 w_y8_35 (by kernel_rfl)
theorem w_y8_38 : sched p_y8 38 = 985399530 := sched_big' _ _ (by decide) _ _ _ _ _ w_y8_22 w_y8_23 w_y8_31 w_y8_36 (by kernel_rfl)
theorem w_y8_39 : sched p_y8 39 = 1573390457 := sched_big' _ _ (by decide) _ _ _ _ _ w_y8_23 w_y8_24 w_y8_32 w_y8_37 (by kernel_rfl)
theorem w_y8_40 : sched p_y8 40 = 871695522 := sched_big' _ _ (by decide) _ _ _ _ _ w_y8_24 w_y8_25 w_y8_33 w_y8_38 (by kernel_rfl)
theorem w_y8_41 : sched p_y8 41 = 1020534787 := sched_big' _ _ (by decide) _ _ _ _ _ w_y8_25 w_y8_26 w_y8_34 w_y8_39 (by kernel_rfl)
theorem w_y8_42 : sched p_y8 42 = 492923896 := sched_big' _ _ (by decide) _ _ _ _ _ w_y8_26 w_y8_27 w_y8_35 w_y8_40 (by kernel_rfl)
theorem w_y8_43 : sched p_y8 43 = 2551782834 := sched_big' _ _ (by decide) _ _ _ _ _ w_y8_27 w_y8_28 w_y8_36 w_y8_41 (by kernel_rfl)
theorem w_y8_44 : sched p_y8 44 = 3421726103 := sched_big' _ _ (by decide) _ _ _ _ _ w_y8_28 w_y8_29 w_y8_37 w_y8_42 (by kernel_rfl)
theorem w_y8_45 : sched p_y8 45 = 4127368390 := sched_big' _ _ (by decide) _ _ _ _ _ w_y8_29 w_y8_30 w_y8_38 w_y8_43 (by kernel_rfl)
theorem w_y8_46 : sched p_y8 46 = 2124150270 := sched_big' _ _ (by decide) _ _ _ _ _ w_y8_30 w_y8_31 w_y8_39 w_y8_44 (by kernel_rfl)
theorem w_y8_47 : sched p_y8 47 = 4123843131 := sched_big' _ _ (by decide) _ _ _ _ _ w_y8_31 w_y8_32 w_y8_40 w_y8_45 (by kernel_rfl)
theorem w_y8_48 : sched p_y8 48 = 869048831 := sched_big' _ _ (by decide) _ _ _ _ _ w_y8_32 w_y8_33 w_y8_41 w_y8_46 (by kernel_rfl)
theorem w_y8_49 : sched p_y8 49 = 3596432818 := sched_big' _ _ (by decide) _ _ _ _ _ w_y8_33 w_y8_34 w_y8_42 w_y8_47 (by kernel_rfl)
theorem w_y8_50 : sched p_y8 50 = 2605708462 := sched_big' _ _ (by decide) _ _ _ _ _ w_y8_34 w_y8_35 w_y8_43 w_y8_48 (by kernel_rfl)
theorem w_y8_51 : sched p_y8 51 = 2137978112 := sched_big' _ _ (by decide) _ _ _ _ _ w_y8_35 w_y8_36 w_y8_44 w_y8_49 (by kernel_rfl)
theorem w_y8_52 : sched p_y8 52 = 3359036963 := sched_big' _ _ (by decide) _ _ _ _ _ w_y8_36 w_y8_37 w_y8_45 w_y8_50 (by kernel_rfl)
theorem w_y8_53 : sched p_y8 53 = 1015224867 := sched_big' _ _ (by decide) _ _ _ _ _ w_y8_37 w_y8_38 w_y8_46 w_y8_51 (by kernel_rfl)
theorem w_y8_54 : sched p_y8 54 = 3717018170 := sched_big' _ _ (by decide) _ _ _ _ _ w_y8_38 w_y8_39 w_y8_47 w_y8_52 (by kernel_rfl)
theorem w_y8_55 : sched p_y8 55 = 2199996911 := sched_big' _ _ (by decide) _ _ _ _ _ w_y8_39 w_y8_40 w_y8_48 w_y8_53 (by kernel_rfl)
theorem w_y8_56 : sched p_y8 56 = 1403220996 := sched_big' _ _ (by decide) _ _ _ _ _ w_y8_40 w_y8_41 w_y8_49 w_y8_54 (by kernel_rfl)
theorem w_y8_57 : sched p_y8 57 = 259520327 := sched_big' _ _ (by decide) _ _ _ _ _ w_y8_41 w_y8_42 w_y8_50 w_y8_55 (by kernel_rfl)
theorem w_y8_58 : sched p_y8 58 = 2730910715 := sched_big' _ _ (by decide) _ _ _ _ _ w_y8_42 w_y8_43 w_y8_51 w_y8_56 (by kernel_rfl)
theorem w_y8_59 : sched p_y8 59 = 1428498434 := sched_big' _ _ (by decide) _ _ _ _ _ w_y8_43 w_y8_44 w_y8_52 w_y8_57 (by kernel_rfl)
theorem w_y8_60 : sched p_y8 60 = 1077837998 := sched_big' _ _ (by decide) _ _ _ _ _ w_y8_44 w_y8_45 w_y8_53 w_y8_58 (by kernel_rfl)
theorem w_y8_61 : sched p_y8 61 = 318101358 := sched_big' _ _ (by decide) _ _ _ _ _ w_y8_45 w_y8_46 w_y8_54 w_y8_59 (by kernel_rfl)
theorem w_y8_62 : sched p_y8 62 = 4058851109 := sched_big' _ _ (by decide) _ _ _ _ _ w_y8_46 w_y8_47 w_y8_55 w_y8_60 (by kernel_rfl)
theorem w_y8_63 : sched p_y8 63 = 1798342175 := sched_big' _ _ (by decide) _ _ _ _ _ w_y8_47 w_y8_48 w_y8_56 w_y8_61 (by kernel_rfl)
def v_y8 : V8 := ⟨1779033703, 3144134277, 1013904242, 2773480762, 1359893119, 2600822924, 528734635, 1541459225⟩
theorem r_y8_0 : rounds p_y8 v_y8 0 = ⟨1779033703, 3144134277, 1013904242, 2773480762, 1359893119, 2600822924, 528734635, 1541459225⟩ := rfl
theorem r_y8_1 : rounds p_y8 v_y8 1 = ⟨1971454406, 1779033703, 3144134277, 1013904242, 306273307, 1359893119, 2600822924, 528734635⟩ := rounds_succ' _ _ _ _ _ _ r_y8_0 w_y8_0 (by kernel_rfl)
theorem r_y8_2 : rounds p_y8 v_y8 2 = ⟨2299930020, 1971454406, 1779033703, 3144134277, 2938977432, 306273307, 1359893119, 2600822924⟩ := rounds_succ' _ _ _ _ _ _ r_y8_1 w_y8_1 (by kernel_rfl)
theorem r_y8_3 : rounds p_y8 v_y8 3 = ⟨1257920958, 2299930020, 1971454406, 1779033703, 1164480097, 2938977432, 306273307, 1359893119⟩ := rounds_succ' _ _ _ _ _ _ r_y8_2 w_y8_2 (by kernel_rfl)
theorem r_y8_4 : rounds p_y8 v_y8 4 = ⟨1327760388, 1257920958, 2299930020, 1971454406, 3111235631, 1164480097, 2938977432, 306273307⟩ := rounds_succ' _ _ _ _ _ _ r_y8_3 w_y8_3 (by kernel_rfl)
theorem r_y8_5 : rounds p_y8 v_y8 5 = ⟨1174477074, 1327760388, 1257920958, 2299930020, 3427904535, 3111235631, 1164480097, 2938977432⟩ := rounds_succ' _ _ _ _ _ _ r_y8_4 w_y8_4 (by kernel_rfl)
theorem r_y8_6 : rounds p_y8 v_y8 6 = ⟨860688573, 1174477074, 1327760388, 1257920958, 281861623, 3427904535, 3111235631, 1164480097⟩ := rounds_succ' _ _ _ _ _ _ r_y8_5 w_y8_5 (by kernel_rfl)
theorem r_y8_7 : rounds p_y8 v_y8 7 = ⟨3395733798, 860688573, 1174477074, 1327760388, 3504597062, 281861623, 3427904535, 3111235631⟩ := rounds_succ' _ _ _ _ _ _ r_y8_6 w_y8_6 (by kernel_rfl)
theorem r_y8_8 : rounds p_y8 v_y8 8 = ⟨2258444187, 3395733798, 860688573, 1174477074, 854626323, 3504597062, 281861623, 3427904535⟩ := rounds_succ' _ _ _ _ _ _ r_y8_7 w_y8_7 (by kernel_rfl)
theorem r_y8_9 : rounds p_y8 v_y8 9 = ⟨3615355187, 2258444187, 3395733798, 860688573, 841798514, 854626323, 3504597062, 281861623⟩ := rounds_succ' _ _ _ _ _ _ r_y8_8 w_y8_8 (by kernel_rfl)
theorem r_y8_10 : rounds p_y8 v_y8 10 = ⟨421405453, 3615355187, 2258444187, 3395733798, 4201140633, 841798514, 854626323, 3504597062⟩ := rounds_succ' _ _ _ _ _ _ r_y8_9 w_y8_9 (by kernel_rfl)
theorem r_y8_11 : rounds p_y8 v_y8 11 = ⟨1183647544, 421405453, 3615355187, 2258444187, 1395861741, 4201140633, 841798514, 854626323⟩ := rounds_succ' _ _ _ _ _ _ r_y8_10 w_y8_10 (by kernel_rfl)
theorem r_y8_12 : rounds p_y8 v_y8 12 = ⟨2671211989, 1183647544, 421405453, 3615355187, 2990136699, 1395861741, 4201140633, 841798514⟩ := rounds_succ' _ _ _ _ _ _ r_y8_11 w_y8_11 (by kernel_rfl)
theorem r_y8_13 : rounds p_y8 v_y8 13 = ⟨2424434997, 2671211989, 1183647544, 421405453, 875186329, 2990136699, 1395861741, 4201140633⟩ := rounds_succ' _ _ _ _ _ _ r_y8_12 w_y8_12 (by kernel_rfl)
theorem r_y8_14 : rounds p_y8 v_y8 14 = ⟨3525341242, 2424434997, 2671211989, 1183647544, 1785786386, 875186329, 2990136699, 1395861741⟩ := rounds_succ' _ _ _ _ _ _ r_y8_13 w_y8_13 (by kernel_rfl)
theorem r_y8_15 : rounds p_y8 v_y8 15 = ⟨1502927218, 3525341242, 2424434997, 2671211989, 1499597104, 1785786386, 875186329, 2990136699⟩ := rounds_succ' _ _ _ _ _ _ r_y8_14 w_y8_14 (by kernel_rfl)
theorem r_y8_16 : rounds p_y8 v_y8 16 = ⟨364605663, 1502927218, 3525341242, 2424434997, 3588211174, 1499597104, 1785786386, 875186329⟩ := rounds_succ' _ _ _ _ _ _ r_y8_15 w_y8_15 (by kernel_rfl)
theorem r_y8_17 : rounds p_y8 v_y8 17 = ⟨4187461199, 364605663, 1502927218, 3525341242, 2316568912, 3588211174, 1499597104, 1785786386⟩ := rounds_succ' _ _ _ _ _ _ r_y8_16 w_y8_16 (by kernel_rfl)
theorem r_y8_18 : rounds p_y8 v_y8 18 = ⟨2220848250, 4187461199, 364605663, 1502927218, 3936681356, 2316568912, 3588211174, 1499597104⟩ := rounds_succ' _ _ _ _ _ _ r_y8_17 w_y8_17 (by kernel_rfl)
theorem r_y8_19 : rounds p_y8 v_y8 19 = ⟨1331949221, 2220848250, 4187461199, 364605663, 2487696836, 3936681356, 2316568912, 3588211174⟩ := rounds_succ' _ _ _ _ _ _ r_y8_18 w_y8_18 (by kernel_rfl)
theorem r_y8_20 : rounds p_y8 v_y8 20 = ⟨2209316860, 1331949221, 2220848250, 4187461199, 583722209, 2487696836, 3936681356, 2316568912⟩ := rounds_succ' _ _ _ _ _ _ r_y8_19 w_y8_19 (by kernel_rfl)
theorem r_y8_21 : rounds p_y8 v_y8 21 = ⟨2009901778, 2209316860, 1331949221, 2220848250, 2265223579, 583722209, 2487696836, 3936681356⟩ := rounds_succ' _ _ _ _ _ _ r_y8_20 w_y8_20 (by kernel_rfl)
theorem r_y8_22 : rounds p_y8 v_y8 22 = ⟨3988784781, 2009901778, 2209316860, 1331949221, 811839237, 2265223579, 583722209, 2487696836⟩ := rounds_succ' _ _ _ _ _ _ r_y8_21 w_y8_21 (by kernel_rfl)
theorem r_y8_23 : rounds p_y8 v_y8 23 = ⟨3259018836, 3988784781, 2009901778, 2209316860, 3671266825, 811839237, 2265223579, 583722209⟩ := rounds_succ' _ _ _ _ _ _ r_y8_22 w_y8_22 (by kernel_rfl)
theorem r_y8_24 : rounds p_y8 v_y8 24 = ⟨3284578640, 3259018836, 3988784781, 2009901778, 522590175, 3671266825, 811839237, 2265223579⟩ := rounds_succ' _ _ _ _ _ _ r_y8_23 w_y8_23 (by kernel_rfl)
theorem r_y8_25 : rounds p_y8 v_y8 25 = ⟨1317020170, 3284578640, 3259018836, 3988784781, 1641624858, 522590175, 3671266825, 811839237⟩ := rounds_succ' _ _ _ _ _ _ r_y8_24 w_y8_24 (by kernel_rfl)
theorem r_y8_26 : rounds p_y8 v_y8 26 = ⟨2018168939, 1317020170, 3284578640, 3259018836, 533716719, 1641624858, 522590175, 3671266825⟩ := rounds_succ' _ _ _ _ _ _ r_y8_25 w_y8_25 (by kernel_rfl)
theorem r_y8_27 : rounds p_y8 v_y8 27 = ⟨1436990246, 2018168939, 1317020170, 3284578640, 1461443971, 533716719, 1641624858, 522590175⟩ := rounds_succ' _ _ _ _ _ _ r_y8_26 w_y8_26 (by kernel_rfl)
theorem r_y8_28 : rounds p_y8 v_y8 28 = ⟨4246235815, 1436990246, 2018168939, 1317020170, 2376388387, 1461443971, 533716719, 1641624858⟩ := rounds_succ' _ _ _ _ _ _ r_y8_27 w_y8_27 (by kernel_rfl)
theorem r_y8_29 : rounds p_y8 v_y8 29 = ⟨3613598824, 4246235815, 1436990246, 2018168939, 3708083885, 2376388387, 1461443971, 533716719⟩ := rounds_succ' _ _ _ _ _ _ r_y8_28 w_y8_28 (by kernel_rfl)
theorem r_y8_30 : rounds p_y8 v_y8 30 = ⟨22289666, 3613598824, 4246235815, 1436990246, 174911977, 3708083885, 2376388387, 1461443971⟩ := rounds_succ' _ _ _ _ _ _ r_y8_29 w_y8_29 (by kernel_rfl)
theorem r_y8_31 : rounds p_y8 v_y8 31 = ⟨880228997, 22289666, 3613598824, 4246235815, 2090648484, 174911977, 3708083885, 2376388387⟩ := rounds_succ' _ _ _ _ _ _ r_y8_30 w_y8_30 (by kernel_rfl)
theorem r_y8_32 : rounds p_y8 v_y8 32 = ⟨855269395, 880228997, 22289666, 3613598824, 3569161457, 2090648484, 174911977, 3708083885⟩ := rounds_succ' _ _ _ _ _ _ r_y8_31 w_y8_31 (by kernel_rfl)
theorem r_y8_33 : rounds p_y8 v_y8 33 = ⟨802265873, 855269395, 880228997, 22289666, 2971092058, 3569161457, 2090648484, 174911977⟩ := rounds_succ' _ _ _ _ _ _ r_y8_32 w_y8_32 (by kernel_rfl)
theorem r_y8_34 : rounds p_y8 v_y8 34 = ⟨411490366, 802265873, 855269395, 880228997, 232152632, 2971092058, 3569161457, 2090648484⟩ := rounds_succ' _ _ _ _ _ _ r_y8_33 w_y8_33 (by kernel_rfl)
theorem r_y8_35 : rounds p_y8 v_y8 35 = ⟨741626579, 411490366, 802265873, 855269395, 3374787306, 232152632, 2971092058, 3569161457⟩ := rounds_succ' _ _ _ _ _ _ r_y8_34 w_y8_34 (by kernel_rfl)
theorem r_y8_36 : rounds p_y8 v_y8 36 = ⟨2981026681, 741626579, 411490366, 802265873, 724903891, 3374787306, 232152632, 2971092058⟩ := rounds_succ' _ _ _ _ _ _ r_y8_35 w_y8_35 (by kernel_rfl)
theorem r_y8_37 : rounds p_y8 v_y8 37 = ⟨3035108936, 2981026681, 741626579, 411490366, 2672228720, 724903891, 3374787306, 232152632⟩ := rounds_succ' _ _ _ _ _ _ r_y8_36 w_y8_36 (by kernel_rfl)
theorem r_y8_38 : rounds p_y8 v_y8 38 = ⟨1490644007, 3035108936, 2981026681, 741626579, 2106421771, 2672228720, 724903891, 3374787306⟩ := rounds_succ' _ _ _ _ _ _ r_y8_37 w_y8_37 (by kernel_rfl)
theorem r_y8_39 : rounds p_y8 v_y8 39 = ⟨3533654964, 1490644007, 3035108936, 2981026681, 2066694013, 2106421771, 2672228720, 724903891⟩ := rounds_succ' _ _ _ _ _ _ r_y8_38 w_y8_38 (by kernel_rfl)
theorem r_y8_40 : rounds p_y8 v_y8 40 = ⟨2342689282, 3533654964, 1490644007, 3035108936, 1481150970, 2066694013, 2106421771, 2672228720⟩ := rounds_succ' _ _ _ _ _ _ r_y8_39 w_y8_39 (by kernel_rfl)
theorem r_y8_41 : rounds p_y8 v_y8 41 = ⟨3105647749, 2342689282, 3533654964, 1490644007, 2597603053, 1481150970, 2066694013, 2106421771⟩ := rounds_succ' _ _ _ _ _ _ r_y8_40 w_y8_40 (by kernel_rfl)
theorem r_y8_42 : rounds p_y8 v_y8 42 = ⟨4116299609, 3105647749, 2342689282, 3533654964, 918297558, 2597603053, 1481150970, 2066694013⟩ := rounds_succ' _ _ _ _ _ _ r_y8_41 w_y8_41 (by kernel_rfl)
theorem r_y8_43 : rounds p_y8 v_y8 43 = ⟨3426740119, 4116299609, 3105647749, 2342689282, 73519740, 918297558, 2597603053, 1481150970⟩ := rounds_succ' _ _ _ _ _ _ r_y8_42 w_y8_42 (by kernel_rfl)
theorem r_y8_44 : rounds p_y8 v_y8 44 = ⟨323486804, 3426740119, 4116299609, 3105647749, 1906108311, 73519740, 918297558, 2597603053⟩ := rounds_succ' _ _ _ _ _ _ r_y8_43 w_y8_43 (by kernel_rfl)
theorem r_y8_45 : rounds p_y8 v_y8 45 = ⟨2073324824, 323486804, 3426740119, 4116299609, 1492346672, 1906108311, 73519740, 918297558⟩ := rounds_succ' _ _ _ _ _ _ r_y8_44 w_y8_44 (by kernel_rfl)
theorem r_y8_46 : rounds p_y8 v_y8 46 = ⟨963843351, 2073324824, 323486804, 3426740119, 2887633233, 1492346672, 1906108311, 73519740⟩ := rounds_succ' _ _ _ _ _ _ r_y8_45 w_y8_45 (by kernel_rfl)
theorem r_y8_47 : rounds p_y8 v_y8 47 = ⟨419436843, 963843351, 2073324824, 323486804, 4282296694, 2887633233, 1492346672, 1906108311⟩ := rounds_succ' _ _ _ _ _ _ r_y8_46 w_y8_46 (by kernel_rfl)
theorem r_y8_48 : rounds p_y8 v_y8 48 = ⟨3619051242, 419436843, 963843351, 2073324824, 2725370869, 4282296694, 2887633233, 1492346672⟩ := rounds_succ' _ _ _ _ _ _ r_y8_47 w_y8_47 (by kernel_rfl)
theorem r_y8_49 : rounds p_y8 v_y8 49 = ⟨3666108351, 3619051242, 419436843, 963843351, 1627796566, 2725370869, 4282296694, 2887633233⟩ := rounds_succ' _ _ _ _ _ _ r_y8_48 w_y8_48 (by kernel_rfl)
theorem r_y8_50 : rounds p_y8 v_y8 50 = ⟨2766320632, 3666108351, 3619051242, 419436843, 3903859901, 1627796566, 2725370869, 4282296694⟩ := rounds_succ' _ _ _ _ _ _ r_y8_49 w_y8_49 (by kernel_rfl)
theorem r_y8_51 : rounds p_y8 v_y8 51 = ⟨1861965433, 2766320632, 3666108351, 3619051242, 1965207090, 3903859901, 1627796566, 2725370869⟩ := rounds_succ' _ _ _ _ _ _ r_y8_50 w_y8_50 (by kernel_rfl)
theorem r_y8_52 : rounds p_y8 v_y8 52 = ⟨1234280941, 1861965433, 2766320632, 3666108351, 758733023, 1965207090, 3903859901, 1627796566⟩ := rounds_succ' _ _ _ _ _ _ r_y8_51 w_y8_51 (by kernel_rfl)
theorem r_y8_53 : rounds p_y8 v_y8 53 = ⟨3430135557, 1234280941, 1861965433, 2766320632, 511365371, 758733023, 1965207090, 3903859901⟩ := rounds_succ' _ _ _ _ _ _ r_y8_52 w_y8_52 (by kernel_rfl)
theorem r_y8_54 : rounds p_y8 v_y8 54 = ⟨43588213, 3430135557, 1234280941, 1861965433, 1419345299, 511365371, 758733023, 1965207090⟩ := rounds_succ' _ _ _ _ _ _ r_y8_53 w_y8_53 (by kernel_rfl)
theorem r_y8_55 : rounds p_y8 v_y8 55 = ⟨3741611217, 43588213, 3430135557, 1234280941, 235311494, 1419345299, 511365371, 758733023⟩ := rounds_succ' _ _ _ _ _ _ r_y8_54 w_y8_54 (by kernel_rfl)
theorem r_y8_56 : rounds p_y8 v_y8 56 = ⟨3881850639, 3741611217, 43588213, 3430135557, 2722373692, 235311494, 1419345299, 511365371⟩ := rounds_succ' _ _ _ _ _ _ r_y8_55 w_y8_55 (by kernel_rfl)
theorem r_y8_57 : rounds p_y8 v_y8 57 = ⟨2622739322, 3881850639, 3741611217, 43588213, 3771474638, 2722373692, 235311494, 1419345299⟩ := rounds_succ' _ _ _ _ _ _ r_y8_56 w_y8_56 (by kernel_rfl)
theorem r_y8_58 : rounds p_y8 v_y8 58 = ⟨3793365856, 2622739322, 3881850639, 3741611217, 2447700553, 3771474638, 2722373692, 235311494⟩ := rounds_succ' _ _ _ _ _ _ r_y8_57 w_y8_57 (by kernel_rfl)
theorem r_y8_59 : rounds p_y8 v_y8 59 = ⟨1726253211, 3793365856, 2622739322, 3881850639, 1416269953, 2447700553, 3771474638, 2722373692⟩ := rounds_succ' _ _ _ _ _ _ r_y8_58 w_y8_58 (by kernel_rfl)
theorem r_y8_60 : rounds p_y8 v_y8 60 = ⟨1255893090, 1726253211, 3793365856, 2622739322, 1017690974, 1416269953, 2447700553, 3771474638⟩ := rounds_succ' _ _ _ _ _ _ r_y8_59 w_y8_59 (by kernel_rfl)
theorem r_y8_61 : rounds p_y8 v_y8 61 = ⟨2910730917, 1255893090, 1726253211, 3793365856, 720560085, 1017690974, 1416269953, 2447700553⟩ := rounds_succ' _ _ _ _ _ _ r_y8_60 w_y8_60 (by kernel_rfl)
theorem r_y8_62 : rounds p_y8 v_y8 62 = ⟨1389096503, 2910730917, 1255893090, 1726253211, 2135915783, 720560085, 1017690974, 1416269953⟩ := rounds_succ' _ _ _ _ _ _ r_y8_61 w_y8_61 (by kernel_rfl)
theorem r_y8_63 : rounds p_y8 v_y8 63 = ⟨543993182, 1389096503, 2910730917, 1255893090, 2982484793, 2135915783, 720560085, 1017690974⟩ := rounds_succ' _ _ _ _ _ _ r_y8_62 w_y8_62 (by kernel_rfl)
theorem r_y8_64 : rounds p_y8 v_y8 64 = ⟨2114799413, 543993182, 1389096503, 2910730917, 1478144173, 2982484793, 2135915783, 720560085⟩ := rounds_succ' _ _ _ _ _ _ r_y8_63 w_y8_63 (by kernel_rfl)

theorem M_y8 : m_y8 ++ padOf m_y8.length = [121, 121, 121, 121, 121, 121, 121, 121, 128, 0, 0, 0, 0, 0, 0, 0, 0, 0, 0, 0, 0, 0, 0, 0, 0, 0, 0, 0, 0, 0, 0, 0, 0, 0, 0, 0, 0, 0, 0, 0, 0, 0, 0, 0, 0, 0, 0, 0, 0, 0, 0, 0, 0, 0, 0, 0, 0, 0, 0, 0, 0, 0, 0, 64] := by kernel_rfl
theorem dg_y8 : digest m_y8 0 = 232 := by
  have h0 := eat_blockW ss0 [121, 121, 121, 121, 121, 121, 121, 121, 128, 0, 0, 0, 0, 0, 0, 0, 0, 0, 0, 0, 0, 0, 0, 0, 0, 0, 0, 0, 0, 0, 0, 0, 0, 0, 0, 0, 0, 0, 0, 0, 0, 0, 0, 0, 0, 0, 0, 0, 0, 0, 0, 0, 0, 0, 0, 0, 0, 0, 0, 0, 0, 0, 0, 64] rfl rfl
  have hr : rounds (fun i => ([121, 121, 121, 121, 121, 121, 121, 121, 128, 0, 0, 0, 0, 0, 0, 0, 0, 0, 0, 0, 0, 0, 0, 0, 0, 0, 0, 0, 0, 0, 0, 0, 0, 0, 0, 0, 0, 0, 0, 0, 0, 0, 0, 0, 0, 0, 0, 0, 0, 0, 0, 0, 0, 0, 0, 0, 0, 0, 0, 0, 0, 0, 0, 64] : List UInt8).getD i 0) (V8.of ss0.wd) 64 = _ := r_y8_64
  rw [hr] at h0
  rw [digest_eqW, M_y8]
  unfold SS.hash
  rw [h0]
  show _ = _
  kernel_rfl

def p_z8 : Nat → UInt8 := fun i => ([122, 122, 122, 122, 122, 122, 122, 122, 128, 0, 0, 0, 0, 0, 0, 0, 0, 0, 0, 0, 0, 0, 0, 0, 0, 0, 0, 0, 0, 0, 0, 0, 0, 0, 0, 0, 0, 0, 0, 0, 0, 0, 0, 0, 0, 0, 0, 0, 0, 0, 0, 0, 0, 0, 0, 0, 0, 0, 0, 0, 0, 0, 0, 64] : List UInt8).getD i 0
theorem w_z8_0 : sched p_z8 0 = 2054847098 := sched_small' _ _ (by decide) _ (by kernel_rfl)
theorem w_z8_1 : sched p_z8 1 = 2054847098 := sched_small' _ _ (by decide) _ (by kernel_rfl)
theorem w_z8_2 : sched p_z8 2 = 2147483648 := sched_small' _ _ (by decide) _ (by kernel_rfl)
theorem w_z8_3 : sched p_z8 3 = 0 := sched_small' _ _ (by decide) _ (by kernel_rfl)
theorem w_z8_4 : sched p_z8 4 = 0 := sched_small' _ _ (by decide) _ (by kernel_rfl)
theorem w_z8_5 : sched p_z8 5 = 0 := sched_small' _ _ (by decide) _ (by kernel_rfl)
theorem w_z8_6 : sched p_z8 6 = 0 := sched_small' _ _ (by decide) _ (by kernel_rfl)
theorem w_z8_7 : sched p_z8 7 = 0 := sched_small' _ _ (by decide) _ (by kernel_rfl)
theorem w_z8_8 : sched p_z8 8 = 0 := sched_small' _ _ (by decide) _ (by kernel_rfl)
theorem w_z8_9 : sched p_z8 9 = 0 := sched_small' _ _ (by decide) _ (by kernel_rfl)
theorem w_z8_10 : sched p_z8 10 = 0 := sched_small' _ _ (by decide) _ (by kernel_rfl)
theorem w_z8_11 : sched p_z8 11 = 0 := sched_small' _ _ (by decide) _ (by kernel_rfl)
theorem w_z8_12 : sched p_z8 12 = 0 := sched_small' _ _ (by decide) _ (by kernel_rfl)
theorem w_z8_13 : sched p_z8 13 = 0 := sched_small' _ _ (by decide) _ (by kernel_rfl)
theorem w_z8_14 : sched p_z8 14 = 0 := sched_small' _ _ (by decide) _ (by kernel_rfl)
theorem w_z8_15 : sched p_z8 15 = 64 := sched_small' _ _ (by decide) _ (by kernel_rfl)
theorem w_z8_16 : sched p_z8 16 = 3751780255 := sched_big' _ _ (by decide) _ _ _ _ _ w_z8_0 w_z8_1 w_z8_9 w_z8_14 (by kernel_rfl)
theorem w_z8_17 : sched p_z8 17 = 2342689402 := sched_big' _ _ (by decide) _ _ _ _ _ w_z8_1 w_z8_2 w_z8_10 w_z8_15 (by kernel_rfl)
theorem w_z8_18 : sched p_z8 18 = 3154899931 := sched_big' _ _ (by decide) _ _ _ _ _ w_z8_2 w_z8_3 w_z8_11 w_z8_16 (by kernel_rfl)
theorem w_z8_19 : sched p_z8 19 = 508623875 := sched_big' _ _ (by decide) _ _ _ _ _ w_z8_3 w_z8_4 w_z8_12 w_z8_17 (by kernel_rfl)
theorem w_z8_20 : sched p_z8 20 = 2277092216 := sched_big' _ _ (by decide) _ _ _ _ _ w_z8_4 w_z8_5 w_z8_13 w_z8_18 (by kernel_rfl)
theorem w_z8_21 : sched p_z8 21 = 1636202717 := sched_big' _ _ (by decide) _ _ _ _ _ w_z8_5 w_z8_6 w_z8_14 w_z8_19 (by kernel_rfl)
theorem w_z8_22 : sched p_z8 22 = 3774004609 := sched_big' _ _ (by decide) _ _ _ _ _ w_z8_6 w_z8_7 w_z8_15 w_z8_20 (by kernel_rfl)
theorem w_z8_23 : sched p_z8 23 = 3540851980 := sched_big' _ _ (by decide) _ _ _ _ _ w_z8_7 w_z8_8 w_z8_16 w_z8_21 (by kernel_rfl)
theorem w_z8_24 : sched p_z8 24 = 2498464578 := sched_big' _ _ (by decide) _ _ _ _ _ w_z8_8 w_z8_9 w_z8_17 w_z8_22 (by kernel_rfl)
theorem w_z8_25 : sched p_z8 25 = 3911132283 := sched_big' _ _ (by decide) _ _ _ _ _ w_z8_9 w_z8_10 w_z8_18 w_z8_23 (by kernel_rfl)
theorem w_z8_26 : sched p_z8 26 = 3543997965 := sched_big' _ _ (by decide) _ _ _ _ _ w_z8_10 w_z8_11 w_z8_19 w_z8_24 (by kernel_rfl)
theorem w_z8_27 : sched p_z8 27 = 4265769437 := sched_big' _ _ (by decide) _ _ _ _ _ w_z8_11 w_z8_12 w_z8_20 w_z8_25 (by kernel_rfl)
theorem w_z8_28 : sched p_z8 28 = 2390365595 := sched_big' _ _ (by decide) _ _ _ _ _ w_z8_12 w_z8_13 w_z8_21 w_z8_26 (by kernel_rfl)
theorem w_z8_29 : sched p_z8 29 = 1423805944 := sched_big' _ _ (by decide) _ _ _ _ _ w_z8_13 w_z8_14 w_z8_22 w_z8_27 (by kernel_rfl)
theorem w_z8_30 : sched p_z8 30 = 2608481675 := sched_big' _ _ (by decide) _ _ _ _ _ w_z8_14 w_z8_15 w_z8_23 w_z8_28 (by kernel_rfl)
theorem w_z8_31 : sched p_z8 31 = 3488407107 := sched_big' _ _ (by decide) _ _ _ _ _ w_z8_15 w_z8_16 w_z8_24 w_z8_29 (by kernel_rfl)
theorem w_z8_32 : sched p_z8 32 = 1980684528 := sched_big' _ _ (by decide) _ _ _ _ _ w_z8_16 w_z8_17 w_z8_25 w_z8_30 (by kernel_rfl)
theorem w_z8_33 : sched p_z8 33 = 2949227617 := sched_big' _ _ (by decide) _ _ _ _ _ w_z8_17 w_z8_18 w_z8_26 w_z8_31 (by kernel_rfl)
theorem w_z8_34 : sched p_z8 34 = 2898304532 := sched_big' _ _ (by decide) _ _ _ _ _ w_z8_18 w_z8_19 w_z8_27 w_z8_32 (by kernel_rfl)
theorem w_z8_35 : sched p_z8 35 = 512264681 := sched_big' _ _ (by decide) _ _ _ _ _ w_z8_19 w_z8_20 w_z8_28 w_z8_33 (by kernel_rfl)
theorem w_z8_36 : sched p_z8 36 = 1648347354 := sched_big' _ _ (by decide) _ _ _ _ _ w_z8_20 w_z8_21 w_z8_29 w_z8_34 (by kernel_rfl)
theorem w_z8_37 : sched p_z8 37 = 59676694 := sched_big' _ _ (by decide) _ _ _ _ _ w_z8_21 w_z8_22 w_z8_30 w_z8_35 (by kernel_rfl)
theorem w_z8_38 : sched p_z8 38 = 315825094 := sched_big' _ _ (by decide) _ _ _ _ _ w_z8_22 w_z8_23 w_z8_31 w_z8_36 (by kernel_rfl)
theorem w_z8_39 : sched p_z8 39 = 1569266512 := sched_big' _ _ (by decide) _ _ _ _ _ w_z8_23 w_z8_24 w_z8_32 w_z8_37 (by kernel_rfl)
theorem w_z8_40 : sched p_z8 40 = 1464061976 := sched_big' _ _ (by decide) _ _ _ _ _ w_z8_24 w_z8_25 w_z8_33 w_z8_38 (by kernel_rfl)
theorem w_z8_41 : sched p_z8 41 = 2331490036 := sched_big' _ _ (by decide) _ _ _ _ _ w_z8_25 w_z8_26 w_z8_34 w_z8_39 (by kernel_rfl)
theorem w_z8_42 : sched p_z8 42 = 3190050315 := sched_big' _ _ (by decide) _ _ _ _ _ w_z8_26 w_z8_27 w_z8_35 w_z8_40 (by kernel_rfl)
theorem w_z8_43 : sched p_z8 43 = 834535813 := sched_big' _ _ (by decide) _ _ _ _ _ w_z8_27 w_z8_28 w_z8_36 w_z8_41 (by kernel_rfl)
theorem w_z8_44 : sched p_z8 44 = 3661623049 := sched_big' _ _ (by decide) _ _ _ _ _ w_z8_28 w_z8_29 w_z8_37 w_z8_42 (by kernel_rfl)
theorem w_z8_45 : sched p_z8 45 = 3186251274 := sched_big' _ _ (by decide) _ _ _ _ _ w_z8_29 w_z8_30 w_z8_38 w_z8_43 (by kernel_rfl)
theorem w_z8_46 : sched p_z8 46 = 2907270157 := sched_big' _ _ (by decide) _ _ _ _ _ w_z8_30 w_z8_31 w_z8_39 w_z8_44 (by kernel_rfl)
theorem w_z8_47 : sched p_z8 47 = 3777887588 := sched_big' _ _ (by decide) _ _ _ _ _ w_z8_31 w_z8_32 w_z8_40 w_z8_45 (by kernel_rfl)
theorem w_z8_48 : sched p_z8 48 = 1550945648 := sched_big' _ _ (by decide) _ _ _ _ _ w_z8_32 w_z8_33 w_z8_41 w_z8_46 (by kernel_rfl)
theorem w_z8_49 : sched p_z8 49 = 3394851846 := sched_big' _ _ (by decide) _ _ _ _ _ w_z8_33 w_z8_34 w_z8_42 w_z8_47 (by kernel_rfl)
theorem w_z8_50 : sched p_z8 50 = 3373670650 := sched_big' _ _ (by decide) _ _ _ _ _ w_z8_34 w_z8_35 w_z8_43 w_z8_48 (by kernel_rfl)
theorem w_z8_51 : sched p_z8 51 = 3291398441 := sched_big' _ _ (by decide) _ _ _ _ _ w_z8_35 w_z8_36 w_z8_44 w_z8_49 (by kernel_rfl)
theorem w_z8_52 : sched p_z8 52 = 2129520086 := sched_big' _ _ (by decide) _ _ _ _ _ w_z8_36 w_z8_37 w_z8_45 w_z8_50 (by kernel_rfl)
theorem w_z8_53 : sched p_z8 53 = 2984712000 := sched_big' _ _ (by decide) _ _ _ _ _ w_z8_37 w_z8_38 w_z8_46 w_z8_51 (by kernel_rfl)
theorem w_z8_54 : sched p_z8 54 = 808291130 := sched_big' _ _ (by decide) _ _ _ _ _ w_z8_38 w_z8_39 w_z8_47 w_z8_52 (by kernel_rfl)
theorem w_z8_55 : sched p_z8 55 = 4053780541 := sched_big' _ _ (by decide) _ _ _ _ _ w_z8_39 w_z8_40 w_z8_48 w_z8_53 (by kernel_rfl)
theorem w_z8_56 : sched p_z8 56 = 2894705821 := sched_big' _ _ (by decide) _ _ _ _ _ w_z8_40 w_z8_41 w_z8_49 w_z8_54 (by kernel_rfl)
theorem w_z8_57 : sched p_z8 57 = 2221746128 := sched_big' _ _ (by decide) _ _ _ _ _ w_z8_41 w_z8_42 w_z8_50 w_z8_55 (by kernel_rfl)
theorem w_z8_58 : sched p_z8 58 = 4219421000 := sched_big' _ _ (by decide) _ _ _ _ _ w_z8_42 w_z8_43 w_z8_51 w_z8_56 (by kernel_rfl)
theorem w_z8_59 : sched p_z8 59 = 3675334141 := sched_big' _ _ (by decide) _ _ _ _ _ w_z8_43 w_z8_44 w_z8_52 w_z8_57 (by kernel_rfl)
theorem w_z8_60 : sched p_z8 60 = 1813967968 := sched_big' _ _ (by decide) _ _ _ _ _ w_z8_44 w_z8_45 w_z8_53 w_z8_58 (by kernel_rfl)
theorem w_z8_61 : sched p_z8 61 = 4202711026 := sched_big' _ _ (by decide) _ _ _ _ _ w_z8_45 w_z8_46 w_z8_54 w_z8_59 (by kernel_rfl)
theorem w_z8_62 : sched p_z8 62 = 3998174360 := sched_big' _ _ (by decide) _ _ _ _ _ w_z8_46 w_z8_47 w_z8_55 w_z8_60 (by kernel_rfl)
theorem w_z8_63 : sched p_z8 63 = 1096546730 := sched_big' _ _ (by decide) _ _ _ _ _ w_z8_47 w_z8_48 w_z8_56 w_z8_61 (by kernel_rfl)
def v_z8 : V8 := ⟨1779033703, 3144134277, 1013904242, 2773480762, 1359893119, 2600822924, 528734635, 1541459225⟩
theorem r_z8_0 : rounds p_z8 v_z8 0 = ⟨1779033703, 3144134277, 1013904242, 2773480762, 1359893119, 2600822924, 528734635, 1541459225⟩ := rfl
theorem r_z8_1 : rounds p_z8 v_z8 1 = ⟨1988297415, 1779033703, 3144134277, 1013904242, 323116316, 1359893119, 2600822924, 528734635⟩ := rounds_succ' _ _ _ _ _ _ r_z8_0 w_z8_0 (by kernel_rfl)
theorem r_z8_2 : rounds p_z8 v_z8 2 = ⟨1488128194, 1988297415, 1779033703, 3144134277, 1401809914, 323116316, 1359893119, 2600822924⟩ := rounds_succ' _ _ _ _ _ _ r_z8_1 w_z8_1 (by kernel_rfl)
theorem r_z8_3 : rounds p_z8 v_z8 3 = ⟨3411708484, 1488128194, 1988297415, 1779033703, 4028770104, 1401809914, 323116316, 1359893119⟩ := rounds_succ' _ _ _ _ _ _ r_z8_2 w_z8_2 (by kernel_rfl)
theorem r_z8_4 : rounds p_z8 v_z8 4 = ⟨155103278, 3411708484, 1488128194, 1988297415, 232497255, 4028770104, 1401809914, 323116316⟩ := rounds_succ' _ _ _ _ _ _ r_z8_3 w_z8_3 (by kernel_rfl)
theorem r_z8_5 : rounds p_z8 v_z8 5 = ⟨1591760834, 155103278, 3411708484, 1488128194, 2452190313, 232497255, 4028770104, 1401809914⟩ := rounds_succ' _ _ _ _ _ _ r_z8_4 w_z8_4 (by kernel_rfl)
theorem r_z8_6 : rounds p_z8 v_z8 6 = ⟨1102803809, 1591760834, 155103278, 3411708484, 2784886356, 2452190313, 232497255, 4028770104⟩ := rounds_succ' _ _ _ _ _ _ r_z8_5 w_z8_5 (by kernel_rfl)
theorem r_z8_7 : rounds p_z8 v_z8 7 = ⟨3790423994, 1102803809, 1591760834, 155103278, 1021577879, 2784886356, 2452190313, 232497255⟩ := rounds_succ' _ _ _ _ _ _ r_z8_6 w_z8_6 (by kernel_rfl)
theorem r_z8_8 : rounds p_z8 v_z8 8 = ⟨1318244818, 3790423994, 1102803809, 1591760834, 3845485851, 1021577879, 2784886356, 2452190313⟩ := rounds_succ' _ _ _ _ _ _ r_z8_7 w_z8_7 (by kernel_rfl)
theorem r_z8_9 : rounds p_z8 v_z8 9 = ⟨2107475370, 1318244818, 3790423994, 1102803809, 1146159010, 3845485851, 1021577879, 2784886356⟩ := rounds_succ' _ _ _ _ _ _ r_z8_8 w_z8_8 (by kernel_rfl)
theorem r_z8_10 : rounds p_z8 v_z8 10 = ⟨3155939673, 2107475370, 1318244818, 3790423994, 3424082576, 1146159010, 3845485851, 1021577879⟩ := rounds_succ' _ _ _ _ _ _ r_z8_9 w_z8_9 (by kernel_rfl)
theorem r_z8_11 : rounds p_z8 v_z8 11 = ⟨3891588121, 3155939673, 2107475370, 1318244818, 3266834305, 3424082576, 1146159010, 3845485851⟩ := rounds_succ' _ _ _ _ _ _ r_z8_10 w_z8_10 (by kernel_rfl)
theorem r_z8_12 : rounds p_z8 v_z8 12 = ⟨1937686393, 3891588121, 3155939673, 2107475370, 4193347828, 3266834305, 3424082576, 1146159010⟩ := rounds_succ' _ _ _ _ _ _ r_z8_11 w_z8_11 (by kernel_rfl)
theorem r_z8_13 : rounds p_z8 v_z8 13 = ⟨117188807, 1937686393, 3891588121, 3155939673, 791732018, 4193347828, 3266834305, 3424082576⟩ := rounds_succ' _ _ _ _ _ _ r_z8_12 w_z8_12 (by kernel_rfl)
theorem r_z8_14 : rounds p_z8 v_z8 14 = ⟨3429171155, 117188807, 1937686393, 3891588121, 2841641736, 791732018, 4193347828, 3266834305⟩ := rounds_succ' _ _ _ _ _ _ r_z8_13 w_z8_13 (by kernel_rfl)
theorem r_z8_15 : rounds p_z8 v_z8 15 = ⟨2968215081, 3429171155, 117188807, 1937686393, 3018552973, 2841641736, 791732018, 4193347828⟩ := rounds_succ' _ _ _ _ _ _ r_z8_14 w_z8_14 (by kernel_rfl)
theorem r_z8_16 : rounds p_z8 v_z8 16 = ⟨817688869, 2968215081, 3429171155, 117188807, 4013898696, 3018552973, 2841641736, 791732018⟩ := rounds_succ' _ _ _ _ _ _ r_z8_15 w_z8_15 (by kernel_rfl)
theorem r_z8_17 : rounds p_z8 v_z8 17 = ⟨1136871206, 817688869, 2968215081, 3429171155, 1662010208, 4013898696, 3018552973, 2841641736⟩ := rounds_succ' _ _ _ _ _ _ r_z8_16 w_z8_16 (by kernel_rfl)
theorem r_z8_18 : rounds p_z8 v_z8 18 = ⟨1411866122, 1136871206, 817688869, 2968215081, 1254272988, 1662010208, 4013898696, 3018552973⟩ := rounds_succ' _ _ _ _ _ _ r_z8_17 w_z8_17 (by kernel_rfl)
theorem r_z8_19 : rounds p_z8 v_z8 19 = ⟨2612432715, 1411866122, 1136871206, 817688869, 64435814, 1254272988, 1662010208, 4013898696⟩ := rounds_succ' _ _ _ _ _ _ r_z8_18 w_z8_18 (by kernel_rfl)
theorem r_z8_20 : rounds p_z8 v_z8 20 = ⟨3991336235, 2612432715, 1411866122, 1136871206, 2221950782, 64435814, 1254272988, 1662010208⟩ := rounds_succ' _ _ _ _ _ _ r_z8_19 w_z8_19 (by kernel_rfl)
theorem r_z8_21 : rounds p_z8 v_z8 21 = ⟨822212440, 3991336235, 2612432715, 1411866122, 3442205097, 2221950782, 64435814, 1254272988⟩ := rounds_succ' _ _ _ _ _ _ r_z8_20 w_z8_20 (by kernel_rfl)
theorem r_z8_22 : rounds p_z8 v_z8 22 = ⟨4038291285, 822212440, 3991336235, 2612432715, 3654762743, 3442205097, 2221950782, 64435814⟩ := rounds_succ' _ _ _ _ _ _ r_z8_21 w_z8_21 (by kernel_rfl)
theorem r_z8_23 : rounds p_z8 v_z8 23 = ⟨4122739288, 4038291285, 822212440, 3991336235, 3566244030, 3654762743, 3442205097, 2221950782⟩ := rounds_succ' _ _ _ _ _ _ r_z8_22 w_z8_22 (by kernel_rfl)
theorem r_z8_24 : rounds p_z8 v_z8 24 = ⟨507909133, 4122739288, 4038291285, 822212440, 987353920, 3566244030, 3654762743, 3442205097⟩ := rounds_succ' _ _ _ _ _ _ r_z8_23 w_z8_23 (by kernel_rfl)
theorem r_z8_25 : rounds p_z8 v_z8 25 = ⟨3293656325, 507909133, 4122739288, 4038291285, 15983286, 987353920, 3566244030, 3654762743⟩ := rounds_succ' _ _ _ _ _ _ r_z8_24 w_z8_24 (by kernel_rfl)
theorem r_z8_26 : rounds p_z8 v_z8 26 = ⟨2842629571, 3293656325, 507909133, 4122739288, 668989490, 15983286, 987353920, 3566244030⟩ := rounds_succ' _ _ _ _ _ _ r_z8_25 w_z8_25 (by kernel_rfl)
theorem r_z8_27 : rounds p_z8 v_z8 27 = ⟨371518659, 2842629571, 3293656325, 507909133, 2273859945, 668989490, 15983286, 987353920⟩ := rounds_succ' _ _ _ _ _ _ r_z8_26 w_z8_26 (by kernel_rfl)
theorem r_z8_28 : rounds p_z8 v_z8 28 = ⟨66840665, 371518659, 2842629571, 3293656325, 1840922708, 2273859945, 668989490, 15983286⟩ := rounds_succ' _ _ _ _ _ _ r_z8_27 w_z8_27 (by kernel_rfl)
theorem r_z8_29 : rounds p_z8 v_z8 29 = ⟨3577667502, 66840665, 371518659, 2842629571, 2827527722, 1840922708, 2273859945, 668989490⟩ := rounds_succ' _ _ _ _ _ _ r_z8_28 w_z8_28 (by kernel_rfl)
theorem r_z8_30 : rounds p_z8 v_z8 30 = ⟨2014849438, 3577667502, 66840665, 371518659, 1459662157, 2827527722, 1840922708, 2273859945⟩ := rounds_succ' _ _ _ _ _ _ r_z8_29 w_z8_29 (by kernel_rfl)
theorem r_z8_31 : rounds p_z8 v_z8 31 = ⟨1924581196, 2014849438, 3577667502, 66840665, 2236421931, 1459662157, 2827527722, 1840922708⟩ := rounds_succ' _ _ _ _ _ _ r_z8_30 w_z8_30 (by kernel_rfl)
theorem r_z8_32 : rounds p_z8 v_z8 32 = ⟨3679509120, 1924581196, 2014849438, 3577667502, 1899683228, 2236421931, 1459662157, 2827527722⟩ := rounds_succ' _ _ _ _ _ _ r_z8_31 w_z8_31 (by kernel_rfl)
theorem r_z8_33 : rounds p_z8 v_z8 33 = ⟨3359931348, 3679509120, 1924581196, 2014849438, 2176426155, 1899683228, 2236421931, 1459662157⟩ := rounds_succ' _ _ _ _ _ _ r_z8_32 w_z8_32 (by kernel_rfl)
theorem r_z8_34 : rounds p_z8 v_z8 34 = ⟨2041936543, 3359931348, 3679509120, 1924581196, 438352002, 2176426155, 1899683228, 2236421931⟩ := rounds_succ' _ _ _ _ _ _ r_z8_33 w_z8_33 (by kernel_rfl)
theorem r_z8_35 : rounds p_z8 v_z8 35 = ⟨2713582159, 2041936543, 3359931348, 3679509120, 1537431581, 438352002, 2176426155, 1899683228⟩ := rounds_succ' _ _ _ _ _ _ r_z8_34 w_z8_34 (by kernel_rfl)
theorem r_z8_36 : rounds p_z8 v_z8 36 = ⟨3696160185, 2713582159, 2041936543, 3359931348, 4293853024, 1537431581, 438352002, 2176426155⟩ := rounds_succ' _ _ _ _ _ _ r_z8_35 w_z8_35 (by kernel_rfl)
theorem r_z8_37 : rounds p_z8 v_z8 37 = ⟨1483728063, 3696160185, 2713582159, 2041936543, 92972940, 4293853024, 1537431581, 438352002⟩ := rounds_succ' _ _ _ _ _ _ r_z8_36 w_z8_36 (by kernel_rfl)
theorem r_z8_38 : rounds p_z8 v_z8 38 = ⟨493775900, 1483728063, 3696160185, 2713582159, 1916809931, 92972940, 4293853024, 1537431581⟩ := rounds_succ' _ _ _ _ _ _ r_z8_37 w_z8_37 (by kernel_rfl)
theorem r_z8_39 : rounds p_z8 v_z8 39 = ⟨220219115, 493775900, 1483728063, 3696160185, 1952732284, 1916809931, 92972940, 4293853024⟩ := rounds_succ' _ _ _ _ _ _ r_z8_38 w_z8_38 (by kernel_rfl)
theorem r_z8_40 : rounds p_z8 v_z8 40 = ⟨1084512297, 220219115, 493775900, 1483728063, 2323188887, 1952732284, 1916809931, 92972940⟩ := rounds_succ' _ _ _ _ _ _ r_z8_39 w_z8_39 (by kernel_rfl)
theorem r_z8_41 : rounds p_z8 v_z8 41 = ⟨1836415434, 1084512297, 220219115, 493775900, 3099417654, 2323188887, 1952732284, 1916809931⟩ := rounds_succ' _ _ _ _ _ _ r_z8_40 w_z8_40 (by kernel_rfl)
theorem r_z8_42 : rounds p_z8 v_z8 42 = ⟨1114950470, 1836415434, 1084512297, 220219115, 2446705163, 3099417654, 2323188887, 1952732284⟩ := rounds_succ' _ _ _ _ _ _ r_z8_41 w_z8_41 (by kernel_rfl)
theorem r_z8_43 : rounds p_z8 v_z8 43 = ⟨1868330189, 1114950470, 1836415434, 1084512297, 579217904, 2446705163, 3099417654, 2323188887⟩ := rounds_succ' _ _ _ _ _ _ r_z8_42 w_z8_42 (by kernel_rfl)
theorem r_z8_44 : rounds p_z8 v_z8 44 = ⟨3588173939, 1868330189, 1114950470, 1836415434, 446676065, 579217904, 2446705163, 3099417654⟩ := rounds_succ' _ _ _ _ _ _ r_z8_43 w_z8_43 (by kernel_rfl)
theorem r_z8_45 : rounds p_z8 v_z8 45 = ⟨2171787590, 3588173939, 1868330189, 1114950470, 2640524567, 446676065, 579217904, 2446705163⟩ := rounds_succ' _ _ _ _ _ _ r_z8_44 w_z8_44 (by kernel_rfl)
theorem r_z8_46 : rounds p_z8 v_z8 46 = ⟨342433439, 2171787590, 3588173939, 1868330189, 4033991132, 2640524567, 446676065, 579217904⟩ := rounds_succ' _ _ _ _ _ _ r_z8_45 w_z8_45 (by kernel_rfl)
theorem r_z8_47 : rounds p_z8 v_z8 47 = ⟨4204257489, 342433439, 2171787590, 3588173939, 1054909577, 4033991132, 2640524567, 446676065⟩ := rounds_succ' _ _ _ _ _ _ r_z8_46 w_z8_46 (by kernel_rfl)
theorem r_z8_48 : rounds p_z8 v_z8 48 = ⟨994527780, 4204257489, 342433439, 2171787590, 1493775967, 1054909577, 4033991132, 2640524567⟩ := rounds_succ' _ _ _ _ _ _ r_z8_47 w_z8_47 (by kernel_rfl)
theorem r_z8_49 : rounds p_z8 v_z8 49 = ⟨2065593964, 994527780, 4204257489, 342433439, 2138139839, 1493775967, 1054909577, 4033991132⟩ := rounds_succ' _ _ _ _ _ _ r_z8_48 w_z8_48 (by kernel_rfl)
theorem r_z8_50 : rounds p_z8 v_z8 50 = ⟨1421738257, 2065593964, 994527780, 4204257489, 428984520, 2138139839, 1493775967, 1054909577⟩ := rounds_succ' _ _ _ _ _ _ r_z8_49 w_z8_49 (by kernel_rfl)
theorem r_z8_51 : rounds p_z8 v_z8 51 = ⟨2593746830, 1421738257, 2065593964, 994527780, 1953606997, 428984520, 2138139839, 1493775967⟩ := rounds_succ' _ _ _ _ _ _ r_z8_50 w_z8_50 (by kernel_rfl)
theorem r_z8_52 : rounds p_z8 v_z8 52 = ⟨1320123311, 2593746830, 1421738257, 2065593964, 1877715333, 1953606997, 428984520, 2138139839⟩ := rounds_succ' _ _ _ _ _ _ r_z8_51 w_z8_51 (by kernel_rfl)
theorem r_z8_53 : rounds p_z8 v_z8 53 = ⟨2394053682, 1320123311, 2593746830, 1421738257, 4157755493, 1877715333, 1953606997, 428984520⟩ := rounds_succ' _ _ _ _ _ _ r_z8_52 w_z8_52 (by kernel_rfl)
theorem r_z8_54 : rounds p_z8 v_z8 54 = ⟨243425705, 2394053682, 1320123311, 2593746830, 1228716648, 4157755493, 1877715333, 1953606997⟩ := rounds_succ' _ _ _ _ _ _ r_z8_53 w_z8_53 (by kernel_rfl)
theorem r_z8_55 : rounds p_z8 v_z8 55 = ⟨814790667, 243425705, 2394053682, 1320123311, 1964598699, 1228716648, 4157755493, 1877715333⟩ := rounds_succ' _ _ _ _ _ _ r_z8_54 w_z8_54 (by kernel_rfl)
theorem r_z8_56 : rounds p_z8 v_z8 56 = ⟨2127307665, 814790667, 243425705, 2394053682, 1884004560, 1964598699, 1228716648, 4157755493⟩ := rounds_succ' _ _ _ _ _ _ r_z8_55 w_z8_55 (by kernel_rfl)
theorem r_z8_57 : rounds p_z8 v_z8 57 = ⟨3263098734, 2127307665, 814790667, 243425705, 2667212441, 1884004560, 1964598699, 1228716648⟩ := rounds_succ' _ _ _ _ _ _ r_z8_56 w_z8_56 (by kernel_rfl)
theorem r_z8_58 : rounds p_z8 v_z8 58 = ⟨592093121, 3263098734, 2127307665, 814790667, 2392605498, 2667212441, 1884004560, 1964598699⟩ := rounds_succ' _ _ _ _ _ _ r_z8_57 w_z8_57 (by kernel_rfl)
theorem r_z8_59 : rounds p_z8 v_z8 59 = ⟨3061492364, 592093121, 3263098734, 2127307665, 3893885357, 2392605498, 2667212441, 1884004560⟩ := rounds_succ' _ _ _ _ _ _ r_z8_58 w_z8_58 (by kernel_rfl)
theorem r_z8_60 : rounds p_z8 v_z8 60 = ⟨919435125, 3061492364, 592093121, 3263098734, 2144190347, 3893885357, 2392605498, 2667212441⟩ := rounds_succ' _ _ _ _ _ _ r_z8_59 w_z8_59 (by kernel_rfl)
theorem r_z8_61 : rounds p_z8 v_z8 61 = ⟨3092211412, 919435125, 3061492364, 592093121, 2159826704, 2144190347, 3893885357, 2392605498⟩ := rounds_succ' _ _ _ _ _ _ r_z8_60 w_z8_60 (by kernel_rfl)
theorem r_z8_62 : rounds p_z8 v_z8 62 = ⟨1873991261, 3092211412, 919435125, 3061492364, 3078669851, 2159826704, 2144190347, 3893885357⟩ := rounds_succ' _ _ _ _ _ _ r_z8_61 w_z8_61 (by kernel_rfl)
theorem r_z8_63 : rounds p_z8 v_z8 63 = ⟨757636283, 1873991261, 3092211412, 919435125, 2188710707, 3078669851, 2159826704, 2144190347⟩ := rounds_succ' _ _ _ _ _ _ r_z8_62 w_z8_62 (by kernel_rfl)
theorem r_z8_64 : rounds p_z8 v_z8 64 = ⟨1461712164, 757636283, 1873991261, 3092211412, 3554734814, 2188710707, 3078669851, 2159826704⟩ := rounds_succ' _ _ _ _ _ _ r_z8_63 w_z8_63 (by kernel_rfl)

theorem M_z8 : m_z8 ++ padOf m_z8.length = [122, 122, 122, 122, 122, 122, 122, 122, 128, 0, 0, 0, 0, 0, 0, 0, 0, 0, 0, 0, 0, 0, 0, 0, 0, 0, 0, 0, 0, 0, 0, 0, 0, 0, 0, 0, 0, 0, 0, 0, 0, 0, 0, 0, 0, 0, 0, 0, 0, 0, 0, 0, 0, 0, 0, 0, 0, 0, 0, 0, 0, 0, 0, 64] := by kernel_rfl
theorem dg_z8 : digest m_z8 0 = 193 := by
  have h0 := eat_blockW ss0 [122, 122, 122, 122, 122, 122, 122, 122, 128, 0, 0, 0, 0, 0, 0, 0, 0, 0, 0, 0, 0, 0, 0, 0, 0, 0, 0, 0, 0, 0, 0, 0, 0, 0, 0, 0, 0, 0, 0, 0, 0, 0, 0, 0, 0, 0, 0, 0, 0, 0, 0, 0, 0, 0, 0, 0, 0, 0, 0, 0, 0, 0, 0, 64] rfl rfl
  have hr : rounds (fun i => ([122, 122, 122, 122, 122, 122, 122, 122, 128, 0, 0, 0, 0, 0, 0, 0, 0, 0, 0, 0, 0, 0, 0, 0, 0, 0, 0, 0, 0, 0, 0, 0, 0, 0, 0, 0, 0, 0, 0, 0, 0, 0, 0, 0, 0, 0, 0, 0, 0, 0, 0, 0, 0, 0, 0, 0, 0, 0, 0, 0, 0, 0, 0, 64] : List UInt8).getD i 0) (V8.of ss0.wd) 64 = _ := r_z8_64
  rw [hr] at h0
  rw [digest_eqW, M_z8]
  unfold SS.hash
  rw [h0]
  show _ = _
  kernel_rfl

end Go.Proofs.YtfdhpjflkimihaaDoor
/- The chapter's further examples of the copier, in plain words. No conditions beyond those that each statement types. -/
namespace Go.Proofs.YtfdhpjflkimihaaDoor
open Go.RowKit

theorem hash_ne0 {f g : Nat → UInt8} (h : f 0 ≠ g 0) : sameHash f g = false := by
  rw [Bool.eq_false_iff]
  intro e
  have := List.all_eq_true.1 e 0 (by decide)
  exact h (by simpa using this)
def knA : ByteArray := ⟨#[97]⟩
def filA : Files := [(knA, m_x16)]
theorem filA_eq : Fadd [] knA m_x16 = filA := by simp [Fadd, Fdel, filA]
theorem keys_xk : keysL m_x16 = [hkey (digest m_x16)] := by
  have h : partsL m_x16 = [m_x16] := by decide
  simp [keysL, listL, h]
theorem findA : findL filA (hkey (digest m_x16)) = some ((knA, 0), m_x16) := by
  unfold findL
  have ho : occ filA (hkey (digest m_x16)) = [(knA, 0)] := by
    unfold occ filA
    simp only [List.flatMap_cons, List.flatMap_nil, occ1, keys_xk]
    simp [occTo]
  rw [ho]
  have h : pickP [(knA, 0)] = some (knA, 0) := by decide +kernel
  rw [h]
  have h2 : dataF filA knA = m_x16 := by decide
  simp only [Option.map_some, h2]
  have h3 : partZ m_x16 0 = m_x16 := by decide
  simp only [Int.natCast_zero, h3]
theorem findA_no {k : HKey} (h : k ≠ hkey (digest m_x16)) : findL filA k = none := by
  unfold findL
  have ho : occ filA k = [] := by
    unfold occ filA
    simp only [List.flatMap_cons, List.flatMap_nil, occ1, keys_xk]
    simp [occTo, Ne.symm h]
  rw [ho]
  rfl
theorem findA_len {k : HKey} {m : Pl} {xs : List UInt8} (h : findL filA k = some (m, xs)) : xs.length = 16 := by
  by_cases hk : k = hkey (digest m_x16)
  · subst hk
    rw [findA] at h
    cases h
    rfl
  · rw [findA_no hk] at h
    cases h
/-- The plan where a file has the first block. -/
def planF : List StepV := [⟨0, 2, knA, 0, 0⟩, ⟨1, 3, ⟨#[]⟩, 0, 0⟩, ⟨2, 4, ⟨#[]⟩, 0, 0⟩]
theorem given_planF : planL (recV m_given) 40 [] (findL filA) 3 = planF := by
  have p0 : stepPl (recV m_given) 40 [] (findL filA) 0 = ⟨0, 2, knA, 0, 0⟩ := by
    unfold stepPl
    rw [if_neg (by rw [show plT 40 [] 0 = [] from by decide, given_r0]; decide), given_dig0, findA]
    show (if ((m_x16.length : Nat) : Int) = (recV m_given).len 0 then (⟨0, 2, knA, 0, 0⟩ : StepV) else ⟨0, 4, ⟨#[]⟩, 0, 0⟩) = _
    rw [given_len0, if_pos (by decide)]
  have p1 : stepPl (recV m_given) 40 [] (findL filA) 1 = ⟨1, 3, ⟨#[]⟩, 0, 0⟩ := by
    unfold stepPl
    rw [if_neg (by rw [show plT 40 [] 1 = [] from by decide, given_r1]; decide), find_first (k := 0) (by decide) given_s10 (fun t ht => by omega)]
    generalize findL filA (hkey ((recV m_given).dig 1)) = o
    rfl
  have p2 : stepPl (recV m_given) 40 [] (findL filA) 2 = ⟨2, 4, ⟨#[]⟩, 0, 0⟩ := by
    unfold stepPl
    rw [if_neg (by rw [show plT 40 [] 2 = [] from by decide, given_r2]; decide), find_no (fun t ht => given_s2 t ht)]
    generalize ho : findL filA (hkey ((recV m_given).dig 2)) = o
    show stepFd (recV m_given) 2 o = _
    cases o with
    | none => rfl
    | some p =>
      obtain ⟨m, xs⟩ := p
      have hl := findA_len ho
      show (if (xs.length : Int) = (recV m_given).len 2 then (⟨2, 2, m.1, m.2, 0⟩ : StepV) else ⟨2, 4, ⟨#[]⟩, 0, 0⟩) = _
      rw [hl, given_len2, if_neg (by decide)]
  unfold planL planF
  rw [show List.range 3 = [0, 1, 2] from rfl, List.map_cons, List.map_cons, List.map_cons, List.map_nil, p0, p1, p2]
def m_zx : List UInt8 := m_z16 ++ m_x16
/-- The plan where the second block is there. -/
def planN : List StepV := [⟨0, 4, ⟨#[]⟩, 0, 0⟩, ⟨1, 1, ⟨#[]⟩, 0, 0⟩, ⟨2, 4, ⟨#[]⟩, 0, 0⟩]
theorem given_planN : planL (recV m_given) 40 m_zx (fun _ => none) 3 = planN := by
  have p0 : stepPl (recV m_given) 40 m_zx (fun _ => none) 0 = ⟨0, 4, ⟨#[]⟩, 0, 0⟩ := by
    unfold stepPl
    rw [if_neg (by rw [show plT 40 m_zx 0 = m_z16 from by decide, given_r0, hash_ne0 (by rw [dg_z16, dg_x16]; decide)]; decide)]
    rfl
  have p1 : stepPl (recV m_given) 40 m_zx (fun _ => none) 1 = ⟨1, 1, ⟨#[]⟩, 0, 0⟩ := by
    unfold stepPl
    rw [if_pos (by rw [show plT 40 m_zx 1 = m_x16 from by decide, given_r1, sameHash_self]; rfl)]
    rfl
  have p2 : stepPl (recV m_given) 40 m_zx (fun _ => none) 2 = ⟨2, 4, ⟨#[]⟩, 0, 0⟩ := by
    unfold stepPl
    rw [if_neg (by rw [show plT 40 m_zx 2 = [] from by decide, given_r2]; decide), find_no (fun t ht => given_s2 t ht)]
    rfl
  unfold planL planN
  rw [show List.range 3 = [0, 1, 2] from rfl, List.map_cons, List.map_cons, List.map_cons, List.map_nil, p0, p1, p2]
theorem given_ask : askL planG = [0, 2] := by decide
theorem given_fromF : fromL planF = [50, 51, 52] := by decide
theorem given_fromN : fromL planN = [52, 49, 52] := by decide
theorem given_buildZ (a : Option Addr) (c : Nat) : buildV (recV m_given) 40 [] (fun _ => none) [⟨2, a, m_z8, c⟩] planG = ⟨[], [0, 1, 2], 14⟩ := by
  have hp : partsV (recV m_given) 40 [] (fun _ => none) [⟨2, a, m_z8, c⟩] planG 3 = [[], [], m_z8] := rfl
  have hb : badV (recV m_given) [[], [], m_z8] = [0, 1, 2] := by
    unfold badV
    rw [show List.range [[], [], m_z8].length = [0, 1, 2] from rfl]
    have e0 : rightB (recV m_given) 0 [] = false := by rw [given_r0]; rfl
    have e1 : rightB (recV m_given) 1 [] = false := by rw [given_r1]; rfl
    have e2 : rightB (recV m_given) 2 m_z8 = false := by rw [given_r2, hash_ne0 (by rw [dg_z8, dg_y8]; decide)]; rfl
    simp [e0, e1, e2]
  unfold buildV
  rw [if_neg (by rw [given_good.want]; simp), given_cnt, given_may, if_neg (by decide), show planG.length = 3 from rfl, hp, hb, if_pos (by simp)]
/-- Steps that may not be built. -/
def planJ : List StepV := [⟨0, 4, ⟨#[]⟩, 0, 0⟩, ⟨1, 3, ⟨#[]⟩, 0, 1⟩, ⟨2, 4, ⟨#[]⟩, 0, 0⟩]
theorem given_buildJ (G : List GotV) : buildV (recV m_given) 40 [] (fun _ => none) G planJ = ⟨[], [], 2⟩ := by
  unfold buildV
  rw [if_neg (by rw [given_good.want]; simp), given_cnt, show mayB planJ 3 = false from by decide, if_pos rfl]
theorem given_buildI (G : List GotV) : buildV (recV m_given) 40 [] (fun _ => none) G (planG.take 2) = ⟨[], [], 2⟩ := by
  unfold buildV
  rw [if_neg (by rw [given_good.want]; simp), given_cnt, show mayB (planG.take 2) 3 = false from by decide, if_pos rfl]
def recD : RecV := ⟨false, 2, 40, 16, (recV m_given).L⟩
def recG : RecV := ⟨false, 1, 49, 16, (recV m_given).L⟩
theorem recD_want : recD.want = 11 := by
  unfold RecV.want
  rw [if_pos (.inr (by decide))]
theorem recG_want : recG.want = 4 := by
  unfold RecV.want
  rw [if_neg (by decide), if_neg (by
    rintro ⟨_, _, _, h⟩
    rw [show recG.L = (recV m_given).L from rfl, given_L] at h
    exact absurd h (by decide))]
theorem given_rec : recV m_given = ⟨false, 1, 40, 16, (recV m_given).L⟩ := rfl
theorem recD_is {w : World} {RC : Array Value} {ao : Option Addr} {c : Nat} (H : RecIs w RC (recV m_given) ao c) : RecIs w (RC.setIfInBounds 1 (.int .i64 2)) recD ao c := by
  refine ⟨by rw [Array.size_setIfInBounds]; exact H.size, ?_, ?_, ?_, ?_, ?_, H.src, H.cap, H.nil⟩
  · rw [Array.getElem?_setIfInBounds_self_of_lt (by rw [H.size]; decide)]; rfl
  · rw [Array.getElem?_setIfInBounds_ne (by decide)]; exact H.del
  · rw [Array.getElem?_setIfInBounds_ne (by decide)]; exact H.long
  · rw [Array.getElem?_setIfInBounds_ne (by decide)]; exact H.bs
  · rw [Array.getElem?_setIfInBounds_ne (by decide)]; exact H.bl
theorem recG_is {w : World} {RC : Array Value} {ao : Option Addr} {c : Nat} (H : RecIs w RC (recV m_given) ao c) : RecIs w (RC.setIfInBounds 3 (.int .i64 49)) recG ao c := by
  refine ⟨by rw [Array.size_setIfInBounds]; exact H.size, ?_, ?_, ?_, ?_, ?_, H.src, H.cap, H.nil⟩
  · rw [Array.getElem?_setIfInBounds_ne (by decide)]; exact H.kind
  · rw [Array.getElem?_setIfInBounds_ne (by decide)]; exact H.del
  · rw [Array.getElem?_setIfInBounds_self_of_lt (by rw [H.size]; decide)]; rfl
  · rw [Array.getElem?_setIfInBounds_ne (by decide)]; exact H.bs
  · rw [Array.getElem?_setIfInBounds_ne (by decide)]; exact H.bl
end Go.Proofs.YtfdhpjflkimihaaDoor
