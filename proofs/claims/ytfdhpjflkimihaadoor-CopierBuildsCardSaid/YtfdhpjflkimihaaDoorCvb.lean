/- The copier's may, walked. No conditions beyond those that each statement types. -/
import Derived.Test.YtfdhpjflkimihaaDoorCva
import Derived.Test.YtfdhpjflkimihaaDoorBkXr
import Derived.Test.YtfdhpjflkimihaaDoorBkWm
namespace Go.Proofs.YtfdhpjflkimihaaDoor
open Go.RowKit

/-- May no step of block k be so? -/
def badS (k : Nat) (s : StepV) : Bool := decide (s.block ≠ (k : Int) ∨ s.from_ < 1 ∨ 4 < s.from_ ∨ (s.from_ = 3 ∧ (s.same < 0 ∨ (k : Int) ≤ s.same)))
def mayB (l : List StepV) (many : Nat) : Bool := ((List.range l.length).all fun k => !badS k (l.getD k ⟨0, 0, ⟨#[]⟩, 0, 0⟩)) && decide (l.length = many)
theorem mayB_bad {l : List StepV} {many k : Nat} {s : StepV} (h : l[k]? = some s) (hb : badS k s = true) : mayB l many = false := by
  unfold mayB
  rw [Bool.and_eq_false_iff]
  left
  rw [List.all_eq_false]
  refine ⟨k, List.mem_range.2 (List.getElem?_eq_some_iff.1 h).1, ?_⟩
  rw [List.getD, h, Option.getD_some, hb]
  decide
theorem mayB_all {l : List StepV} {many : Nat} (h : ∀ t s, t < l.length → l[t]? = some s → badS t s = false) : mayB l many = decide (l.length = many) := by
  unfold mayB
  rw [List.all_eq_true.2, Bool.true_and]
  intro k hk
  have hk := List.mem_range.1 hk
  rw [List.getD, List.getElem?_eq_getElem hk, Option.getD_some, h k _ hk (List.getElem?_eq_getElem hk)]
  rfl
set_option maxRecDepth 100000 in
set_option maxHeartbeats 4000000 in
theorem cp_may (l : List StepV) (so : Option Addr) (sc many : Nat) (w : World) (hs : Src w so (svs l)) (hlc : l.length ≤ sc) (hl : l.length ≤ 1000000) :
    Calls Tryd.prog 86 #[.slice so l.length sc, .int .i64 many] w fun e w' => e = .returned (.bool (mayB l many)) ∧ Chg [] w w' := by
  have HST := Lib.hid (fun (k : Nat) (s : StepV) (h : l[k]? = some s) (wr : World) (C : Chg [] w wr) => show ∃ a, so = some a ∧ (Instr.loadAt 85 (.pointer (some (a.add (k * 5))))).run Tryd.prog wr = .ok (.agg s.cells) wr from by
    obtain ⟨a, rfl, _⟩ := hs.lt (by
      have h1 := (List.getElem?_eq_some_iff.1 h).1
      rw [show (svs l).length = l.length * 5 from flat_length (enc := fun s : StepV => s.cells.toList) (size := 5) (fun _ => rfl) l]
      omega)
    exact ⟨a, rfl, load_step (hs.chg C (by simp)) h⟩)
  have HGE := Lib.hid (fun k (hk : k < l.length) => show ∃ s, l[k]? = some s from ⟨_, List.getElem?_eq_getElem hk⟩)
  obtain ⟨n, hn⟩ : ∃ n, l.length = n := ⟨_, rfl⟩
  have HNN := Lib.hid hn
  rw [hn] at hl hlc HGE ⊢
  clear hs hn
  go_enter Tryd.func86, Tryd.ntmps86
  go_wp2_with fail
  go_loopw [9] (fun v9 wr => ∃ k : Nat, v9 = .int .i64 (k : Int) ∧ k ≤ n ∧ Hid (∀ t s, t < k → l[t]? = some s → badS t s = false) ∧ Hid (Chg [] w wr)) (fun v _ => n - (intOf v).toNat)
  case atStart => exact ⟨0, rfl, Nat.zero_le _, Lib.hid (fun t s ht => by omega), Lib.hid (Chg.refl _ _)⟩
  case round =>
    obtain ⟨k, rfl, hk, HB, HC⟩ := hrel
    by_cases hlt : k < n
    · have e1 : (k : Int) < n := Int.ofNat_lt.2 hlt
      have e0 : (0 : Int) ≤ k := Int.natCast_nonneg _
      have hkc : k < sc := by omega
      obtain ⟨s, hsk⟩ := HGE.out k hlt
      obtain ⟨a, rfl, hld⟩ := HST.out k s hsk wr HC.out
      obtain ⟨s1, s2, s3, s4, s5⟩ := s
      have HSK := Lib.hid hsk
      simp only [StepV.cells] at hld
      have CA := Chg.alloc [] wr (.cells #[.int .i64 s1, .int .i64 s2, .string s3, .int .i64 s4, .int .i64 s5] 85)
      have hx4 := heap_alloc_new wr (.cells #[.int .i64 s1, .int .i64 s2, .string s3, .int .i64 s4, .int .i64 s5] 85)
      clear hsk
      go_upto_region 4 with (refine wpList_load_y 85 (.tmp 12) rfl (by go_simp) (.pointer (some (a.add (k * 5)))) (.agg #[.int .i64 s1, .int .i64 s2, .string s3, .int .i64 s4, .int .i64 s5]) hld rfl ?_)
      obtain ⟨q, hq⟩ : ∃ q, wr.heap.size = q := ⟨_, rfl⟩
      rw [hq] at hx4 ⊢
      generalize wr.alloc (.cells #[.int .i64 s1, .int .i64 s2, .string s3, .int .i64 s4, .int .i64 s5] 85) = w4 at *
      have c0 : w4.cell? ⟨q, 0, none⟩ = some (.int .i64 s1) := by rw [cell_of_row _ _ _ _ _ _ hx4]; rfl
      have c1 : w4.cell? ⟨q, 1, none⟩ = some (.int .i64 s2) := by rw [cell_of_row _ _ _ _ _ _ hx4]; rfl
      have c4 : w4.cell? ⟨q, 4, none⟩ = some (.int .i64 s5) := by rw [cell_of_row _ _ _ _ _ _ hx4]; rfl
      have HC4 := Lib.hid (HC.out.trans CA (by simp))
      clear hld hx4 CA hq
      by_cases h1 : s1 = (k : Int)
      · by_cases h2 : s2 < 1
        · have HBD : Hid (badS k ⟨s1, s2, s3, s4, s5⟩ = true) := Lib.hid (by unfold badS; simp only []; rw [decide_eq_true_iff]; omega)
          have HR : Hid (mayB l many = false) := Lib.hid (mayB_bad HSK.out HBD.out)
          clear HB
          go_wp2_with fail
          go_ret
          exact ⟨by rw [HR.out]; rfl, HC4.out⟩
        · by_cases h3 : 4 < s2
          · have HBD : Hid (badS k ⟨s1, s2, s3, s4, s5⟩ = true) := Lib.hid (by unfold badS; simp only []; rw [decide_eq_true_iff]; omega)
            have HR : Hid (mayB l many = false) := Lib.hid (mayB_bad HSK.out HBD.out)
            clear HB
            go_wp2_with fail
            go_ret
            exact ⟨by rw [HR.out]; rfl, HC4.out⟩
          · by_cases h4 : s2 = 3
            · by_cases h5 : s5 < 0
              · have HBD : Hid (badS k ⟨s1, s2, s3, s4, s5⟩ = true) := Lib.hid (by unfold badS; simp only []; rw [decide_eq_true_iff]; omega)
                have HR : Hid (mayB l many = false) := Lib.hid (mayB_bad HSK.out HBD.out)
                clear HB
                go_wp2_with fail
                go_ret
                exact ⟨by rw [HR.out]; rfl, HC4.out⟩
              · by_cases h6 : (k : Int) ≤ s5
                · have HBD : Hid (badS k ⟨s1, s2, s3, s4, s5⟩ = true) := Lib.hid (by unfold badS; simp only []; rw [decide_eq_true_iff]; omega)
                  have HR : Hid (mayB l many = false) := Lib.hid (mayB_bad HSK.out HBD.out)
                  clear HB
                  go_wp2_with fail
                  go_ret
                  exact ⟨by rw [HR.out]; rfl, HC4.out⟩
                · have HBD : Hid (badS k ⟨s1, s2, s3, s4, s5⟩ = false) := Lib.hid (by unfold badS; simp only []; rw [decide_eq_false_iff_not]; omega)
                  have HB2 : Hid (∀ t s, t < k + 1 → l[t]? = some s → badS t s = false) := Lib.hid (fun t s ht hs => by
                    rcases Nat.lt_succ_iff_lt_or_eq.1 ht with h | h
                    · exact HB.out t s h hs
                    · subst h
                      rw [HSK.out] at hs
                      cases hs
                      exact HBD.out)
                  clear HB
                  go_wp2_with fail
                  go_roundw
                  case rel => exact ⟨k + 1, by go_num, hlt, HB2, HC4⟩
                  case measure => simp [intOf] <;> omega
            · have HBD : Hid (badS k ⟨s1, s2, s3, s4, s5⟩ = false) := Lib.hid (by unfold badS; simp only []; rw [decide_eq_false_iff_not]; omega)
              have HB2 : Hid (∀ t s, t < k + 1 → l[t]? = some s → badS t s = false) := Lib.hid (fun t s ht hs => by
                rcases Nat.lt_succ_iff_lt_or_eq.1 ht with h | h
                · exact HB.out t s h hs
                · subst h
                  rw [HSK.out] at hs
                  cases hs
                  exact HBD.out)
              clear HB
              go_wp2_with fail
              go_roundw
              case rel => exact ⟨k + 1, by go_num, hlt, HB2, HC4⟩
              case measure => simp [intOf] <;> omega
      · have HBD : Hid (badS k ⟨s1, s2, s3, s4, s5⟩ = true) := Lib.hid (by unfold badS; simp only []; rw [decide_eq_true_iff]; omega)
        have HR : Hid (mayB l many = false) := Lib.hid (mayB_bad HSK.out HBD.out)
        clear HB
        go_wp2_with fail
        go_ret
        exact ⟨by rw [HR.out]; rfl, HC4.out⟩
    · have e1 : ¬ (k : Int) < n := fun h => hlt (Int.ofNat_lt.1 h)
      have hkn : k = n := by omega
      have HR : Hid (mayB l many = decide (n = many)) := Lib.hid (by rw [mayB_all (fun t s ht hs => HB.out t s (by rw [hkn, ← HNN.out]; exact ht) hs), HNN.out])
      clear HB hkn
      by_cases hm : n = many
      · have HR2 : Hid (mayB l many = true) := Lib.hid (by rw [HR.out, decide_eq_true hm])
        subst hm
        go_wp2_with fail
        go_ret
        exact ⟨by rw [HR2.out]; rfl, HC.out⟩
      · have HR2 : Hid (mayB l many = false) := Lib.hid (by rw [HR.out, decide_eq_false hm])
        have hm2 : ¬ (n : Int) = (many : Int) := by omega
        have hm3 : ((n : Int) == (many : Int)) = false := by simp; omega
        go_wp2_with fail
        go_ret
        exact ⟨by rw [HR2.out]; rfl, HC.out⟩
end Go.Proofs.YtfdhpjflkimihaaDoor
/- The law's step, walked. No conditions beyond those that each statement types. -/
namespace Go.Proofs.YtfdhpjflkimihaaDoor
open Go.RowKit

theorem infoStepR : (Tryd.prog.info? 93).map (·.size) = some 5 := by kernel_rfl
set_option maxRecDepth 100000 in
set_option maxHeartbeats 4000000 in
theorem lw_step (s : StepV) (w : World) : Calls Tryd.prog 48 #[.agg s.cells] w fun e w' => e = .returned (.agg s.cells) ∧ Chg [] w w' := by
  obtain ⟨s1, s2, s3, s4, s5⟩ := s
  have C1 := Chg.alloc [] w (.cells #[.int .i64 s1, .int .i64 s2, .string s3, .int .i64 s4, .int .i64 s5] 85)
  have x1 := heap_alloc_new w (.cells #[.int .i64 s1, .int .i64 s2, .string s3, .int .i64 s4, .int .i64 s5] 85)
  have C2 := Chg.alloc [] (w.alloc (.cells #[.int .i64 s1, .int .i64 s2, .string s3, .int .i64 s4, .int .i64 s5] 85)) (.cells #[.int .i64 0, .int .i64 0, .string ⟨#[]⟩, .int .i64 0, .int .i64 0] 93)
  have x2 := heap_alloc_new (w.alloc (.cells #[.int .i64 s1, .int .i64 s2, .string s3, .int .i64 s4, .int .i64 s5] 85)) (.cells #[.int .i64 0, .int .i64 0, .string ⟨#[]⟩, .int .i64 0, .int .i64 0] 93)
  have sz : (w.alloc (.cells #[.int .i64 s1, .int .i64 s2, .string s3, .int .i64 s4, .int .i64 s5] 85)).heap.size = w.heap.size + 1 := by simp
  rw [sz] at x2
  have x1' := (C2.block _ (lt_of_block x1) (by simp)).trans x1
  simp only [StepV.cells]
  go_enter Tryd.func48, Tryd.ntmps48
  go_upto_region 1 with (fail)
  obtain ⟨q, hq⟩ : ∃ q, w.heap.size = q := ⟨_, rfl⟩
  rw [hq] at x1' x2 sz
  try rw [hq]
  try rw [sz]
  have C0 := C1.trans C2 (by simp)
  generalize (w.alloc (.cells #[.int .i64 s1, .int .i64 s2, .string s3, .int .i64 s4, .int .i64 s5] 85)).alloc (.cells #[.int .i64 0, .int .i64 0, .string ⟨#[]⟩, .int .i64 0, .int .i64 0] 93) = w1 at *
  have hc : w1.cell? ⟨q, 0, none⟩ = some (.int .i64 s1) ∧ w1.cell? ⟨q, 1, none⟩ = some (.int .i64 s2) ∧ w1.cell? ⟨q, 2, none⟩ = some (.string s3) ∧ w1.cell? ⟨q, 3, none⟩ = some (.int .i64 s4) ∧ w1.cell? ⟨q, 4, none⟩ = some (.int .i64 s5) := by
    refine ⟨?_, ?_, ?_, ?_, ?_⟩ <;> (rw [cell_of_row _ _ _ _ _ _ x1']; rfl)
  obtain ⟨c0, c1, c2, c3, c4⟩ := hc
  have hst := run_storeAt_row (P := Tryd.prog) w1 (q + 1) _ 93 _ #[.int .i64 s1, .int .i64 s2, .string s3, .int .i64 s4, .int .i64 s5] x2 infoStepR rfl (by simp [Value.oneCell'])
  have hh := setRow_heap w1 (q + 1) _ #[.int .i64 s1, .int .i64 s2, .string s3, .int .i64 s4, .int .i64 s5] _ _ x2
  have CF : Chg [] w (w1.setRow (q + 1) #[.int .i64 s1, .int .i64 s2, .string s3, .int .i64 s4, .int .i64 s5]) := C0.trans (Chg.setRow (S := [q + 1]) w1 (q + 1) _ (.inl (by simp))) (fun j hj => by simp at hj; omega)
  clear C1 C2 x1 sz
  go_wp2_with (refine wpList_store_y 93 (.tmp 2) (.tmp 15) rfl (by first | rfl | go_simp) (.pointer (some ⟨q + 1, 0, none⟩)) (.agg #[.int .i64 s1, .int .i64 s2, .string s3, .int .i64 s4, .int .i64 s5]) _ hst rfl rfl ?_)
  exact bodyPost_ret (v := .agg #[.int .i64 s1, .int .i64 s2, .string s3, .int .i64 s4, .int .i64 s5]) (results_cell_row rfl _ _ _ _ #[.int .i64 s1, .int .i64 s2, .string s3, .int .i64 s4, .int .i64 s5] _ _ rfl hh Tryd.underlying93 rfl infoStepR) rfl ⟨rfl, CF⟩
end Go.Proofs.YtfdhpjflkimihaaDoor
/- What was got, and slices.IndexFunc of it, walked. No conditions beyond those that each statement types. -/
namespace Go.Proofs.YtfdhpjflkimihaaDoor
open Go.RowKit

/-- A block that was got. -/
structure GotV where
  block : Int
  ao : Option Addr
  xs : List UInt8
  cap : Nat
def GotV.cells (g : GotV) : Array Value := #[.int .i64 g.block, .slice g.ao g.xs.length g.cap]
def gvs (l : List GotV) : List Value := l.flatMap fun g => g.cells.toList
theorem gvs_len (l : List GotV) : (gvs l).length = l.length * 2 := flat_length (enc := fun g : GotV => g.cells.toList) (size := 2) (fun _ => rfl) l
theorem infoGot : (Tryd.prog.info? 104).map (·.size) = some 2 := by kernel_rfl
theorem load_got {w : World} {a : Addr} {l : List GotV} (hs : Src w (some a) (gvs l)) {i : Nat} {s : GotV} (h : l[i]? = some s) :
    (Instr.loadAt 104 (.pointer (some (a.add (i * 2))))).run Tryd.prog w = .ok (.agg s.cells) w := by
  have h := src_flat (w := w) (a := a) (cells := fun s : GotV => s.cells.toList) (size := 2) (fun _ => rfl) (hs.cell a rfl) h
  exact run_loadAt_any _ _ s.cells.toList _ h Tryd.underlying104 rfl infoGot
def gotIx (G : List GotV) (i : Int) : Option Nat := G.findIdx? fun g => decide (g.block = i)
def ixZ : Option Nat → Int
  | none => -1
  | some k => k
theorem gotIx_at {G : List GotV} {i : Int} {k : Nat} {g : GotV} (hk : G[k]? = some g) (hg : g.block = i) (hb : ∀ (t : Nat) (x : GotV), t < k → G[t]? = some x → x.block ≠ i) : gotIx G i = some k := by
  unfold gotIx
  rw [List.findIdx?_eq_some_iff_getElem]
  obtain ⟨h, rfl⟩ := List.getElem?_eq_some_iff.1 hk
  refine ⟨h, by simpa using hg, fun j hj => ?_⟩
  have := hb j G[j] hj (List.getElem?_eq_getElem (by omega))
  simpa using this
theorem gotIx_no {G : List GotV} {i : Int} (hb : ∀ (t : Nat) (x : GotV), G[t]? = some x → x.block ≠ i) : gotIx G i = none := by
  unfold gotIx
  rw [List.findIdx?_eq_none_iff]
  intro x hx
  obtain ⟨t, h, rfl⟩ := List.getElem_of_mem hx
  simpa using hb t _ (List.getElem?_eq_getElem h)
theorem gotIx_lt {G : List GotV} {i : Int} {k : Nat} (h : gotIx G i = some k) : ∃ g, G[k]? = some g ∧ g.block = i := by
  unfold gotIx at h
  rw [List.findIdx?_eq_some_iff_getElem] at h
  obtain ⟨h1, h2, _⟩ := h
  exact ⟨_, List.getElem?_eq_getElem h1, by simpa using h2⟩

theorem cp_named (g : GotV) (i : Int) (q : Nat) (w : World) (h : w.cell? ⟨q, 0, none⟩ = some (.int .i64 i)) :
    Calls Tryd.prog 89 #[.agg g.cells, .pointer (some ⟨q, 0, none⟩)] w fun e w' => e = .returned (.bool (decide (g.block = i))) ∧ Chg [] w w' := by
  obtain ⟨b, ao, xs, c⟩ := g
  have C1 := Chg.alloc [] w (.cells #[.int .i64 b, .slice ao xs.length c] 104)
  have h' := C1.cell_some h (by simp)
  have hx := heap_alloc_new w (.cells #[.int .i64 b, .slice ao xs.length c] 104)
  have z0 : (w.alloc (.cells #[.int .i64 b, .slice ao xs.length c] 104)).cell? ⟨w.heap.size, 0, none⟩ = some (.int .i64 b) := by rw [cell_of_row _ _ _ _ _ _ hx]; rfl
  simp only [GotV.cells]
  clear hx
  go_enter Tryd.func89, Tryd.ntmps89
  go_wp2_with fail
  go_ret
  exact ⟨by congr, C1⟩

set_option maxRecDepth 100000 in
set_option maxHeartbeats 4000000 in
theorem cp_index (G : List GotV) (i : Int) (so : Option Addr) (c q : Nat) (w : World) (hs : Src w so (gvs G)) (hlc : G.length ≤ c) (hl : G.length ≤ 1000000) (hb : w.cell? ⟨q, 0, none⟩ = some (.int .i64 i)) :
    Calls Tryd.prog 88 #[.slice so G.length c, .func (.func 89) #[] #[.pointer (some ⟨q, 0, none⟩)]] w fun e w' => e = .returned (.int .i64 (ixZ (gotIx G i))) ∧ Chg [] w w' := by
  have HST := Lib.hid (fun (k : Nat) (s : GotV) (h : G[k]? = some s) (wr : World) (C : Chg [] w wr) => show ∃ a, so = some a ∧ (Instr.loadAt 104 (.pointer (some (a.add (k * 2))))).run Tryd.prog wr = .ok (.agg s.cells) wr from by
    obtain ⟨a, rfl, _⟩ := hs.lt (by
      have h1 := (List.getElem?_eq_some_iff.1 h).1
      rw [gvs_len]
      omega)
    exact ⟨a, rfl, load_got (hs.chg C (by simp)) h⟩)
  have HGE := Lib.hid (fun k (hk : k < G.length) => show ∃ s, G[k]? = some s from ⟨_, List.getElem?_eq_getElem hk⟩)
  have HB := Lib.hid (fun wr (C : Chg [] w wr) (g : GotV) => cp_named g i q wr (C.cell_some hb (by simp)))
  have HAT := Lib.hid (fun (k : Nat) (g : GotV) (h : G[k]? = some g) => gotIx_at (i := i) h)
  have HNO := Lib.hid (gotIx_no (G := G) (i := i))
  have HNL := Lib.hid (fun (k : Nat) (h : ¬ k < G.length) => List.getElem?_eq_none (by omega : G.length ≤ k))
  obtain ⟨n, hn⟩ : ∃ n, G.length = n := ⟨_, rfl⟩
  rw [hn] at hl hlc HGE HNL ⊢
  clear hs hn hb
  go_enter Tryd.func88, Tryd.ntmps88
  go_wp2_with fail
  go_loopw [8] (fun v wr => ∃ k : Nat, v = .int .i64 (k : Int) ∧ k ≤ n ∧ Hid (∀ (t : Nat) (x : GotV), t < k → G[t]? = some x → x.block ≠ i) ∧ Hid (Chg [] w wr)) (fun v _ => n - (intOf v).toNat)
  case atStart => exact ⟨0, rfl, Nat.zero_le _, Lib.hid (fun t x ht => by omega), Lib.hid (Chg.refl _ _)⟩
  case round =>
    obtain ⟨k, rfl, hk, HX, HC⟩ := hrel
    by_cases hlt : k < n
    · have e1 : (k : Int) < n := Int.ofNat_lt.2 hlt
      have e0 : (0 : Int) ≤ k := Int.natCast_nonneg _
      have hkc : k < c := by omega
      obtain ⟨g, hg⟩ := HGE.out k hlt
      obtain ⟨a, rfl, hld⟩ := HST.out k g hg wr HC.out
      have KB := Lib.hid (HB.out wr HC.out g)
      have HG := Lib.hid hg
      generalize g.cells = gc at *
      clear hg
      go_wp2_with (refine wpList_load_y 104 (.tmp 14) rfl (by go_simp) (.pointer (some (a.add (k * 2)))) (.agg gc) hld rfl ?_)
      refine KB.out.mono ?_
      rintro e w5 ⟨rfl, C5⟩
      have HC5 := Lib.hid (HC.out.trans C5 (by simp))
      clear C5 hld
      by_cases hB : g.block = i
      · have hK : Hid (ixZ (gotIx G i) = (k : Int)) := Lib.hid (by rw [HAT.out k g HG.out hB HX.out]; rfl)
        have hd : decide (g.block = i) = true := decide_eq_true hB
        rw [hd]
        clear hB hd
        go_wp2_with fail
        go_ret
        exact ⟨by rw [hK.out]; rfl, HC5.out⟩
      · have hd : decide (g.block = i) = false := decide_eq_false hB
        have HX5 : Hid (∀ (t : Nat) (x : GotV), t < k + 1 → G[t]? = some x → x.block ≠ i) := Lib.hid (fun t y ht hy => by
          by_cases hik : t < k
          · exact HX.out t y hik hy
          · have : t = k := by omega
            subst this
            rw [HG.out] at hy
            cases hy
            exact hB)
        rw [hd]
        clear hB hd
        go_wp2_with fail
        go_roundw
        case rel => exact ⟨k + 1, by go_num, hlt, HX5, HC5⟩
        case measure => simp [intOf] <;> omega
    · have e1 : ¬ (k : Int) < n := fun h => hlt (Int.ofNat_lt.1 h)
      have hK : Hid (ixZ (gotIx G i) = -1) := Lib.hid (by
        rw [HNO.out (fun t x hx => HX.out t x (by
          refine Decidable.byContradiction (fun h => ?_)
          rw [HNL.out t (by omega)] at hx
          cases hx) hx)]
        rfl)
      go_wp2_with fail
      go_ret
      exact ⟨by rw [hK.out]; rfl, HC.out⟩
end Go.Proofs.YtfdhpjflkimihaaDoor
/- What is built of a plan, in plain words, and where its parts lie. No conditions beyond those that each statement types. -/
namespace Go.Proofs.YtfdhpjflkimihaaDoor
open Go.RowKit

/-- A part of what is built: of block i, when ps are the parts ahead of it. -/
def partV (r : RecV) (N : Nat) (T : List UInt8) (fo : HKey → Option (Pl × List UInt8)) (G : List GotV) (ps : List (List UInt8)) (i : Nat) (s : StepV) : List UInt8 :=
  if s.from_ = 1 then plT N T i
  else if s.from_ = 2 then fX (fo (hkey (r.dig i)))
  else if s.from_ = 3 then ps.getD s.same.toNat []
  else match gotIx G i with
    | some k => (G.getD k ⟨0, none, [], 0⟩).xs
    | none => []
def partsV (r : RecV) (N : Nat) (T : List UInt8) (fo : HKey → Option (Pl × List UInt8)) (G : List GotV) (l : List StepV) : Nat → List (List UInt8)
  | 0 => []
  | k + 1 => partsV r N T fo G l k ++ [partV r N T fo G (partsV r N T fo G l k) k (l.getD k ⟨0, 0, ⟨#[]⟩, 0, 0⟩)]
theorem partsV_len (r : RecV) (N : Nat) (T : List UInt8) (fo : HKey → Option (Pl × List UInt8)) (G : List GotV) (l : List StepV) (k : Nat) : (partsV r N T fo G l k).length = k := by
  induction k with
  | zero => rfl
  | succ k ih => rw [partsV, List.length_append, ih]; rfl
def badV (r : RecV) (ps : List (List UInt8)) : List Int := ((List.range ps.length).filter fun i => !rightB r i (ps.getD i [])).map (fun i : Nat => (i : Int))
theorem badV_next (r : RecV) (ps : List (List UInt8)) (x : List UInt8) : badV r (ps ++ [x]) = badV r ps ++ if rightB r ps.length x = true then [] else [(ps.length : Int)] := by
  unfold badV
  rw [List.length_append, List.length_singleton, List.range_succ, List.filter_append, List.map_append]
  congr 1
  · congr 1
    refine List.filter_congr (fun i hi => ?_)
    have hi := List.mem_range.1 hi
    rw [List.getD, List.getD, List.getElem?_append_left hi]
  · have e : (ps ++ [x]).getD ps.length [] = x := by rw [List.getD, List.getElem?_append_right (Nat.le_refl _), Nat.sub_self]; rfl
    rw [List.filter_cons, e, List.filter_nil]
    cases rightB r ps.length x <;> rfl
theorem badV_len (r : RecV) (ps : List (List UInt8)) : (badV r ps).length ≤ ps.length := by
  unfold badV
  rw [List.length_map]
  exact Nat.le_trans (List.length_filter_le _ _) (Nat.le_of_eq List.length_range)
/-- What Build answers: the bytes, the bad ones, the error. -/
structure BuiltV where
  out : List UInt8
  bad : List Int
  err : Int
def buildV (r : RecV) (N : Nat) (T : List UInt8) (fo : HKey → Option (Pl × List UInt8)) (G : List GotV) (l : List StepV) : BuiltV :=
  if r.want ≠ 0 then ⟨[], [], r.want⟩
  else if mayB l (cntN N) = false then ⟨[], [], 2⟩
  else if badV r (partsV r N T fo G l l.length) ≠ [] then ⟨[], badV r (partsV r N T fo G l l.length), 14⟩
  else ⟨(partsV r N T fo G l l.length).flatten, [], 0⟩
/-- It is handed back so, in memory of its own. -/
def BuiltTo (w : World) (x : BuiltV) (e : Ending) (w' : World) : Prop :=
  Chg [] w w' ∧ ∃ bo bc no nc, e = .returned (.tuple #[.slice bo x.out.length bc, .slice no x.bad.length nc, .int .i64 x.err]) ∧
    w'.ownsRow 0 5 1 (.slice bo x.out.length bc) x.out.length (bvs x.out) ∧ (∀ k, (Value.slice bo x.out.length bc).ownBlock = some k → w.heap.size ≤ k) ∧
    w'.ownsRow 0 3 1 (.slice no x.bad.length nc) x.bad.length (nvs x.bad) ∧ (∀ k, (Value.slice no x.bad.length nc).ownBlock = some k → w.heap.size ≤ k)
/-- A slice of bytes that is there, in none of the blocks of X. -/
def PV (w : World) (X : List Nat) (v : Value) (xs : List UInt8) : Prop :=
  ∃ po pc, v = .slice po xs.length pc ∧ Src w po (bvs xs) ∧ xs.length ≤ pc ∧ (po = none → pc = 0) ∧ (0 < xs.length → ∀ a, po = some a → a.block ∉ X ∧ a.block < w.heap.size)
theorem PV.chg {w w' : World} {X S : List Nat} {v : Value} {xs : List UInt8} (h : PV w X v xs) (C : Chg S w w') (hS : ∀ k ∈ S, k ∈ X ∨ w.heap.size ≤ k) : PV w' X v xs := by
  obtain ⟨po, pc, e, h1, h2, h3, h4⟩ := h
  refine ⟨po, pc, e, h1.chgN C (fun hp a ha hm => ?_), h2, h3, fun hp a ha => ⟨(h4 hp a ha).1, Nat.lt_of_lt_of_le (h4 hp a ha).2 C.size⟩⟩
  rw [bvs_length] at hp
  rcases hS _ hm with h | h
  · exact (h4 hp a ha).1 h
  · exact absurd (h4 hp a ha).2 (by omega)
theorem PV.grow {w : World} {X Y : List Nat} {v : Value} {xs : List UInt8} (h : PV w X v xs) (hY : ∀ k ∈ Y, k ∈ X ∨ w.heap.size ≤ k) : PV w Y v xs := by
  obtain ⟨po, pc, e, h1, h2, h3, h4⟩ := h
  refine ⟨po, pc, e, h1, h2, h3, fun hp a ha => ⟨fun hm => ?_, (h4 hp a ha).2⟩⟩
  rcases hY _ hm with h | h
  · exact (h4 hp a ha).1 h
  · exact absurd (h4 hp a ha).2 (by omega)
theorem PV.nil (w : World) (X : List Nat) : PV w X (.slice none 0 0) [] := ⟨_, 0, rfl, Src.empty _ _, Nat.le_refl _, fun _ => rfl, fun _ a h => by cases h⟩
/-- Bytes of the call's own. -/
theorem PV.own {w : World} {X : List Nat} {po : Option Addr} {pc : Nat} {xs : List UInt8} (h : w.ownsRow 0 5 1 (.slice po xs.length pc) xs.length (bvs xs)) (hX : ∀ k, (Value.slice po xs.length pc).ownBlock = some k → k ∉ X) : PV w X (.slice po xs.length pc) xs := by
  obtain ⟨ao, c, hv, hc, h0⟩ := ownsRow_slice h
  cases hv
  refine ⟨po, pc, rfl, ownsRow_src h, hc, fun h => (h0 h).2, fun _ a ha => ?_⟩
  subst ha
  rcases h.2 with ⟨hv, _⟩ | ⟨g, cap, cur, hv, _⟩
  · cases hv
  · cases hv
    exact ⟨hX g rfl, ownsRow_lt h g rfl⟩
/-- What was got, and what lies there. -/
structure GotsAt (w : World) (so : Option Addr) (c : Nat) (G : List GotV) : Prop where
  src : Src w so (gvs G)
  cap : G.length ≤ c
  nil : so = none → c = 0
  at_ : ∀ (k : Nat) (g : GotV), G[k]? = some g → PV w [] (.slice g.ao g.xs.length g.cap) g.xs
theorem GotsAt.chg {w w' : World} {so : Option Addr} {c : Nat} {G : List GotV} (h : GotsAt w so c G) (C : Chg [] w w') : GotsAt w' so c G :=
  ⟨h.src.chg C (by simp), h.cap, h.nil, fun k g hg => (h.at_ k g hg).chg C (by simp)⟩
theorem PV.short {w : World} {X : List Nat} {v : Value} {xs : List UInt8} (h : PV w X v xs) : ∃ po pc, v = .slice po xs.length pc ∧ xs.length ≤ pc ∧ (po = none → pc = 0) := by
  obtain ⟨po, pc, e, _, h2, h3, _⟩ := h
  exact ⟨po, pc, e, h2, h3⟩
/-- Between the rounds of Build: the row of parts, the bytes, the bad ones. -/
def forb (q : Nat) (u v : Value) : List Nat := q :: (u.ownBlock.toList ++ v.ownBlock.toList)
structure BSt (w2 wr : World) (q n : Nat) (ps : List (List UInt8)) (xs : List UInt8) (bad : List Int) (u v : Value) : Prop where
  C : Chg [q] w2 wr
  lq : q < w2.heap.size
  out : wr.ownsRow 0 5 1 u xs.length (bvs xs)
  outN : ∀ k, u.ownBlock = some k → w2.heap.size ≤ k
  bad : wr.ownsRow 0 3 1 v bad.length (nvs bad)
  badN : ∀ k, v.ownBlock = some k → w2.heap.size ≤ k
  row : ∃ pf, wr.rowIs q 25 n pf ∧ (∀ j x, ps[j]? = some x → PV wr (forb q u v) (pf j) x) ∧ ∀ j, ps.length ≤ j → j < n → pf j = .slice none 0 0
theorem nvs_len (l : List Int) : (nvs l).length = l.length := by simp [nvs]
theorem BSt.keep {w2 wr w' : World} {q n : Nat} {ps : List (List UInt8)} {xs : List UInt8} {bad : List Int} {u v : Value} (h : BSt w2 wr q n ps xs bad u v) (C : Chg [] wr w') : BSt w2 w' q n ps xs bad u v := by
  obtain ⟨pf, h1, h2, h3⟩ := h.row
  exact ⟨h.C.trans C (by simp), h.lq, ownsRow_chg h.out C (by simp), h.outN, ownsRow_chg h.bad C (by simp), h.badN, pf, h1.of_block (C.block q h1.lt (by simp)), fun j x hx => (h2 j x hx).chg C (by simp), h3⟩
theorem BSt.own_ne {w2 wr : World} {q n : Nat} {ps : List (List UInt8)} {xs : List UInt8} {bad : List Int} {u v : Value} (h : BSt w2 wr q n ps xs bad u v) : u.ownBlock ≠ some q ∧ v.ownBlock ≠ some q := by
  refine ⟨fun e => ?_, fun e => ?_⟩
  · have := h.outN q e; have := h.lq; omega
  · have := h.badN q e; have := h.lq; omega
theorem BSt.own_two {w2 wr : World} {q n : Nat} {ps : List (List UInt8)} {xs : List UInt8} {bad : List Int} {u v : Value} (h : BSt w2 wr q n ps xs bad u v) {k : Nat} (hu : u.ownBlock = some k) (hv : v.ownBlock = some k) : False := by
  rcases h.out.2 with ⟨rfl, _⟩ | ⟨g, cap, cur, rfl, _, hg, _⟩
  · cases hu
  · cases hu
    exact ownsRow_ne h.bad hg (by decide) hv
theorem BSt.put {w2 wr : World} {q n : Nat} {ps : List (List UInt8)} {xs : List UInt8} {bad : List Int} {u v : Value} (h : BSt w2 wr q n ps xs bad u v) {pv : Value} {x : List UInt8} (hp : PV wr (forb q u v) pv x) :
    BSt w2 (wr.setCell ⟨q, ps.length, none⟩ pv) q n (ps ++ [x]) xs bad u v := by
  obtain ⟨pf, h1, h2, h3⟩ := h.row
  have C : Chg [q] wr (wr.setCell ⟨q, ps.length, none⟩ pv) := Chg.setCell _ _ _ (.inl (by simp))
  obtain ⟨n1, n2⟩ := h.own_ne
  have hn : ∀ k ∈ [q], k ∈ forb q u v ∨ wr.heap.size ≤ k := fun k hk => .inl (by rw [List.mem_singleton.1 hk]; exact List.mem_cons_self)
  refine ⟨h.C.trans C (by simp), h.lq, ownsRow_chg h.out C (fun k hk hm => n1 (by rw [hk, List.mem_singleton.1 hm])), h.outN, ownsRow_chg h.bad C (fun k hk hm => n2 (by rw [hk, List.mem_singleton.1 hm])), h.badN, _, h1.set ps.length pv, ?_, fun j hj hn => by
    rw [List.length_append, List.length_singleton] at hj
    simp only [if_neg (show ¬ j = ps.length by omega)]
    exact h3 j (by omega) hn⟩
  intro j y hy
  by_cases hj : j = ps.length
  · subst hj
    rw [List.getElem?_append_right (Nat.le_refl _), Nat.sub_self] at hy
    cases hy
    simp only [if_true]
    exact hp.chg C hn
  · simp only [if_neg hj]
    refine (h2 j y ?_).chg C hn
    have hl := (List.getElem?_eq_some_iff.1 hy).1
    rw [List.length_append, List.length_singleton] at hl
    rwa [List.getElem?_append_left (by omega)] at hy
/-- A part that stays nil. -/
theorem BSt.skip {w2 wr : World} {q n : Nat} {ps : List (List UInt8)} {xs : List UInt8} {bad : List Int} {u v : Value} (h : BSt w2 wr q n ps xs bad u v) (hk : ps.length < n) : BSt w2 wr q n (ps ++ [[]]) xs bad u v := by
  obtain ⟨pf, h1, h2, h3⟩ := h.row
  refine ⟨h.C, h.lq, h.out, h.outN, h.bad, h.badN, pf, h1, ?_, fun j hj hn => h3 j (by rw [List.length_append] at hj; omega) hn⟩
  intro j y hy
  by_cases hj : j = ps.length
  · subst hj
    rw [List.getElem?_append_right (Nat.le_refl _), Nat.sub_self] at hy
    cases hy
    rw [h3 _ (Nat.le_refl _) hk]
    exact PV.nil _ _
  · have hl := (List.getElem?_eq_some_iff.1 hy).1
    rw [List.length_append, List.length_singleton] at hl
    refine h2 j y ?_
    rwa [List.getElem?_append_left (by omega)] at hy
/-- What lies in the row. -/
theorem BSt.cell {w2 wr : World} {q n : Nat} {ps : List (List UInt8)} {xs : List UInt8} {bad : List Int} {u v : Value} (h : BSt w2 wr q n ps xs bad u v) {j : Nat} (hj : j < n) : ∃ pv, wr.cell? ⟨q, j, none⟩ = some pv ∧ wr.frozen? ⟨q, j, none⟩ = false ∧ (∀ x, ps[j]? = some x → PV wr (forb q u v) pv x) := by
  obtain ⟨pf, h1, h2, h3⟩ := h.row
  exact ⟨_, h1.cell hj, h1.frozen j, fun x hx => h2 j x hx⟩
theorem forb_lt {w2 wr : World} {q n : Nat} {ps : List (List UInt8)} {xs : List UInt8} {bad : List Int} {u v : Value} (h : BSt w2 wr q n ps xs bad u v) : ∀ k ∈ forb q u v, k < wr.heap.size ∧ (k = q ∨ w2.heap.size ≤ k) := by
  intro k hk
  simp only [forb, List.mem_append, List.mem_cons, Option.mem_toList] at hk
  rcases hk with rfl | hk | hk
  · exact ⟨Nat.lt_of_lt_of_le h.lq h.C.size, .inl rfl⟩
  · exact ⟨ownsRow_lt h.out k hk, .inr (h.outN k hk)⟩
  · exact ⟨ownsRow_lt h.bad k hk, .inr (h.badN k hk)⟩
theorem BSt.out_to {w2 wr w' : World} {q n m c : Nat} {ps : List (List UInt8)} {xs x : List UInt8} {bad : List Int} {u v : Value} {ao : Option Addr} (h : BSt w2 wr q n ps xs bad u v) (hm : m = (xs ++ x).length) (ho : w'.ownsRow 0 5 1 (.slice ao m c) m (bvs xs ++ bvs x))
    (hg : wr.grownBy w' u.ownBlock) (hb : (Value.slice ao m c).ownBlock = u.ownBlock ∨ (Value.slice ao m c).ownBlock = some wr.heap.size) : BSt w2 w' q n ps (xs ++ x) bad (.slice ao m c) v := by
  subst hm
  obtain ⟨pf, h1, h2, h3⟩ := h.row
  obtain ⟨n1, n2⟩ := h.own_ne
  have C : Chg u.ownBlock.toList wr w' := Chg.grown hg (fun k hk => .inl (by simp [hk]))
  have hq : q ∉ u.ownBlock.toList := fun hm => n1 (by simpa using hm)
  have hsz := h.C.size
  refine ⟨h.C.trans C (fun k hk => .inr (h.outN k (by simpa using hk))), h.lq, by rw [bvs_append]; exact ho, fun k hk => ?_, ownsRow_chg h.bad C (fun k hk hm => h.own_two (by simpa using hm) hk), h.badN, pf, h1.of_block (C.block q h1.lt hq), fun j y hy => ?_, h3⟩
  · rcases hb with e | e
    · exact h.outN k (by rw [← e]; exact hk)
    · rw [e] at hk; cases hk; exact hsz
  · refine ((h2 j y hy).grow (Y := forb q (.slice ao (xs ++ x).length c) v ++ u.ownBlock.toList) (fun k hk => ?_)).chg C (fun k hk => .inl (by simp only [List.mem_append]; exact .inr hk)) |>.grow (fun k hk => .inl (by simp only [List.mem_append]; exact .inl hk))
    simp only [forb, List.mem_append, List.mem_cons, Option.mem_toList] at hk ⊢
    rcases hk with (hk | hk | hk) | hk
    · exact .inl (.inl hk)
    · rcases hb with e | e
      · exact .inl (.inr (.inl (by rw [← e]; exact hk)))
      · rw [e] at hk; cases hk; exact .inr (Nat.le_refl _)
    · exact .inl (.inr (.inr hk))
    · exact .inl (.inr (.inl hk))
theorem BSt.bad_to {w2 wr w' : World} {q n m c : Nat} {ps : List (List UInt8)} {xs : List UInt8} {bad : List Int} {b : Int} {u v : Value} {ao : Option Addr} (h : BSt w2 wr q n ps xs bad u v) (hm : m = (bad ++ [b]).length) (ho : w'.ownsRow 0 3 1 (.slice ao m c) m (nvs bad ++ [.int .i64 b]))
    (hg : wr.grownBy w' v.ownBlock) (hb : (Value.slice ao m c).ownBlock = v.ownBlock ∨ (Value.slice ao m c).ownBlock = some wr.heap.size) : BSt w2 w' q n ps xs (bad ++ [b]) u (.slice ao m c) := by
  subst hm
  obtain ⟨pf, h1, h2, h3⟩ := h.row
  obtain ⟨n1, n2⟩ := h.own_ne
  have C : Chg v.ownBlock.toList wr w' := Chg.grown hg (fun k hk => .inl (by simp [hk]))
  have hq : q ∉ v.ownBlock.toList := fun hm => n2 (by simpa using hm)
  have hsz := h.C.size
  refine ⟨h.C.trans C (fun k hk => .inr (h.badN k (by simpa using hk))), h.lq, ownsRow_chg h.out C (fun k hk hm => h.own_two hk (by simpa using hm)), h.outN, by rw [nvs_append]; exact ho, fun k hk => ?_, pf, h1.of_block (C.block q h1.lt hq), fun j y hy => ?_, h3⟩
  · rcases hb with e | e
    · exact h.badN k (by rw [← e]; exact hk)
    · rw [e] at hk; cases hk; exact hsz
  · refine ((h2 j y hy).grow (Y := forb q u (.slice ao (bad ++ [b]).length c) ++ v.ownBlock.toList) (fun k hk => ?_)).chg C (fun k hk => .inl (by simp only [List.mem_append]; exact .inr hk)) |>.grow (fun k hk => .inl (by simp only [List.mem_append]; exact .inl hk))
    simp only [forb, List.mem_append, List.mem_cons, Option.mem_toList] at hk ⊢
    rcases hk with (hk | hk | hk) | hk
    · exact .inl (.inl hk)
    · exact .inl (.inr (.inl hk))
    · rcases hb with e | e
      · exact .inl (.inr (.inr (by rw [← e]; exact hk)))
      · rw [e] at hk; cases hk; exact .inr (Nat.le_refl _)
    · exact .inl (.inr (.inr hk))
end Go.Proofs.YtfdhpjflkimihaaDoor
/- The copier's Build, walked. No conditions beyond those that each statement types. -/
namespace Go.Proofs.YtfdhpjflkimihaaDoor
open Go.RowKit

theorem infoBytesU : (Tryd.prog.info? 25).map (fun i => (i.zero, i.size, i.bytes)) = some (some (.slice none 0 0), 1, 24) := by kernel_rfl
theorem infoByteU : (Tryd.prog.info? 5).map (fun i => (i.zero, i.size, i.bytes)) = some (some (.int .u8 0), 1, 1) := by kernel_rfl
theorem BuiltTo.none (w w' : World) (e : Int) (C : Chg [] w w') : BuiltTo w ⟨[], [], e⟩ (.returned (.tuple #[.slice none 0 0, .slice none 0 0, .int .i64 e])) w' :=
  ⟨C, Option.none, 0, Option.none, 0, rfl, World.ownsRow_nil _ _ _ _, (fun (k : Nat) (hk : Option.none = some k) => by cases hk), World.ownsRow_nil _ _ _ _, (fun (k : Nat) (hk : Option.none = some k) => by cases hk)⟩
theorem mayB_true {l : List StepV} {n : Nat} (h : mayB l n = true) : l.length = n ∧ ∀ (k : Nat) (s : StepV), l[k]? = some s → badS k s = false := by
  have hk : ∀ (k : Nat) (s : StepV), l[k]? = some s → badS k s = false := fun k s hs => by
    cases hb : badS k s with
    | false => rfl
    | true => rw [mayB_bad hs hb] at h; cases h
  rw [mayB_all (fun t s _ hs => hk t s hs)] at h
  exact ⟨of_decide_eq_true h, hk⟩
theorem badS_no {k : Nat} {s : StepV} (h : badS k s = false) : s.block = (k : Int) ∧ 1 ≤ s.from_ ∧ s.from_ ≤ 4 ∧ (s.from_ = 3 → 0 ≤ s.same ∧ s.same < (k : Int)) := by
  unfold badS at h
  have h := of_decide_eq_false h
  omega
theorem partV_short {r : RecV} {N : Nat} {T : List UInt8} {fo : HKey → Option (Pl × List UInt8)} {G : List GotV} (hfo : ∀ k, (fX (fo k)).length ≤ 128) (hG : ∀ (k : Nat) (g : GotV), G[k]? = some g → g.xs.length ≤ 1000000) (ps : List (List UInt8)) (hp : ∀ x ∈ ps, x.length ≤ 1000000) (i : Nat) (s : StepV) :
    (partV r N T fo G ps i s).length ≤ 1000000 := by
  unfold partV
  split
  · exact Nat.le_trans (plT_128 N T i) (by decide)
  · split
    · exact Nat.le_trans (hfo _) (by decide)
    · split
      · rw [List.getD]
        cases h : ps[s.same.toNat]? with
        | none => exact Nat.zero_le _
        | some x => exact hp x (List.mem_of_getElem? h)
      · split
        · rename_i k hk
          obtain ⟨g, hg, _⟩ := gotIx_lt hk
          rw [List.getD, hg]
          exact hG k g hg
        · exact Nat.zero_le _
theorem partsV_short {r : RecV} {N : Nat} {T : List UInt8} {fo : HKey → Option (Pl × List UInt8)} {G : List GotV} (hfo : ∀ k, (fX (fo k)).length ≤ 128) (hG : ∀ (k : Nat) (g : GotV), G[k]? = some g → g.xs.length ≤ 1000000) (l : List StepV) :
    ∀ k, (∀ x ∈ partsV r N T fo G l k, x.length ≤ 1000000) ∧ (partsV r N T fo G l k).flatten.length ≤ k * 1000000 := by
  intro k
  induction k with
  | zero => exact ⟨fun x hx => (List.not_mem_nil hx).elim, Nat.le_refl _⟩
  | succ k ih =>
    have h := partV_short (r := r) (N := N) (T := T) hfo hG (partsV r N T fo G l k) ih.1 k (l.getD k ⟨0, 0, ⟨#[]⟩, 0, 0⟩)
    refine ⟨fun x hx => ?_, ?_⟩
    · rw [partsV, List.mem_append, List.mem_singleton] at hx
      rcases hx with hx | rfl
      · exact ih.1 x hx
      · exact h
    · rw [partsV, List.flatten_append, List.length_append, List.flatten_cons, List.flatten_nil, List.append_nil]
      have := ih.2
      omega
set_option maxRecDepth 100000 in
theorem cp_build_not (RC : Array Value) (r : RecV) (ao : Option Addr) (c : Nat) (hw : r.want ≠ 0) (lv : Value) (p : Option Addr) (tv gv : Value) (w : World) (H : RecIs w RC r ao c) :
    Calls Tryd.prog 54 #[.agg RC, lv, .pointer p, tv, gv] w (BuiltTo w ⟨[], [], r.want⟩) := by
  have hx0 := heap_alloc_new w (.cells RC 77)
  have C0 := Chg.alloc [] w (.cells RC 77)
  have KW := Lib.hid (fun w' (C : Chg [] w w') => cp_wanted RC r ao c w' (H.chg0 C))
  have hldr := run_loadAt_rec _ _ RC _ hx0 H.size
  generalize r.want = W at *
  clear H hx0
  go_enter Tryd.func54, Tryd.ntmps54
  go_wp2_with (refine wpList_load_y 77 (.tmp 5) rfl (by go_simp) (.pointer (some ⟨w.heap.size, 0, none⟩)) (.agg RC) hldr rfl ?_)
  refine (KW.out _ C0).mono ?_
  rintro e w2 ⟨rfl, C2⟩
  have HC2 := Lib.hid (C0.trans C2 (by simp))
  clear C0 C2 hldr
  go_wp2_with fail
  go_ret3
  exact BuiltTo.none _ _ _ HC2.out
set_option maxRecDepth 100000 in
set_option maxHeartbeats 8000000 in
theorem cp_build (RC : Array Value) (r : RecV) (ao : Option Addr) (c : Nat) (N : Nat) (g : r.Good N) (l : List StepV) (so : Option Addr) (sc : Nat) (p : Option Addr) (fo : HKey → Option (Pl × List UInt8)) (ta : Option Addr) (tc : Nat) (T : List UInt8) (G : List GotV) (go : Option Addr) (gc : Nat) (w : World)
    (hL : Laid w) (H : RecIs w RC r ao c) (hF : FindsAs w p fo) (hfo : ∀ k, (fX (fo k)).length ≤ 128) (hs : Src w ta (bvs T)) (hT : T.length ≤ 9223372036854775807) (htc : T.length ≤ tc) (h0 : ta = none → tc = 0)
    (hl : Src w so (svs l)) (hlc : l.length ≤ sc) (hl6 : l.length ≤ 1000000) (hG : GotsAt w go gc G) (hG6 : G.length ≤ 1000000) (hGx : ∀ (k : Nat) (g : GotV), G[k]? = some g → g.xs.length ≤ 1000000) :
    Calls Tryd.prog 54 #[.agg RC, .slice so l.length sc, .pointer p, .slice ta T.length tc, .slice go G.length gc] w (BuiltTo w (buildV r N T fo G l)) := by
  have hx0 := heap_alloc_new w (.cells RC 77)
  have C0 := Chg.alloc [] w (.cells RC 77)
  have KW := Lib.hid (fun w' (C : Chg [] w w') => by
    have := cp_wanted RC r ao c w' (H.chg0 C)
    rewrite [g.want] at this
    exact this)
  have KM := Lib.hid (fun w' (C : Chg [] w w') => cp_may l so sc (cntN N) w' (hl.chg C (by simp)) hlc hl6)
  have HST := Lib.hid (fun (k : Nat) (s : StepV) (h : l[k]? = some s) (wr : World) (C : Chg [] w wr) => show ∃ a, so = some a ∧ (Instr.loadAt 85 (.pointer (some (a.add (k * 5))))).run Tryd.prog wr = .ok (.agg s.cells) wr from by
    obtain ⟨a, rfl, _⟩ := hl.lt (by
      have h1 := (List.getElem?_eq_some_iff.1 h).1
      rw [show (svs l).length = l.length * 5 from flat_length (enc := fun s : StepV => s.cells.toList) (size := 5) (fun _ => rfl) l]
      omega)
    exact ⟨a, rfl, load_step (hl.chg C (by simp)) h⟩)
  have HGE := Lib.hid (fun k (hk : k < l.length) => show ∃ s, l[k]? = some s from ⟨_, List.getElem?_eq_getElem hk⟩)
  have KP := Lib.hid (fun (i : Nat) (hi : i < cntN N) w' (C : Chg [] w w') => cp_placed RC r ao c N g i hi ta tc T w' (H.chg0 C) (hs.chg C (by simp)) hT htc h0)
  have KF := Lib.hid (fun w' k (C : Chg [] w w') => hF w' k C)
  have KI := Lib.hid (fun (i : Int) (q : Nat) w' (C : Chg [] w w') => cp_index G i go gc q w' (hG.src.chg C (by simp)) hG.cap hG6)
  have KR := Lib.hid (fun (i : Nat) (hi : i < cntN N) (po : Option Addr) (pc : Nat) (xs : List UInt8) w' (C : Chg [] w w') (h1 : Src w' po (bvs xs)) (h2 : xs.length ≤ 1000000) (h3 : xs.length ≤ pc) => cp_right RC r ao c N g i hi po pc xs w' (hL.chg C (by simp)) (H.chg0 C) h1 h2 h3)
  have HLD := Lib.hid (fun (k : Nat) (hk : k < cntN N) (w' : World) (C : Chg [] w w') => show ∃ a fk, ao = some a ∧ r.dig k = fk ∧ (Instr.loadAt 32 (.pointer (some (a.add (k * 32))))).run Tryd.prog w' = .ok (.agg (hashC fk)) w' from by
    obtain ⟨fk, hfk⟩ : ∃ fk, r.L[k]? = some fk := ⟨_, List.getElem?_eq_getElem (by rw [g.len]; exact hk)⟩
    have hsrc := H.src
    obtain ⟨a, rfl, _⟩ := hsrc.lt (by
      have h1 := (List.getElem?_eq_some_iff.1 hfk).1
      rw [hvs_length]
      omega)
    exact ⟨a, fk, rfl, by unfold RecV.dig; rw [List.getD, hfk]; rfl, load_blk (hsrc.chg C (by simp)) hfk⟩)
  have HGOT := Lib.hid (fun (k : Nat) (g : GotV) (h : G[k]? = some g) (wr : World) (C : Chg [] w wr) => show ∃ a, go = some a ∧ a.block < w.heap.size ∧ wr.cell? (a.add (k * 2 + 1)) = some (.slice g.ao g.xs.length g.cap) ∧ PV w [] (.slice g.ao g.xs.length g.cap) g.xs from by
    have h1 := (List.getElem?_eq_some_iff.1 h).1
    obtain ⟨a, ha, hlt⟩ := hG.src.lt (by rw [gvs_len]; omega)
    subst ha
    refine ⟨a, rfl, hlt, ?_, hG.at_ k g h⟩
    have hc := src_flat (w := wr) (a := a) (cells := fun s : GotV => s.cells.toList) (size := 2) (fun _ => rfl) ((hG.src.chg C (by simp)).cell a rfl) h 1 (.slice g.ao g.xs.length g.cap) rfl
    rwa [addr_add_add] at hc)
  have HGL := Lib.hid (fun (i : Int) (k : Nat) (h : gotIx G i = some k) => show ∃ g, G[k]? = some g ∧ k < G.length ∧ (G.getD k ⟨0, none, [], 0⟩).xs = g.xs from by
    obtain ⟨g, hg, _⟩ := gotIx_lt h
    exact ⟨g, hg, (List.getElem?_eq_some_iff.1 hg).1, by rw [List.getD, hg]; rfl⟩)
  have HGC := Lib.hid (show G.length ≤ gc from hG.cap)
  obtain ⟨n, hn⟩ : ∃ n, cntN N = n := ⟨_, rfl⟩
  have hn32 : n ≤ 32 := by rw [← hn]; exact cntN_le N
  have hbl := H.bl
  rw [g.len, hn] at hbl
  rw [hn] at KM KP KR HLD
  have hnc : n ≤ c := by have := H.cap; rw [g.len, hn] at this; exact this
  have HBL := Lib.hid hbl
  have HRS := Lib.hid H.size
  have HTS := Lib.hid (part_in_old hs)
  have HFO := Lib.hid hfo
  have HPT := Lib.hid (fun i => plT_len N T i)
  have HSH := Lib.hid (partsV_short (r := r) (N := N) (T := T) hfo hGx l)
  have HPS : Hid (∀ (k : Nat) (s : StepV), l[k]? = some s → partsV r N T fo G l (k + 1) = partsV r N T fo G l k ++ [partV r N T fo G (partsV r N T fo G l k) k s]) := Lib.hid (fun k s hs => by rw [partsV, List.getD, hs]; rfl)
  have HPL := Lib.hid (partsV_len r N T fo G l)
  have HP0 : Hid (partsV r N T fo G l 0 = []) := Lib.hid rfl
  have HPV : Hid (∀ ps i s, partV r N T fo G ps i s = if s.from_ = 1 then plT N T i else if s.from_ = 2 then fX (fo (hkey (r.dig i))) else if s.from_ = 3 then ps.getD s.same.toNat [] else match gotIx G i with | some k => (G.getD k ⟨0, none, [], 0⟩).xs | none => []) := Lib.hid (fun ps i s => rfl)
  have HBV : Hid (mayB l n = false → buildV r N T fo G l = ⟨[], [], 2⟩) := Lib.hid (fun h => by unfold buildV; rw [if_neg (by rw [g.want]; simp), hn, if_pos h])
  have HBB : Hid (mayB l n = true → badV r (partsV r N T fo G l n) ≠ [] → buildV r N T fo G l = ⟨[], badV r (partsV r N T fo G l n), 14⟩) := Lib.hid (fun h h2 => by unfold buildV; rw [if_neg (by rw [g.want]; simp), hn, if_neg (by rw [h]; decide), (mayB_true h).1, if_pos h2])
  have HBO : Hid (mayB l n = true → badV r (partsV r N T fo G l n) = [] → buildV r N T fo G l = ⟨(partsV r N T fo G l n).flatten, [], 0⟩) := Lib.hid (fun h h2 => by unfold buildV; rw [if_neg (by rw [g.want]; simp), hn, if_neg (by rw [h]; decide), (mayB_true h).1, if_neg (fun h3 => h3 h2)])
  obtain ⟨tn, htn⟩ : ∃ tn, T.length = tn := ⟨_, rfl⟩
  obtain ⟨ln, hln⟩ : ∃ ln, l.length = ln := ⟨_, rfl⟩
  obtain ⟨gn, hgn⟩ : ∃ gn, G.length = gn := ⟨_, rfl⟩
  have HTN := Lib.hid htn
  have HLNN := Lib.hid hln
  rw [hln] at KM HGE hlc
  rw [hgn] at KI HGL HGC
  rw [htn] at KP
  rw [hln, hgn, htn]
  generalize partsV r N T fo G l = PS at *
  generalize buildV r N T fo G l = BU at *
  clear H hL hF hfo hs hT htc h0 hn hbl htn hgn hl hl6 hG hG6 hGx hln
  go_enter Tryd.func54, Tryd.ntmps54
  go_upto_region 1 with (fail)
  obtain ⟨q, hq⟩ : ∃ q, w.heap.size = q := ⟨_, rfl⟩
  rw [hq] at hx0 ⊢
  generalize w.alloc (.cells RC 77) = w1 at *
  have HC0 := Lib.hid C0
  have HX0 := Lib.hid hx0
  have HLDR := Lib.hid (fun (w' : World) (C : Chg [] w1 w') => run_loadAt_rec w' q RC _ ((C.block q (lt_of_block hx0) (by simp)).trans hx0) HRS.out)
  have hldr := HLDR.out w1 (Chg.refl _ _)
  have HQ := Lib.hid hq
  clear hq hx0 C0
  go_wp2_with (refine wpList_load_y 77 (.tmp 5) rfl (by go_simp) (.pointer (some ⟨q, 0, none⟩)) (.agg RC) hldr rfl ?_)
  refine (KW.out _ HC0.out).mono ?_
  rintro e w2 ⟨rfl, C2⟩
  have HC2 := Lib.hid C2
  have c23 : w2.cell? ⟨q, 23, none⟩ = some (.slice ao n c) := by rw [cell_of_row _ _ _ _ _ _ ((C2.block q (lt_of_block HX0.out) (by simp)).trans HX0.out)]; exact HBL.out
  clear C2 hldr
  go_wp2_with fail
  refine (KM.out _ (HC0.out.trans HC2.out (by simp))).mono ?_
  rintro e w3 ⟨rfl, C3⟩
  have HC3 := Lib.hid (HC2.out.trans C3 (by simp))
  clear C3 c23 HC2
  obtain ⟨mb, hmb⟩ : ∃ mb, mayB l n = mb := ⟨_, rfl⟩
  have HMB := Lib.hid hmb
  rw [hmb]
  clear hmb
  cases mb with
  | false =>
    go_wp2_with fail
    go_ret3
    rw [HBV.out HMB.out]
    exact BuiltTo.none _ _ _ (HC0.out.trans HC3.out (by simp))
  | true =>
    have hln : ln = n := by rw [← HLNN.out]; exact (mayB_true HMB.out).1
    have HOK := Lib.hid (mayB_true HMB.out).2
    subst hln
    have hmk := fun w => run_make_row' (P := Tryd.prog) 106 25 (.slice none 0 0) 24 Tryd.underlying106 infoBytesU rfl .i64 .i64 ln (by omega) (by omega) w
    go_upto_region 7 with (fail)
    obtain ⟨q2, hq2⟩ : ∃ q2, w3.heap.size = q2 := ⟨_, rfl⟩
    have CM := Chg.alloc [] w3 (.cells (madeCells #[.slice none 0 0] ln) 25)
    have hrow := World.rowIs_made w3 (.slice none 0 0) ln 25
    have hlt2 : w3.heap.size < (w3.alloc (.cells (madeCells #[.slice none 0 0] ln) 25)).heap.size := by simp
    have hqq := HC3.out.size
    have hqx := lt_of_block HX0.out
    rw [hq2] at hrow hlt2 hqq ⊢
    generalize w3.alloc (.cells (madeCells #[.slice none 0 0] ln) 25) = w4 at *
    have HC4 := Lib.hid (HC3.out.trans CM (by simp))
    have HQ4 := Lib.hid hlt2
    have HQ2 : Hid (q < q2) := Lib.hid (by omega)
    have HB0 : Hid (BSt w4 w4 q2 ln (PS 0) (PS 0).flatten (badV r (PS 0)) (.slice none 0 0) (.slice none 0 0)) := Lib.hid (by
      rw [HP0.out]
      refine ⟨Chg.refl _ _, hlt2, World.ownsRow_nil _ _ _ _, (fun k hk => by cases hk), World.ownsRow_nil _ _ _ _, (fun k hk => by cases hk), _, hrow, (fun j x hx => by cases hx), fun j _ _ => rfl⟩)
    have HO0 : Hid (0 = (PS 0).flatten.length) := Lib.hid (by rw [HP0.out]; rfl)
    have HN0 : Hid (0 = (badV r (PS 0)).length) := Lib.hid (by rw [HP0.out]; rfl)
    clear hmk CM hrow hlt2 hqq hqx hq2
    go_wp2_with fail
    go_loopw [10, 11, 34] (fun v10 v11 v34 wr => ∃ (k ol nl oc nc : Nat) (oo no : Option Addr), v10 = .slice oo ol oc ∧ v11 = .slice no nl nc ∧ v34 = .int .i64 (k : Int) ∧ k ≤ ln ∧ Hid (ol = (PS k).flatten.length) ∧ Hid (nl = (badV r (PS k)).length) ∧ Hid (BSt w4 wr q2 ln (PS k) (PS k).flatten (badV r (PS k)) (.slice oo ol oc) (.slice no nl nc))) (fun _ _ v _ => ln - (intOf v).toNat)
    case atStart => exact ⟨0, 0, 0, 0, 0, none, none, rfl, rfl, rfl, Nat.zero_le _, HO0, HN0, HB0⟩
    case round =>
      obtain ⟨k, ol, nl, oc, nc, oo, no, rfl, rfl, rfl, hk, HOL, HNL, HB⟩ := hrel
      clear HB0 HO0 HN0
      by_cases hlt : k < ln
      · have e1 : (k : Int) < ln := Int.ofNat_lt.2 hlt
        have e0 : (0 : Int) ≤ k := Int.natCast_nonneg _
        have hkc : k < c := by omega
        have hks : k < sc := by omega
        obtain ⟨s, hsk⟩ := HGE.out k hlt
        have HCW : Hid (∀ wz, Chg [] wr wz → Chg [] w wz) := Lib.hid (fun wz C => ((HC0.out.trans HC4.out (by simp)).trans HB.out.C (fun j hj => .inr (by
          have := HQ.out
          have := HQ2.out
          rw [List.mem_singleton.1 hj]; omega))).trans C (by simp))
        obtain ⟨a, rfl, hld⟩ := HST.out k s hsk wr (HCW.out wr (Chg.refl _ _))
        have HSS := Lib.hid (HPS.out k s hsk)
        have HPX' := Lib.hid (HPV.out (PS k) k s)
        obtain ⟨hs1, hs2, hs3, hs4⟩ := badS_no (HOK.out k s hsk)
        generalize partV r N T fo G (PS k) k s = X at *
        obtain ⟨s1, s2, s3, s4, s5⟩ := s
        have HS4 : Hid (s2 = 3 → 0 ≤ s5 ∧ s5 < (k : Int)) := Lib.hid hs4
        have HSX : Hid (X = if s2 = 1 then plT N T k else if s2 = 2 then fX (fo (hkey (r.dig k))) else if s2 = 3 then (PS k).getD s5.toNat [] else match gotIx G k with | some k => (G.getD k ⟨0, none, [], 0⟩).xs | none => []) := HPX'
        simp only [StepV.cells] at hld
        simp only at hs1 hs2 hs3 
        subst hs1
        have CA := (Chg.alloc [] wr (.cells #[.int .i64 (k : Int)] 3)).trans (Chg.alloc [] (wr.alloc (.cells #[.int .i64 (k : Int)] 3)) (.cells #[.int .i64 (k : Int), .int .i64 s2, .string s3, .int .i64 s4, .int .i64 s5] 85)) (by simp)
        have xi := ((Chg.alloc [] (wr.alloc (.cells #[.int .i64 (k : Int)] 3)) (.cells #[.int .i64 (k : Int), .int .i64 s2, .string s3, .int .i64 s4, .int .i64 s5] 85)).block _ (lt_of_block (heap_alloc_new wr (.cells #[.int .i64 (k : Int)] 3))) (by simp)).trans (heap_alloc_new wr (.cells #[.int .i64 (k : Int)] 3))
        have xs5 := heap_alloc_new (wr.alloc (.cells #[.int .i64 (k : Int)] 3)) (.cells #[.int .i64 (k : Int), .int .i64 s2, .string s3, .int .i64 s4, .int .i64 s5] 85)
        have sz1 : (wr.alloc (.cells #[.int .i64 (k : Int)] 3)).heap.size = wr.heap.size + 1 := by simp
        rw [sz1] at xs5
        clear hsk hs4 HPX'
        go_upto_region 10 with (refine wpList_load_y 85 (.tmp 37) rfl (by go_simp) (.pointer (some (a.add (k * 5)))) (.agg #[.int .i64 (k : Int), .int .i64 s2, .string s3, .int .i64 s4, .int .i64 s5]) hld rfl ?_)
        obtain ⟨qi, hqi⟩ : ∃ qi, wr.heap.size = qi := ⟨_, rfl⟩
        rw [hqi] at xi xs5 sz1 ⊢
        generalize (wr.alloc (.cells #[.int .i64 (k : Int)] 3)).alloc (.cells #[.int .i64 (k : Int), .int .i64 s2, .string s3, .int .i64 s4, .int .i64 s5] 85) = w5 at *
        have X5 := Lib.hid xi
        have XS5 := Lib.hid xs5
        have HB5 := Lib.hid (HB.out.keep CA)
        have HFQ : Hid (∀ j ∈ forb q2 (.slice oo ol oc) (.slice no nl nc), j < qi) := Lib.hid (fun j hj => by rw [← hqi]; exact (forb_lt HB.out j hj).1)
        have HNE : Hid (qi ≠ q2 ∧ q ≠ q2) := Lib.hid (by
          have h1 := HB.out.C.size
          have h2 := HQ4.out
          have h3 := HQ2.out
          omega)
        have HQI : Hid (q2 < qi) := Lib.hid (by
          have h1 := HB.out.C.size
          have h2 := HQ4.out
          omega)
        have HCW5 : Hid (∀ wz, Chg [] w5 wz → Chg [] w wz) := Lib.hid (fun wz C => HCW.out wz (CA.trans C (by simp)))
        have XR5 := Lib.hid ((CA.block q (by
          have h1 := HB.out.C.size
          have h2 := HQ4.out
          have h3 := HQ2.out
          omega) (by simp)).trans ((HB.out.C.block q (by
          have h2 := HQ4.out
          have h3 := HQ2.out
          omega) (fun hm => HNE.out.2 (List.mem_singleton.1 hm))).trans ((HC4.out.block q (lt_of_block HX0.out) (by simp)).trans HX0.out)))
        have z1 : w5.cell? ⟨qi + 1, 1, none⟩ = some (.int .i64 s2) := by rw [cell_of_row _ _ _ _ _ _ xs5]; rfl
        have HPLK := Lib.hid (HPL.out k)
        clear hld CA xi xs5 sz1 hqi HCW HB
        go_cut [40] (fun v w' => v = .int .i64 s2 ∧ w5 = w')
        case first =>
          go_wp2_with fail
          all_goals go_meet
          case rel => exact ⟨rfl, rfl⟩
        case rest =>
        rename_i hK0
        obtain ⟨rfl, rfl⟩ := hcut
        refine hK0 _ _ ?_
        clear hK0 z1
        go_cut [10] (fun v w' => v = .slice oo ol oc ∧ Hid (BSt w4 w' q2 ln (PS (k + 1)) (PS k).flatten (badV r (PS k)) (.slice oo ol oc) (.slice no nl nc)) ∧ Hid (Chg [q2] w5 w'))
        case first =>
          by_cases g1 : s2 = 1
          · subst g1
            have HPX : Hid (X = plT N T k) := Lib.hid (by rw [HSX.out]; rfl)
            clear HSX
            go_upto_region 15 with (fail)
            refine wp_region_held_drew (S := fun w' => Chg [q2] w5 w') (by kernel_rfl) ((Chg.drewN [q2] w5 1)) (fun H0 => ?_)
            refine' tkH (i := 0) (v := _) rfl (Or.inl ⟨by rfl, ?hyp0⟩) H0 ?restp0
            case hyp0 =>
              intro w' hSw
              have s1 := hSw
              go_simp
              try with_reducible rfl
            (try simp only [Act.put, List.getElem_toArray, List.getElem_cons_zero, List.setIfInBounds_toArray, List.set_cons_zero, List.set_cons_succ])
            refine' tkH (i := 1) (v := _) rfl (Or.inl ⟨by rfl, ?hyp1⟩) H0 ?restp1
            case hyp1 =>
              intro w' hSw
              have s1 := hSw
              have hc := (show w'.cell? ⟨qi, 0, none⟩ = some (.int .i64 (k : Int)) by rw [cell_of_row _ _ _ _ _ _ ((Chg.block (show Chg [q2] w5 w' from s1) qi (lt_of_block X5.out) (fun hm => HNE.out.1 (List.mem_singleton.1 hm))).trans X5.out)]; rfl)
              go_simp
              try with_reducible rfl
            (try simp only [Act.put, List.getElem_toArray, List.getElem_cons_succ, List.getElem_cons_zero, List.setIfInBounds_toArray, List.set_cons_zero, List.set_cons_succ])
            refine' tkH (i := 2) (v := .agg RC) rfl (Or.inl ⟨by rfl, ?hyp2⟩) H0 ?restp2
            case hyp2 =>
              intro w' hSw
              have s1 := hSw
              have hl := run_loadAt_rec w' q RC _ ((Chg.block (show Chg [q2] w5 w' from s1) q (lt_of_block XR5.out) (fun hm => HNE.out.2 (List.mem_singleton.1 hm))).trans XR5.out) HRS.out
              simp [execOp, Act.eval, hl, Result.andThen]
            (try simp only [Act.put, List.getElem_toArray, List.getElem_cons_succ, List.getElem_cons_zero, List.setIfInBounds_toArray, List.set_cons_zero, List.set_cons_succ])
            refine' tkH (i := 3) (v := _) rfl (Or.inl ⟨by rfl, ?hyp3⟩) H0 ?restp3
            case hyp3 =>
              intro w' hSw
              have s1 := hSw
              have hc := (show w'.cell? ⟨qi, 0, none⟩ = some (.int .i64 (k : Int)) by rw [cell_of_row _ _ _ _ _ _ ((Chg.block (show Chg [q2] w5 w' from s1) qi (lt_of_block X5.out) (fun hm => HNE.out.1 (List.mem_singleton.1 hm))).trans X5.out)]; rfl)
              go_simp
              try with_reducible rfl
            (try simp only [Act.put, List.getElem_toArray, List.getElem_cons_succ, List.getElem_cons_zero, List.setIfInBounds_toArray, List.set_cons_zero, List.set_cons_succ])
            refine' tkH (i := 4) (v := _) rfl (Or.inl ⟨by rfl, ?hyp4⟩) H0 ?restp4
            case hyp4 =>
              intro w' hSw
              have s1 := hSw
              go_simp
              try with_reducible rfl
            (try simp only [Act.put, List.getElem_toArray, List.getElem_cons_succ, List.getElem_cons_zero, List.setIfInBounds_toArray, List.set_cons_zero, List.set_cons_succ])
            refine wpAnyH_ready (rs := [5]) (by kernel_rfl) (by simp) (AllReadyH.cons rfl (fun K hK => ?_) AllReadyH.nil)
            go_simp
            refine (KP.out k hlt _ (HCW5.out _ (Chg.drewN [] w5 1))).mono ?_
            rintro e wy ⟨po, pc, rfl, hsx, hpn, hpl, hpo, Cy⟩
            rw [← HPX.out] at hsx hpl hpo ⊢
            have HTX := Lib.hid (HPT.out k)
            rw [← HPX.out] at HTX
            have CY : Chg [] w5 wy := (Chg.drewN [] w5 1).trans Cy (by simp)
            have HBY := Lib.hid (HB5.out.keep CY)
            have hpv : PV wy (forb q2 (.slice oo ol oc) (.slice no nl nc)) (.slice po X.length pc) X := ⟨po, pc, rfl, hsx, hpl, hpn, fun _ a2 ha => by
              obtain ⟨hp, t, h1, h2⟩ := hpo a2 ha
              have h3 := HTS.out t h1 (Nat.lt_of_lt_of_le hp HTX.out)
              refine ⟨fun hm => ?_, by rw [h2]; have := (HCW5.out _ CY).size; omega⟩
              have hq1 := HQ.out
              have hq2 := HQ2.out
              have hq3 := HQ4.out
              rcases (forb_lt HBY.out _ hm).2 with h | h
              · omega
              · omega⟩
            obtain ⟨u0, hu0, hf0, _⟩ := HBY.out.cell hlt
            have HPP := Lib.hid (HBY.out.put hpv)
            rw [HPLK.out] at HPP
            have HXV := Lib.hid (show ∃ u, wy.cell? ⟨q2, k, none⟩ = some u ∧ wy.frozen? ⟨q2, k, none⟩ = false from ⟨u0, hu0, hf0⟩)
            have HC7 := Lib.hid (CY.mono (T := [q2]) (by simp))
            generalize X.length = xn at *
            clear hpv hsx hpn hpl hpo hu0 hf0 CY HBY Cy HTX
            go_simp
            refine hK.out _ _ HC7.out (fun H1 => ?_)
            clear hK K
            refine' tkH (i := 6) (v := _) rfl (Or.inl ⟨by rfl, ?hyp6⟩) H1 ?restp6
            case hyp6 =>
              intro w' hSw
              have s1 := hSw
              go_simp
              try with_reducible rfl
            (try simp only [Act.put, List.getElem_toArray, List.getElem_cons_succ, List.getElem_cons_zero, List.setIfInBounds_toArray, List.set_cons_zero, List.set_cons_succ])
            refine wpAnyH_ready (rs := [7]) (by kernel_rfl) (by simp) (AllReadyH.cons rfl (fun K hK => ?_) AllReadyH.nil)
            obtain ⟨u0, hu0, hf0⟩ := HXV.out
            go_simp
            refine hK.out _ _ (H1.trans (Chg.setCell (S := [q2]) wy ⟨q2, k, none⟩ (.slice po xn pc) (.inl (by simp))) (by simp)) (fun H2 => ?_)
            clear hK K
            refine wpAnyH_done (by kernel_rfl) ?_ _
            have HCR := Lib.hid H2
            go_wp2_with fail
            all_goals go_meet
            case rel => exact ⟨rfl, by rw [HSS.out]; exact HPP, HCR⟩
          · by_cases g2 : s2 = 2
            · subst g2
              have HPX : Hid (X = fX (fo (hkey (r.dig k)))) := Lib.hid (by rw [HSX.out]; rfl)
              clear HSX
              obtain ⟨ab, fk, rfl, hdg, hlk0⟩ := HLD.out k hlt w5 (HCW5.out _ (Chg.refl _ _))
              obtain ⟨Rk, hRk⟩ : ∃ Rk, hashC fk = Rk := ⟨_, rfl⟩
              have HCW2 : Hid (∀ wz, Chg [q2] w5 wz → Chg [] w wz) := Lib.hid (fun wz C => (HCW5.out w5 (Chg.refl _ _)).trans C (fun j hj => .inr (by
                have h1 := HQ.out
                have h2 := HQ2.out
                rw [List.mem_singleton.1 hj]; omega)))
              have HLK : Hid (∀ w', Chg [] w w' → (Instr.loadAt 32 (.pointer (some (ab.add (k * 32))))).run Tryd.prog w' = .ok (.agg Rk) w') := Lib.hid (fun w' C => by
                obtain ⟨ab2, fk2, h1, h2, h3⟩ := HLD.out k hlt w' C
                cases h1
                rw [hdg] at h2
                cases h2
                rw [← hRk]
                exact h3)
              have KFk := Lib.hid (fun (w' : World) (C : Chg [] w w') => by
                have := KF.out w' (hkey (r.dig k)) C
                rewrite [hdg, hkV_hkey, hashV, hRk, ← hdg] at this
                exact this)
              clear hlk0 hRk hdg
              go_upto_region 17 with (fail)
              refine wp_region_held_drew (S := fun w' => Chg [q2] w5 w') (by kernel_rfl) ((Chg.drewN [q2] w5 1)) (fun H0 => ?_)
              refine' tkH (i := 0) (v := _) rfl (Or.inl ⟨by rfl, ?hyf0⟩) H0 ?restf0
              case hyf0 =>
                intro w' hSw
                have s1 := hSw
                go_simp
                try with_reducible rfl
              (try simp only [Act.put, List.getElem_toArray, List.getElem_cons_zero, List.setIfInBounds_toArray, List.set_cons_zero, List.set_cons_succ])
              refine' tkH (i := 1) (v := _) rfl (Or.inl ⟨by rfl, ?hyf1⟩) H0 ?restf1
              case hyf1 =>
                intro w' hSw
                have s1 := hSw
                have hc := (show w'.cell? ⟨qi, 0, none⟩ = some (.int .i64 (k : Int)) by rw [cell_of_row _ _ _ _ _ _ ((Chg.block (show Chg [q2] w5 w' from s1) qi (lt_of_block X5.out) (fun hm => HNE.out.1 (List.mem_singleton.1 hm))).trans X5.out)]; rfl)
                go_simp
                try with_reducible rfl
              (try simp only [Act.put, List.getElem_toArray, List.getElem_cons_succ, List.getElem_cons_zero, List.setIfInBounds_toArray, List.set_cons_zero, List.set_cons_succ])
              refine' tkH (i := 2) (v := _) rfl (Or.inl ⟨by rfl, ?hyf2⟩) H0 ?restf2
              case hyf2 =>
                intro w' hSw
                have s1 := hSw
                go_simp
                try with_reducible rfl
              (try simp only [Act.put, List.getElem_toArray, List.getElem_cons_succ, List.getElem_cons_zero, List.setIfInBounds_toArray, List.set_cons_zero, List.set_cons_succ])
              refine' tkH (i := 3) (v := _) rfl (Or.inl ⟨by rfl, ?hyf3⟩) H0 ?restf3
              case hyf3 =>
                intro w' hSw
                have s1 := hSw
                go_simp
                try with_reducible rfl
              (try simp only [Act.put, List.getElem_toArray, List.getElem_cons_succ, List.getElem_cons_zero, List.setIfInBounds_toArray, List.set_cons_zero, List.set_cons_succ])
              refine' tkH (i := 4) (v := _) rfl (Or.inl ⟨by rfl, ?hyf4⟩) H0 ?restf4
              case hyf4 =>
                intro w' hSw
                have s1 := hSw
                have hc := (show w'.cell? ⟨q, 23, none⟩ = some (.slice (some ab) ln c) by rw [cell_of_row _ _ _ _ _ _ ((Chg.block (show Chg [q2] w5 w' from s1) q (lt_of_block XR5.out) (fun hm => HNE.out.2 (List.mem_singleton.1 hm))).trans XR5.out)]; exact HBL.out)
                go_simp
                try with_reducible rfl
              (try simp only [Act.put, List.getElem_toArray, List.getElem_cons_succ, List.getElem_cons_zero, List.setIfInBounds_toArray, List.set_cons_zero, List.set_cons_succ])
              refine' tkH (i := 5) (v := _) rfl (Or.inl ⟨by rfl, ?hyf5⟩) H0 ?restf5
              case hyf5 =>
                intro w' hSw
                have s1 := hSw
                have hc := (show w'.cell? ⟨qi, 0, none⟩ = some (.int .i64 (k : Int)) by rw [cell_of_row _ _ _ _ _ _ ((Chg.block (show Chg [q2] w5 w' from s1) qi (lt_of_block X5.out) (fun hm => HNE.out.1 (List.mem_singleton.1 hm))).trans X5.out)]; rfl)
                go_simp
                try with_reducible rfl
              (try simp only [Act.put, List.getElem_toArray, List.getElem_cons_succ, List.getElem_cons_zero, List.setIfInBounds_toArray, List.set_cons_zero, List.set_cons_succ])
              refine' tkH (i := 6) (v := _) rfl (Or.inl ⟨by rfl, ?hyf6⟩) H0 ?restf6
              case hyf6 =>
                intro w' hSw
                have s1 := hSw
                go_simp
                try with_reducible rfl
              (try simp only [Act.put, List.getElem_toArray, List.getElem_cons_succ, List.getElem_cons_zero, List.setIfInBounds_toArray, List.set_cons_zero, List.set_cons_succ])
              refine' tkH (i := 7) (v := .agg Rk) rfl (Or.inl ⟨by rfl, ?hyf7⟩) H0 ?restf7
              case hyf7 =>
                intro w' hSw
                have s1 := hSw
                have hl := HLK.out w' (HCW2.out w' s1)
                simp [execOp, Act.eval, hl, Result.andThen]
              (try simp only [Act.put, List.getElem_toArray, List.getElem_cons_succ, List.getElem_cons_zero, List.setIfInBounds_toArray, List.set_cons_zero, List.set_cons_succ])
              refine wpAnyH_ready (rs := [8]) (by kernel_rfl) (by simp) (AllReadyH.cons rfl (fun K hK => ?_) AllReadyH.nil)
              go_simp
              refine (KFk.out _ (HCW5.out _ (Chg.drewN [] w5 1))).mono ?_
              rintro e wy hfd
              obtain ⟨Cy, po, pc, rfl, hown, hnew⟩ := found_any hfd
              rw [← HPX.out] at hown hnew ⊢
              have CY : Chg [] w5 wy := (Chg.drewN [] w5 1).trans Cy (by simp)
              have HBY := Lib.hid (HB5.out.keep CY)
              have hpv : PV wy (forb q2 (.slice oo ol oc) (.slice no nl nc)) (.slice po X.length pc) X := PV.own hown (fun k hk hm => by
                have h1 := hnew k hk
                have h2 := (forb_lt HB5.out _ hm).1
                rw [heap_drewN] at h1
                omega)
              obtain ⟨u0, hu0, hf0, _⟩ := HBY.out.cell hlt
              have HPP := Lib.hid (HBY.out.put hpv)
              rw [HPLK.out] at HPP
              have HXV := Lib.hid (show ∃ u, wy.cell? ⟨q2, k, none⟩ = some u ∧ wy.frozen? ⟨q2, k, none⟩ = false from ⟨u0, hu0, hf0⟩)
              have HC7 := Lib.hid (CY.mono (T := [q2]) (by simp))
              generalize X.length = xn at *
              clear hpv hown hnew hfd hu0 hf0 CY HBY Cy
              generalize fM (fo (hkey (r.dig k))) = mm at *
              generalize (fo (hkey (r.dig k))).isSome = oks at *
              go_simp
              refine hK.out _ _ HC7.out (fun H1 => ?_)
              clear hK K
              refine' tkH (i := 9) (v := _) rfl (Or.inl ⟨by rfl, ?hyf9⟩) H1 ?restf9
              case hyf9 =>
                intro w' hSw
                have s1 := hSw
                go_simp
                try with_reducible rfl
              (try simp only [Act.put, List.getElem_toArray, List.getElem_cons_succ, List.getElem_cons_zero, List.setIfInBounds_toArray, List.set_cons_zero, List.set_cons_succ])
              refine' tkH (i := 10) (v := _) rfl (Or.inl ⟨by rfl, ?hyf10⟩) H1 ?restf10
              case hyf10 =>
                intro w' hSw
                have s1 := hSw
                go_simp
                try with_reducible rfl
              (try simp only [Act.put, List.getElem_toArray, List.getElem_cons_succ, List.getElem_cons_zero, List.setIfInBounds_toArray, List.set_cons_zero, List.set_cons_succ])
              refine' tkH (i := 11) (v := _) rfl (Or.inl ⟨by rfl, ?hyf11⟩) H1 ?restf11
              case hyf11 =>
                intro w' hSw
                have s1 := hSw
                go_simp
                try with_reducible rfl
              (try simp only [Act.put, List.getElem_toArray, List.getElem_cons_succ, List.getElem_cons_zero, List.setIfInBounds_toArray, List.set_cons_zero, List.set_cons_succ])
              refine' tkH (i := 12) (v := _) rfl (Or.inl ⟨by rfl, ?hyf12⟩) H1 ?restf12
              case hyf12 =>
                intro w' hSw
                have s1 := hSw
                go_simp
                try with_reducible rfl
              (try simp only [Act.put, List.getElem_toArray, List.getElem_cons_succ, List.getElem_cons_zero, List.setIfInBounds_toArray, List.set_cons_zero, List.set_cons_succ])
              refine' tkH (i := 13) (v := _) rfl (Or.inl ⟨by rfl, ?hyf13⟩) H1 ?restf13
              case hyf13 =>
                intro w' hSw
                have s1 := hSw
                go_simp
                try with_reducible rfl
              (try simp only [Act.put, List.getElem_toArray, List.getElem_cons_succ, List.getElem_cons_zero, List.setIfInBounds_toArray, List.set_cons_zero, List.set_cons_succ])
              refine wpAnyH_ready (rs := [14]) (by kernel_rfl) (by simp) (AllReadyH.cons rfl (fun K hK => ?_) AllReadyH.nil)
              obtain ⟨u0, hu0, hf0⟩ := HXV.out
              go_simp
              refine hK.out _ _ (H1.trans (Chg.setCell (S := [q2]) wy ⟨q2, k, none⟩ (.slice po xn pc) (.inl (by simp))) (by simp)) (fun H2 => ?_)
              clear hK K
              refine wpAnyH_done (by kernel_rfl) ?_ _
              have HCR := Lib.hid H2
              go_wp2_with fail
              all_goals go_meet
              case rel => exact ⟨rfl, by rw [HSS.out]; exact HPP, HCR⟩
            · by_cases g3 : s2 = 3
              · subst g3
                have HPX : Hid (X = (PS k).getD s5.toNat []) := Lib.hid (by rw [HSX.out]; rfl)
                clear HSX
                obtain ⟨g5, g6⟩ := HS4.out rfl
                obtain ⟨kk, rfl⟩ := Int.eq_ofNat_of_zero_le g5
                have g7 : kk < k := by omega
                have e5 : (kk : Int) < ln := by omega
                have e6 : (0 : Int) ≤ (kk : Int) := g5
                have hXK : (PS k)[kk]? = some X := by
                  have h1 : kk < (PS k).length := by rw [HPLK.out]; exact g7
                  have h2 := HPX.out
                  rw [Int.toNat_natCast, List.getD, List.getElem?_eq_getElem h1] at h2
                  rw [List.getElem?_eq_getElem h1, h2]
                  rfl
                obtain ⟨pv, hck, hfk, hpv⟩ := HB5.out.cell (show kk < ln by omega)
                have hpv := hpv X hXK
                obtain ⟨po, pc, rfl, _, _⟩ := hpv.short
                have hdr := (Chg.drewN [] w5 1)
                have HPP := Lib.hid ((HB5.out.keep hdr).put (hpv.chg hdr (by simp)))
                rw [HPLK.out] at HPP
                obtain ⟨u0, hu0, hf0, _⟩ := HB5.out.cell hlt
                have HXV := Lib.hid (show ∃ u, w5.cell? ⟨q2, k, none⟩ = some u ∧ w5.frozen? ⟨q2, k, none⟩ = false from ⟨u0, hu0, hf0⟩)
                have HNE3 : Hid (qi + 1 ≠ q2) := Lib.hid (by have := HQI.out; omega)
                generalize X.length = xn at *
                have HCK := Lib.hid hck
                clear hpv hck hfk hu0 hf0 hdr hXK
                go_upto_region 19 with (fail)
                refine wp_region_held_drew (S := fun w' => Chg [q2] w5 w' ∧ w'.cell? ⟨q2, kk, none⟩ = some (.slice po xn pc)) (by kernel_rfl) (⟨(Chg.drewN [q2] w5 1), HCK.out⟩) (fun H0 => ?_)
                refine' tkH (i := 0) (v := _) rfl (Or.inl ⟨by rfl, ?hys0⟩) H0 ?rests0
                case hys0 =>
                  intro w' hSw
                  obtain ⟨s1, s2⟩ := hSw
                  go_simp
                  try with_reducible rfl
                (try simp only [Act.put, List.getElem_toArray, List.getElem_cons_zero, List.setIfInBounds_toArray, List.set_cons_zero, List.set_cons_succ])
                refine' tkH (i := 1) (v := _) rfl (Or.inl ⟨by rfl, ?hys1⟩) H0 ?rests1
                case hys1 =>
                  intro w' hSw
                  obtain ⟨s1, s2⟩ := hSw
                  have hc := (show w'.cell? ⟨qi, 0, none⟩ = some (.int .i64 (k : Int)) by rw [cell_of_row _ _ _ _ _ _ ((Chg.block (show Chg [q2] w5 w' from s1) qi (lt_of_block X5.out) (fun hm => HNE.out.1 (List.mem_singleton.1 hm))).trans X5.out)]; rfl)
                  go_simp
                  try with_reducible rfl
                (try simp only [Act.put, List.getElem_toArray, List.getElem_cons_succ, List.getElem_cons_zero, List.setIfInBounds_toArray, List.set_cons_zero, List.set_cons_succ])
                refine' tkH (i := 2) (v := _) rfl (Or.inl ⟨by rfl, ?hys2⟩) H0 ?rests2
                case hys2 =>
                  intro w' hSw
                  obtain ⟨s1, s2⟩ := hSw
                  go_simp
                  try with_reducible rfl
                (try simp only [Act.put, List.getElem_toArray, List.getElem_cons_succ, List.getElem_cons_zero, List.setIfInBounds_toArray, List.set_cons_zero, List.set_cons_succ])
                refine' tkH (i := 3) (v := _) rfl (Or.inl ⟨by rfl, ?hys3⟩) H0 ?rests3
                case hys3 =>
                  intro w' hSw
                  obtain ⟨s1, s2⟩ := hSw
                  go_simp
                  try with_reducible rfl
                (try simp only [Act.put, List.getElem_toArray, List.getElem_cons_succ, List.getElem_cons_zero, List.setIfInBounds_toArray, List.set_cons_zero, List.set_cons_succ])
                refine' tkH (i := 4) (v := _) rfl (Or.inl ⟨by rfl, ?hys4⟩) H0 ?rests4
                case hys4 =>
                  intro w' hSw
                  obtain ⟨s1, s2⟩ := hSw
                  have hc := (show w'.cell? ⟨qi + 1, 4, none⟩ = some (.int .i64 (kk : Int)) by rw [cell_of_row _ _ _ _ _ _ ((Chg.block (show Chg [q2] w5 w' from s1) (qi + 1) (lt_of_block XS5.out) (fun hm => HNE3.out (List.mem_singleton.1 hm))).trans XS5.out)]; rfl)
                  go_simp
                  try with_reducible rfl
                (try simp only [Act.put, List.getElem_toArray, List.getElem_cons_succ, List.getElem_cons_zero, List.setIfInBounds_toArray, List.set_cons_zero, List.set_cons_succ])
                refine' tkH (i := 5) (v := _) rfl (Or.inl ⟨by rfl, ?hys5⟩) H0 ?rests5
                case hys5 =>
                  intro w' hSw
                  obtain ⟨s1, s2⟩ := hSw
                  go_simp
                  try with_reducible rfl
                (try simp only [Act.put, List.getElem_toArray, List.getElem_cons_succ, List.getElem_cons_zero, List.setIfInBounds_toArray, List.set_cons_zero, List.set_cons_succ])
                refine' tkH (i := 6) (v := _) rfl (Or.inl ⟨by rfl, ?hys6⟩) H0 ?rests6
                case hys6 =>
                  intro w' hSw
                  obtain ⟨s1, s2⟩ := hSw
                  go_simp
                  try with_reducible rfl
                (try simp only [Act.put, List.getElem_toArray, List.getElem_cons_succ, List.getElem_cons_zero, List.setIfInBounds_toArray, List.set_cons_zero, List.set_cons_succ])
                refine' tkH (i := 7) (v := _) rfl (Or.inl ⟨by rfl, ?hys7⟩) H0 ?rests7
                case hys7 =>
                  intro w' hSw
                  obtain ⟨s1, s2⟩ := hSw
                  go_simp
                  try with_reducible rfl
                (try simp only [Act.put, List.getElem_toArray, List.getElem_cons_succ, List.getElem_cons_zero, List.setIfInBounds_toArray, List.set_cons_zero, List.set_cons_succ])
                refine wpAnyH_ready (rs := [8]) (by kernel_rfl) (by simp) (AllReadyH.cons rfl (fun K hK => ?_) AllReadyH.nil)
                obtain ⟨u0, hu0, hf0⟩ := HXV.out
                have hu0 : w5.drew.cell? ⟨q2, k, none⟩ = some u0 := hu0
                have hf0 : w5.drew.frozen? ⟨q2, k, none⟩ = false := hf0
                go_simp
                refine hK.out _ _ ⟨H0.1.trans (Chg.setCell (S := [q2]) w5.drew ⟨q2, k, none⟩ (.slice po xn pc) (.inl (by simp))) (by simp), (World.cell?_setCell_other _ _ _ _ (by intro e; cases e; omega)).trans H0.2⟩ (fun H1 => ?_)
                clear hK K
                refine wpAnyH_done (by kernel_rfl) ?_ _
                have HCR := Lib.hid H1.1
                go_wp2_with fail
                all_goals go_meet
                case rel => exact ⟨rfl, by rw [HSS.out]; exact HPP, HCR⟩
              · have g4 : s2 = 4 := by omega
                subst g4
                have HPX : Hid (X = match gotIx G k with | some k => (G.getD k ⟨0, none, [], 0⟩).xs | none => []) := Lib.hid (by rw [HSX.out]; rfl)
                clear HSX
                have c0 : w5.cell? ⟨qi, 0, none⟩ = some (.int .i64 (k : Int)) := by rw [cell_of_row _ _ _ _ _ _ X5.out]; rfl
                have KIk := Lib.hid (KI.out (k : Int) qi w5 (HCW5.out _ (Chg.refl _ _)) c0)
                clear c0
                go_wp2_with fail
                refine KIk.out.mono ?_
                rintro e w6 ⟨rfl, C6⟩
                have HC6 := Lib.hid C6
                have HB6 := Lib.hid (HB5.out.keep C6)
                have XI6 := Lib.hid ((C6.block qi (lt_of_block X5.out) (by simp)).trans X5.out)
                clear C6 KIk
                obtain ⟨oi, hoi⟩ : ∃ oi, gotIx G (k : Int) = oi := ⟨_, rfl⟩
                rw [hoi]
                have HOI := Lib.hid hoi
                clear hoi
                cases oi with
                | none =>
                  have HPX2 : Hid (X = []) := Lib.hid (by rw [HPX.out, HOI.out])
                  have HPP := Lib.hid (HB6.out.skip (by rw [HPLK.out]; exact hlt))
                  rw [← HPX2.out] at HPP
                  have HCR := Lib.hid (HC6.out.mono (T := [q2]) (by simp))
                  simp only [ixZ]
                  go_wp2_with fail
                  all_goals go_meet
                  case rel => exact ⟨rfl, by rw [HSS.out]; exact HPP, HCR⟩
                | some kg =>
                  obtain ⟨gg, hgg, hgl, hgx⟩ := HGL.out k kg HOI.out
                  have HPX2 : Hid (X = gg.xs) := Lib.hid (by rw [HPX.out, HOI.out]; exact hgx)
                  have HCW6 : Hid (∀ wz, Chg [q2] w6 wz → Chg [] w wz) := Lib.hid (fun wz C => (HCW5.out w6 HC6.out).trans C (fun j hj => .inr (by
                    have h1 := HQ.out
                    have h2 := HQ2.out
                    rw [List.mem_singleton.1 hj]; omega)))
                  obtain ⟨ag, rfl, hgb, _, hpv0⟩ := HGOT.out kg gg hgg w6 (HCW5.out w6 HC6.out)
                  have hpv : PV w6 (forb q2 (.slice oo ol oc) (.slice no nl nc)) (.slice gg.ao gg.xs.length gg.cap) gg.xs := (hpv0.grow (fun j hj => .inr (by
                    have h1 := HQ.out
                    have h2 := HQ2.out
                    have h3 := HQ4.out
                    rcases (forb_lt HB6.out _ hj).2 with h | h <;> omega))).chg (HCW5.out w6 HC6.out) (by simp)
                  have HPP := Lib.hid ((HB6.out.keep (Chg.drewN [] w6 1)).put (hpv.chg (Chg.drewN [] w6 1) (by simp)))
                  rw [HPLK.out, ← HPX2.out] at HPP
                  have HGC2 : Hid (∀ w', Chg [q2] w6 w' → w'.cell? ⟨(ag.add (kg * 2)).block, (ag.add (kg * 2)).off + 1, none⟩ = some (.slice gg.ao gg.xs.length gg.cap)) := Lib.hid (fun w' C => by
                    obtain ⟨ag2, h1, _, h2, _⟩ := HGOT.out kg gg hgg w' (HCW6.out w' C)
                    cases h1
                    rw [← addr_add_add] at h2
                    exact h2)
                  obtain ⟨u0, hu0, hf0, _⟩ := HB6.out.cell hlt
                  have HXV := Lib.hid (show ∃ u, w6.cell? ⟨q2, k, none⟩ = some u ∧ w6.frozen? ⟨q2, k, none⟩ = false from ⟨u0, hu0, hf0⟩)
                  rw [← HPX2.out] at HGC2
                  have e7 : (kg : Int) < gn := by omega
                  have e8 : (0 : Int) ≤ kg := Int.natCast_nonneg _
                  have hgc := HGC.out
                  have hkgc : kg < gc := by omega
                  generalize gg.ao = po at *
                  generalize gg.cap = pc at *
                  generalize X.length = xn at *
                  simp only [ixZ]
                  clear hpv hpv0 hu0 hf0 hgg hgx
                  go_upto_region 13 with (fail)
                  refine wp_region_held_drew (S := fun w' => Chg [q2] w6 w') (by kernel_rfl) ((Chg.drewN [q2] w6 1)) (fun H0 => ?_)
                  refine' tkH (i := 0) (v := _) rfl (Or.inl ⟨by rfl, ?hyg0⟩) H0 ?restg0
                  case hyg0 =>
                    intro w' hSw
                    have s1 := hSw
                    go_simp
                    try with_reducible rfl
                  (try simp only [Act.put, List.getElem_toArray, List.getElem_cons_zero, List.setIfInBounds_toArray, List.set_cons_zero, List.set_cons_succ])
                  refine' tkH (i := 1) (v := _) rfl (Or.inl ⟨by rfl, ?hyg1⟩) H0 ?restg1
                  case hyg1 =>
                    intro w' hSw
                    have s1 := hSw
                    have hc := (show w'.cell? ⟨qi, 0, none⟩ = some (.int .i64 (k : Int)) by rw [cell_of_row _ _ _ _ _ _ ((Chg.block (show Chg [q2] w6 w' from s1) qi (lt_of_block XI6.out) (fun hm => HNE.out.1 (List.mem_singleton.1 hm))).trans XI6.out)]; rfl)
                    go_simp
                    try with_reducible rfl
                  (try simp only [Act.put, List.getElem_toArray, List.getElem_cons_succ, List.getElem_cons_zero, List.setIfInBounds_toArray, List.set_cons_zero, List.set_cons_succ])
                  refine' tkH (i := 2) (v := _) rfl (Or.inl ⟨by rfl, ?hyg2⟩) H0 ?restg2
                  case hyg2 =>
                    intro w' hSw
                    have s1 := hSw
                    go_simp
                    try with_reducible rfl
                  (try simp only [Act.put, List.getElem_toArray, List.getElem_cons_succ, List.getElem_cons_zero, List.setIfInBounds_toArray, List.set_cons_zero, List.set_cons_succ])
                  refine' tkH (i := 3) (v := _) rfl (Or.inl ⟨by rfl, ?hyg3⟩) H0 ?restg3
                  case hyg3 =>
                    intro w' hSw
                    have s1 := hSw
                    go_simp
                    try with_reducible rfl
                  (try simp only [Act.put, List.getElem_toArray, List.getElem_cons_succ, List.getElem_cons_zero, List.setIfInBounds_toArray, List.set_cons_zero, List.set_cons_succ])
                  refine' tkH (i := 4) (v := _) rfl (Or.inl ⟨by rfl, ?hyg4⟩) H0 ?restg4
                  case hyg4 =>
                    intro w' hSw
                    have s1 := hSw
                    go_simp
                    try with_reducible rfl
                  (try simp only [Act.put, List.getElem_toArray, List.getElem_cons_succ, List.getElem_cons_zero, List.setIfInBounds_toArray, List.set_cons_zero, List.set_cons_succ])
                  refine' tkH (i := 5) (v := _) rfl (Or.inl ⟨by rfl, ?hyg5⟩) H0 ?restg5
                  case hyg5 =>
                    intro w' hSw
                    have s1 := hSw
                    go_simp
                    try with_reducible rfl
                  (try simp only [Act.put, List.getElem_toArray, List.getElem_cons_succ, List.getElem_cons_zero, List.setIfInBounds_toArray, List.set_cons_zero, List.set_cons_succ])
                  refine' tkH (i := 6) (v := _) rfl (Or.inl ⟨by rfl, ?hyg6⟩) H0 ?restg6
                  case hyg6 =>
                    intro w' hSw
                    have s1 := hSw
                    have hc := HGC2.out w' s1
                    go_simp
                    try with_reducible rfl
                  (try simp only [Act.put, List.getElem_toArray, List.getElem_cons_succ, List.getElem_cons_zero, List.setIfInBounds_toArray, List.set_cons_zero, List.set_cons_succ])
                  refine' tkH (i := 7) (v := _) rfl (Or.inl ⟨by rfl, ?hyg7⟩) H0 ?restg7
                  case hyg7 =>
                    intro w' hSw
                    have s1 := hSw
                    go_simp
                    try with_reducible rfl
                  (try simp only [Act.put, List.getElem_toArray, List.getElem_cons_succ, List.getElem_cons_zero, List.setIfInBounds_toArray, List.set_cons_zero, List.set_cons_succ])
                  refine wpAnyH_ready (rs := [8]) (by kernel_rfl) (by simp) (AllReadyH.cons rfl (fun K hK => ?_) AllReadyH.nil)
                  obtain ⟨u0, hu0, hf0⟩ := HXV.out
                  have hu0 : w6.drew.cell? ⟨q2, k, none⟩ = some u0 := hu0
                  have hf0 : w6.drew.frozen? ⟨q2, k, none⟩ = false := hf0
                  go_simp
                  refine hK.out _ _ (H0.trans (Chg.setCell (S := [q2]) w6.drew ⟨q2, k, none⟩ (.slice po xn pc) (.inl (by simp))) (by simp)) (fun H1 => ?_)
                  clear hK K
                  refine wpAnyH_done (by kernel_rfl) ?_ _
                  have HCR := Lib.hid ((HC6.out.mono (T := [q2]) (by simp)).trans H1 (by simp))
                  go_wp2_with fail
                  all_goals go_meet
                  case rel => exact ⟨rfl, by rw [HSS.out]; exact HPP, HCR⟩
        case rest =>
        obtain ⟨rfl, HBC, HCC⟩ := hcut
        go_upto_region 20 with (fail)
        have HIC : Hid (wc.cell? ⟨qi, 0, none⟩ = some (.int .i64 (k : Int))) := Lib.hid (by rw [cell_of_row _ _ _ _ _ _ ((HCC.out.block qi (lt_of_block X5.out) (fun hm => HNE.out.1 (List.mem_singleton.1 hm))).trans X5.out)]; rfl)
        have HIL : Hid (qi < wc.heap.size) := Lib.hid (Nat.lt_of_lt_of_le (lt_of_block X5.out) HCC.out.size)
        have XR7 := Lib.hid ((HCC.out.block q (lt_of_block XR5.out) (fun hm => HNE.out.2 (List.mem_singleton.1 hm))).trans XR5.out)
        obtain ⟨pv, hpc, _, hpv⟩ := HBC.out.cell hlt
        have hXK : (PS (k + 1))[k]? = some X := by rw [HSS.out, List.getElem?_append_right (by rw [HPLK.out]; exact Nat.le_refl _), HPLK.out, Nat.sub_self]; rfl
        have hpv := hpv X hXK
        have HPVX := Lib.hid hpv
        obtain ⟨po, pc, rfl, hsx, hpl, hpn, hpb⟩ := hpv
        have HPB := Lib.hid (fun hp a ha => (hpb hp a ha).1)
        have HPC := Lib.hid hpc
        have HXS := Lib.hid ((HSH.out (k + 1)).1 X (List.mem_of_getElem? hXK))
        have HCW7 : Hid (∀ wz, Chg [] wc wz → Chg [] w wz) := Lib.hid (fun wz C => ((HCW5.out w5 (Chg.refl _ _)).trans HCC.out (fun j hj => .inr (by
          have h1 := HQ.out
          have h2 := HQ2.out
          rw [List.mem_singleton.1 hj]; omega))).trans C (by simp))
        have KRk := Lib.hid (KR.out k hlt po pc X wc.drew (HCW7.out _ (Chg.drewN [] wc 1)) (hsx.chg (Chg.drewN [] wc 1) (by simp)) HXS.out hpl)
        have HSX2 := Lib.hid hsx
        have HPN := Lib.hid hpn
        have HXF : Hid ((PS (k + 1)).flatten = (PS k).flatten ++ X) := Lib.hid (by rw [HSS.out, List.flatten_append, List.flatten_cons, List.flatten_nil, List.append_nil])
        have HBN : Hid (badV r (PS (k + 1)) = badV r (PS k) ++ if rightB r k X = true then [] else [(k : Int)]) := Lib.hid (by rw [HSS.out, badV_next, HPLK.out])
        have HXB : Hid (ol + X.length ≤ 32000000) := Lib.hid (by
          have h1 := (HSH.out (k + 1)).2
          rw [HXF.out, List.length_append, ← HOL.out] at h1
          have : (k + 1) * 1000000 ≤ 32 * 1000000 := Nat.mul_le_mul_right _ (by omega)
          omega)
        have HNB : Hid (nl ≤ 32) := Lib.hid (by
          have h1 := badV_len r (PS k)
          rw [HPLK.out, ← HNL.out] at h1
          omega)
        obtain ⟨xn, hxn⟩ : ∃ xn, X.length = xn := ⟨_, rfl⟩
        have HXN := Lib.hid hxn
        rw [hxn] at HPC KRk HXB
        obtain ⟨RB, hRB⟩ : ∃ RB, rightB r k X = RB := ⟨_, rfl⟩
        rw [hRB] at HBN KRk
        clear hxn hRB hXK hpv hsx hpl hpn hpb hpc HSX X5 XS5 XR5 HB5 HCC HPVX HCW5 hs2 hs3
        refine wp_region_held_drew (S := fun w' => Chg [] wc w') (by kernel_rfl) ((Chg.drewN [] wc 1)) (fun H0 => ?_)
        refine' tkH (i := 0) (v := .agg RC) rfl (Or.inl ⟨by rfl, ?hyr0⟩) H0 ?restr0
        case hyr0 =>
          intro w' hSw
          have s1 := hSw
          have hl := run_loadAt_rec w' q RC _ ((Chg.block (show Chg [] wc w' from s1) q (lt_of_block XR7.out) (by simp)).trans XR7.out) HRS.out
          simp [execOp, Act.eval, hl, Result.andThen]
        (try simp only [Act.put, List.getElem_toArray, List.getElem_cons_zero, List.setIfInBounds_toArray, List.set_cons_zero, List.set_cons_succ])
        refine' tkH (i := 1) (v := _) rfl (Or.inl ⟨by rfl, ?hyr1⟩) H0 ?restr1
        case hyr1 =>
          intro w' hSw
          have s1 := hSw
          have hc := (show w'.cell? ⟨qi, 0, none⟩ = some (.int .i64 (k : Int)) from (Chg.cell_some (show Chg [] wc w' from s1) HIC.out (by simp)))
          go_simp
          try with_reducible rfl
        (try simp only [Act.put, List.getElem_toArray, List.getElem_cons_succ, List.getElem_cons_zero, List.setIfInBounds_toArray, List.set_cons_zero, List.set_cons_succ])
        refine' tkH (i := 2) (v := _) rfl (Or.inl ⟨by rfl, ?hyr2⟩) H0 ?restr2
        case hyr2 =>
          intro w' hSw
          have s1 := hSw
          go_simp
          try with_reducible rfl
        (try simp only [Act.put, List.getElem_toArray, List.getElem_cons_succ, List.getElem_cons_zero, List.setIfInBounds_toArray, List.set_cons_zero, List.set_cons_succ])
        refine' tkH (i := 3) (v := _) rfl (Or.inl ⟨by rfl, ?hyr3⟩) H0 ?restr3
        case hyr3 =>
          intro w' hSw
          have s1 := hSw
          have hc := (show w'.cell? ⟨qi, 0, none⟩ = some (.int .i64 (k : Int)) from (Chg.cell_some (show Chg [] wc w' from s1) HIC.out (by simp)))
          go_simp
          try with_reducible rfl
        (try simp only [Act.put, List.getElem_toArray, List.getElem_cons_succ, List.getElem_cons_zero, List.setIfInBounds_toArray, List.set_cons_zero, List.set_cons_succ])
        refine' tkH (i := 4) (v := _) rfl (Or.inl ⟨by rfl, ?hyr4⟩) H0 ?restr4
        case hyr4 =>
          intro w' hSw
          have s1 := hSw
          go_simp
          try with_reducible rfl
        (try simp only [Act.put, List.getElem_toArray, List.getElem_cons_succ, List.getElem_cons_zero, List.setIfInBounds_toArray, List.set_cons_zero, List.set_cons_succ])
        refine' tkH (i := 5) (v := _) rfl (Or.inl ⟨by rfl, ?hyr5⟩) H0 ?restr5
        case hyr5 =>
          intro w' hSw
          have s1 := hSw
          have hc := (show w'.cell? ⟨q2, k, none⟩ = some (.slice po xn pc) from (Chg.cell_some (show Chg [] wc w' from s1) HPC.out (by simp)))
          go_simp
          try with_reducible rfl
        (try simp only [Act.put, List.getElem_toArray, List.getElem_cons_succ, List.getElem_cons_zero, List.setIfInBounds_toArray, List.set_cons_zero, List.set_cons_succ])
        refine wpAnyH_ready (rs := [6]) (by kernel_rfl) (by simp) (AllReadyH.cons rfl (fun K hK => ?_) AllReadyH.nil)
        go_simp
        refine KRk.out.mono ?_
        rintro e wz ⟨rfl, Cz⟩
        go_simp
        refine hK.out _ _ (H0.trans Cz (by simp)) (fun H1 => ?_)
        clear hK K Cz
        refine' tkH (i := 7) (v := _) rfl (Or.inl ⟨by rfl, ?hyr7⟩) H1 ?restr7
        case hyr7 =>
          intro w' hSw
          have s1 := hSw
          go_simp
          try with_reducible rfl
        (try simp only [Act.put, List.getElem_toArray, List.getElem_cons_succ, List.getElem_cons_zero, List.setIfInBounds_toArray, List.set_cons_zero, List.set_cons_succ])
        refine wpAnyH_done (by kernel_rfl) ?_ _
        have HC7 := Lib.hid H1
        have HIC2 := Lib.hid (HC7.out.cell_some HIC.out (by simp))
        have HPC2 := Lib.hid (HC7.out.cell_some HPC.out (by simp))
        have HBC2 := Lib.hid (HBC.out.keep HC7.out)
        have HSX3 := Lib.hid (HSX2.out.chg HC7.out (by simp))
        have HIL2 : Hid (qi < wz.heap.size) := Lib.hid (Nat.lt_of_lt_of_le HIL.out HC7.out.size)
        clear H0 H1 HBC HIC HPC KRk HSX2 HC7 HIL XR7 HCW7
        go_upto_if 96 with (fail)
        go_cut [11] (fun v w' => ∃ (nl2 nc2 : Nat) (no2 : Option Addr), v = .slice no2 nl2 nc2 ∧ Hid (nl2 = (badV r (PS (k + 1))).length) ∧ Hid (BSt w4 w' q2 ln (PS (k + 1)) (PS k).flatten (badV r (PS (k + 1))) (.slice oo ol oc) (.slice no2 nl2 nc2)) ∧ Hid (w'.cell? ⟨qi, 0, none⟩ = some (.int .i64 (k : Int))) ∧ Hid (w'.cell? ⟨q2, k, none⟩ = some (.slice po xn pc)) ∧ Hid (Src w' po (bvs X)))
        case first =>
          cases RB with
          | true =>
            go_wp2_with fail
            all_goals go_meet
            case rel => exact ⟨_, _, _, rfl, by rw [HBN.out]; simpa using HNL, by rw [HBN.out]; simpa using HBC2, HIC2, HPC2, HSX3⟩
          | false =>
            obtain ⟨i0, hi0, hz0, hz1, hz2⟩ := info_parts infoIntU
            have CB := Chg.alloc [] wz (.cells #[.int .i64 (k : Int)] 3)
            have HBD := Lib.hid (HBC2.out.keep CB)
            have hown : (wz.alloc (.cells #[.int .i64 (k : Int)] 3)).ownsRow 0 3 1 (.slice no nl nc) nl (nvs (badV r (PS k))) := by
              have := HBD.out.bad
              rw [← HNL.out] at this
              exact this
            have hsrc := src_row wz #[.int .i64 (k : Int)] 3 (0, 0)
            have hic := HIC2.out
            have hab := HNB.out
            have HAB : Hid (nl + 1 ≤ maxLen ∧ (nl + 1) * 8 ≤ 140737488355328) := Lib.hid (by unfold maxLen; omega)
            clear hab
            go_wp2_with (at_builtin; go_loud (refine wpList_append_y (.tmp 97) (.tmp 99) 63 rfl rfl 3 i0 _ 1 8 Tryd.underlying63 hi0 hz0 hz1 hz2 rfl (by decide) (.slice no nl nc) nl (nvs (badV r (PS k))) hown (some ⟨wz.heap.size, 0, none⟩) 1 1 [.int .i64 (k : Int)] rfl hsrc (fun h => by cases h) (by simp [Value.oneCell']) HAB.out.1 HAB.out.2 rfl rfl ?_))
            intro ao2 c3 wg hown5 hgr hblk
            have CG := Chg.grown hgr (S := (Value.slice no nl nc).ownBlock.toList) (fun b hb => .inl (by simp [hb]))
            have hin : ∀ j ∈ (Value.slice no nl nc).ownBlock.toList, j ∈ forb q2 (.slice oo ol oc) (.slice no nl nc) := fun j hj => List.mem_cons_of_mem _ (List.mem_append_right _ hj)
            have HNL2 : Hid (nl + 1 = (badV r (PS (k + 1))).length) := Lib.hid (by rw [HBN.out, List.length_append, ← HNL.out]; rfl)
            have HB9 : Hid (BSt w4 wg q2 ln (PS (k + 1)) (PS k).flatten (badV r (PS (k + 1))) (.slice oo ol oc) (.slice ao2 (nl + 1) c3)) := Lib.hid (by
              have := HBD.out.bad_to (b := (k : Int)) (m := nl + 1) (c := c3) (ao := ao2) (by rw [List.length_append, ← HNL.out]; rfl) hown5 hgr (by rw [show (wz.alloc (.cells #[.int .i64 (k : Int)] 3)).heap.size = wz.heap.size + 1 by simp]; exact hblk)
              rw [HBN.out]
              exact this)
            have HIC9 := Lib.hid (CG.cell_some (CB.cell_some HIC2.out (by simp)) (fun hm => Nat.lt_irrefl _ (HFQ.out _ (hin _ hm))))
            have HPC9 := Lib.hid (CG.cell_some (CB.cell_some HPC2.out (by simp)) (fun hm => HBD.out.own_ne.2 (by simpa using hm)))
            have HSX9 := Lib.hid ((HSX3.out.chg CB (by simp)).chgN CG (fun hp a ha hm => HPB.out (by rwa [bvs_length] at hp) a ha (hin _ hm)))
            clear hown5 hgr hblk hown hsrc CB CG HAB hic hi0 hz0 hz1 hz2 hin
            go_wp2_with fail
            all_goals go_meet
            case rel => exact ⟨_, _, _, rfl, HNL2, HB9, HIC9, HPC9, HSX9⟩
        case rest =>
        obtain ⟨nl2, nc2, no2, rfl, HNL2, HBR, HICR, HPCR, HSXR⟩ := hcut
        obtain ⟨i0, hi0, hz0, hz1, hz2⟩ := info_parts infoByteU
        have hown : wc.ownsRow 0 5 1 (.slice oo ol oc) ol (bvs (PS k).flatten) := by
          have := HBR.out.out
          rw [← HOL.out] at this
          exact this
        have hic := HICR.out
        have hpc := HPCR.out
        have hab := HXB.out
        have HAB : Hid (ol + xn ≤ maxLen ∧ (ol + xn) * 1 ≤ 140737488355328) := Lib.hid (by unfold maxLen; omega)
        clear hab
        go_wp2_with (at_builtin; go_loud (refine wpList_append_y (.tmp 101) (.tmp 105) 25 rfl rfl 5 i0 _ 1 1 Tryd.underlying25 hi0 hz0 hz1 hz2 rfl (by decide) (.slice oo ol oc) ol (bvs (PS k).flatten) hown po xn pc (bvs X) (by rw [bvs_length, HXN.out, Nat.mul_one]) HSXR.out HPN.out (bvs_one X) HAB.out.1 HAB.out.2 rfl rfl ?_))
        intro ao2 c3 wg hown5 hgr hblk
        have HOL2 : Hid (ol + xn = (PS (k + 1)).flatten.length) := Lib.hid (by rw [HXF.out, List.length_append, ← HOL.out, HXN.out])
        have HB9 : Hid (BSt w4 wg q2 ln (PS (k + 1)) (PS (k + 1)).flatten (badV r (PS (k + 1))) (.slice ao2 (ol + xn) c3) (.slice no2 nl2 nc2)) := Lib.hid (by
          have := HBR.out.out_to (x := X) (m := ol + xn) (c := c3) (ao := ao2) (by rw [List.length_append, ← HOL.out, HXN.out]) hown5 hgr hblk
          rw [HXF.out]
          exact this)
        clear hown5 hgr hblk hown HAB hic hpc hi0 hz0 hz1 hz2
        go_wp2_with fail
        go_roundw
        case rel => exact ⟨k + 1, ol + xn, nl2, c3, nc2, ao2, no2, rfl, rfl, by go_num, hlt, HOL2, HNL2, HB9⟩
        case measure => simp [intOf] <;> omega
      · have e1 : ¬ (k : Int) < ln := fun h => hlt (Int.ofNat_lt.1 h)
        have hkn : k = ln := by omega
        have HOF : Hid (ol = (PS ln).flatten.length) := Lib.hid (by rw [← hkn]; exact HOL.out)
        have HNF : Hid (nl = (badV r (PS ln)).length) := Lib.hid (by rw [← hkn]; exact HNL.out)
        have HBF : Hid (BSt w4 wr q2 ln (PS ln) (PS ln).flatten (badV r (PS ln)) (.slice oo ol oc) (.slice no nl nc)) := Lib.hid (by
          have := HB.out
          rw [hkn] at this
          exact this)
        have HCF : Hid (Chg [] w wr ∧ ∀ j, w4.heap.size ≤ j → w.heap.size ≤ j) := Lib.hid ⟨(HC0.out.trans HC4.out (by simp)).trans HB.out.C (fun j hj => .inr (by
          have := HQ.out
          have := HQ2.out
          rw [List.mem_singleton.1 hj]; omega)), fun j hj => Nat.le_trans (HC0.out.trans HC4.out (by simp)).size hj⟩
        clear HOL HNL HB hkn
        by_cases hnl : nl = 0
        · have HE : Hid (badV r (PS ln) = []) := Lib.hid (List.eq_nil_of_length_eq_zero (by rw [← HNF.out]; exact hnl))
          subst hnl
          go_wp2_with fail
          go_ret3
          rw [HBO.out HMB.out HE.out]
          refine ⟨HCF.out.1, oo, oc, none, 0, by rw [← HOF.out]; rfl, ?_, ?_, World.ownsRow_nil _ _ _ _, (fun k hk => by cases hk)⟩
          · have := HBF.out.out
            rw [← HOF.out] at this ⊢
            exact this
          · exact fun k hk => HCF.out.2 _ (HBF.out.outN k (by rw [HOF.out]; exact hk))
        · have HE : Hid (badV r (PS ln) ≠ []) := Lib.hid (fun h => hnl (by rw [HNF.out, h]; rfl))
          have e5 : (0 : Int) < (nl : Int) := by omega
          clear hnl
          go_wp2_with fail
          go_ret3
          rw [HBB.out HMB.out HE.out]
          refine ⟨HCF.out.1, none, 0, no, nc, by rw [← HNF.out]; rfl, World.ownsRow_nil _ _ _ _, (fun k hk => by cases hk), ?_, ?_⟩
          · have := HBF.out.bad
            rw [← HNF.out] at this ⊢
            exact this
          · exact fun k hk => HCF.out.2 _ (HBF.out.badN k (by rw [HNF.out]; exact hk))
end Go.Proofs.YtfdhpjflkimihaaDoor
/- The law's wanted, times, given, from, walked. No conditions beyond those that each statement types. -/
namespace Go.Proofs.YtfdhpjflkimihaaDoor
open Go.RowKit

theorem ownsRow_src_any {w : World} {B : Nat} {e : TypeId} {size : Nat} {ao : Option Addr} {n c : Nat} {xs : List Value} (h : w.ownsRow B e size (.slice ao n c) n xs) : Src w ao xs := by
  refine ⟨fun ha => ?_, fun a ha j u hu => ?_⟩
  · subst ha
    rcases h.2 with ⟨hv, hn⟩ | ⟨g, cap, cur, hv, _⟩
    · exact List.eq_nil_of_length_eq_zero (by rw [h.1, hn, Nat.zero_mul])
    · simp at hv
  · subst ha
    rcases h.2 with ⟨hv, hn⟩ | ⟨g, cap, cur, hv, _⟩
    · simp at hv
    · simp only [Value.slice.injEq, Option.some.injEq] at hv
      obtain ⟨rfl, _, _⟩ := hv
      exact h.cells (g := g) rfl j u hu
def recC (n B : Int) (v : Value) : Array Value := #[.string ⟨#[119]⟩, .int .i64 1, .bool false, .int .i64 n, .int .i64 0, .int .i64 0, .int .u32 0, .int .u32 0, .int .u32 0, .int .u32 0, .int .u32 0, .int .u32 0, .int .u32 0, .int .u32 0, .int .u32 0, .int .u32 0, .int .u32 0, .int .u32 0, .int .u32 0, .int .u32 0, .int .u32 0, .int .u32 0, .int .i64 B, v, .string ⟨#[]⟩, .int .i64 0, .int .i64 0]
def recZ : Array Value := #[.string ⟨#[]⟩, .int .i64 0, .bool false, .int .i64 0, .int .i64 0, .int .i64 0, .int .u32 0, .int .u32 0, .int .u32 0, .int .u32 0, .int .u32 0, .int .u32 0, .int .u32 0, .int .u32 0, .int .u32 0, .int .u32 0, .int .u32 0, .int .u32 0, .int .u32 0, .int .u32 0, .int .u32 0, .int .u32 0, .int .i64 0, .slice none 0 0, .string ⟨#[]⟩, .int .i64 0, .int .i64 0]
theorem build_rec (n B : Int) (ao : Option Addr) (m c : Nat) (w : World) : (Instr.build 77 #[(0, .string ⟨#[119]⟩), (1, .int .i64 1), (3, .int .i64 n), (7, .int .i64 B), (8, .slice ao m c)]).run Tryd.prog w = .ok (.agg (recC n B (.slice ao m c))) w := by kernel_rfl
theorem zero_rec (w : World) : (zeroValue 77).run Tryd.prog w = .ok (.agg recZ) w := by kernel_rfl
theorem recC_one (n B : Int) (ao : Option Addr) (m c : Nat) : (recC n B (.slice ao m c)).all (·.oneCell') = true := by simp [recC, Value.oneCell']
/-- The record of a file. -/
def recV (d : List UInt8) : RecV := ⟨false, 1, d.length, bszN d.length, listL d⟩
theorem recV_good {d : List UInt8} (h : d.length ≤ 4096) : (recV d).Good d.length := ⟨rfl, rfl, rfl, h, rfl, listL_length d⟩
def Wanted (w : World) (d : List UInt8) (e : Ending) (w' : World) : Prop :=
  Chg [] w w' ∧ ∃ RC ao c, e = .returned (.agg RC) ∧ RecIs w' RC (recV d) ao c ∧ (∀ a, ao = some a → w.heap.size ≤ a.block) ∧ RC.all (·.oneCell') = true
theorem setRow_one {w : World} {g : Nat} {t : TypeId} {Z V : Array Value} (h : w.heap[g]? = some (.cells Z t (0, 0))) (hi : (Tryd.prog.info? t).map (·.size) = some V.size) (hz : Z.size = V.size) (hv : V.all (·.oneCell') = true) :
    (Instr.storeAt t (.pointer (some ⟨g, 0, none⟩)) (.agg V)).run Tryd.prog w = .ok () (w.setRow g V) ∧ (w.setRow g V).heap[g]? = some (.cells V t (0, 0)) ∧ ∀ w0, Chg [] w0 w → w0.heap.size ≤ g → Chg [] w0 (w.setRow g V) :=
  ⟨run_storeAt_row w g _ _ Z V h hi hz hv, setRow_heap w g _ _ _ _ h, fun w0 C hg => C.trans (Chg.setRow (S := [g]) w g V (.inl (by simp))) (fun j hj => by simp at hj; subst hj; exact .inr hg)⟩
set_option maxRecDepth 100000 in
set_option maxHeartbeats 4000000 in
theorem law_wanted (d : List UInt8) (so : Option Addr) (sc : Nat) (w : World) (hL : Laid w) (hs : Src w so (bvs d)) (hd : d.length ≤ 4096) (hc : d.length ≤ sc) :
    Calls Tryd.prog 42 #[.slice so d.length sc] w (Wanted w d) := by
  obtain ⟨Z, hZ⟩ : ∃ Z, recZ = Z := ⟨_, rfl⟩
  have hzr := zero_rec w
  have hzs : Z.size = 27 := by rw [← hZ]; rfl
  rw [hZ] at hzr
  have hx0 := heap_alloc_new w (.cells Z 77)
  have C0 := Chg.alloc [] w (.cells Z 77)
  have hlo : listO d = some (listL d) := by unfold listO; rw [if_neg (by omega)]
  have KL := Lib.hid (fun w' (C : Chg [] w w') => by
    have := blk_List d so sc w' (hL.chg C (by simp)) (hs.chg C (by simp)) hc
    rewrite [hlo] at this
    exact this)
  have KS := Lib.hid (fun w' => by
    have := blk_size (d.length : Int) w'
    rewrite [show bszZ (d.length : Int) = bszN d.length from by unfold bszZ; rw [if_neg (by omega)]; rfl] at this
    exact this)
  have HLL := Lib.hid (listL_length d)
  have HRV : Hid (recV d = ⟨false, 1, d.length, bszN d.length, listL d⟩) := Lib.hid rfl
  obtain ⟨n, hn⟩ : ∃ n, d.length = n := ⟨_, rfl⟩
  obtain ⟨B, hB⟩ : ∃ B, bszN d.length = B := ⟨_, rfl⟩
  rw [hB] at KS HRV
  rw [hn] at KL KS HRV ⊢
  generalize listL d = LL at *
  clear hlo hs hc hn hB hZ
  go_enter Tryd.func42, Tryd.ntmps42
  go_wp2_with (refine wpList_alloc_x rfl 77 rfl (.agg Z) hzr ?_)
  obtain ⟨q, hq⟩ : ∃ q, w.heap.size = q := ⟨_, rfl⟩
  rw [hq] at hx0 ⊢
  have HQ : Hid (w.heap.size ≤ q) := Lib.hid (Nat.le_of_eq hq)
  generalize w.alloc (.cells Z 77) = w1 at *
  have HC0 := Lib.hid C0
  have HX0 := Lib.hid hx0
  clear hq hx0 C0
  refine (KL.out w1 HC0.out).mono ?_
  rintro e w2 ⟨C2, al, cl, rfl, hown, hnew⟩
  have HC2 := Lib.hid C2
  have HOW := Lib.hid hown
  have HNW := Lib.hid hnew
  have HX2 := Lib.hid ((C2.block q (lt_of_block HX0.out) (by simp)).trans HX0.out)
  have hbl := build_rec (n : Int) (B : Int) al LL.length cl w2
  obtain ⟨hst, hh, hcg⟩ := setRow_one (V := recC n B (.slice al LL.length cl)) HX2.out infoRec hzs (recC_one _ _ _ _ _)
  have HH := Lib.hid hh
  have HCG := Lib.hid (hcg w (HC0.out.trans C2 (by simp)) HQ.out)
  have hks := KS.out w2
  clear C2 hown hnew hh hcg
  simp only [recC] at hst
  clear hbl
  go_wp2_with fail
  refine hks.mono ?_
  rintro e w3 ⟨rfl, rfl⟩
  go_wp2_with (refine wpList_store_y 77 (.tmp 2) (.tmp 16) rfl (by first | rfl | go_simp) (.pointer (some ⟨q, 0, none⟩)) (.agg _) _ hst rfl rfl ?_)
  exact bodyPost_ret (v := .agg (recC (n : Int) (B : Int) (.slice al LL.length cl))) (results_cell_row rfl _ _ _ _ (recC (n : Int) (B : Int) (.slice al LL.length cl)) _ _ rfl HH.out Tryd.underlying77 rfl infoRec) rfl ⟨HCG.out, _, al, cl, rfl, by
    have hc := Chg.setRow (S := [q]) w2 q (recC (n : Int) (B : Int) (.slice al LL.length cl)) (.inl (by simp))
    obtain ⟨_, _, hv, hcl, h0⟩ := ownsRow_slice HOW.out
    cases hv
    have hrv := HRV.out
    have hqn : ∀ a, al = some a → a.block ∉ [q] := fun a ha hm => by
      have h1 := HNW.out a.block (by rw [ha]; rfl)
      have h2 := lt_of_block HX0.out
      rw [List.mem_singleton] at hm
      omega
    refine ⟨rfl, by rw [hrv]; rfl, by rw [hrv]; rfl, by rw [hrv]; rfl, by rw [hrv]; rfl, by rw [hrv]; rfl, ?_, by rw [hrv]; exact hcl, fun h => (h0 h).2⟩
    rw [hrv]
    exact (ownsRow_src_any HOW.out).chg hc hqn, fun a ha => by
    have h1 := HNW.out a.block (by rw [ha]; rfl)
    have h2 := HC0.out.size
    omega, recC_one _ _ _ _ _⟩
/-- A text of one byte, many times. -/
theorem law_times (c : UInt8) (n : Nat) (hn : n ≤ 1000) (w : World) : Calls Tryd.prog 53 #[.string ⟨#[c]⟩, .int .i64 n] w fun e w' => e = .returned (.string (many c n)) ∧ Chg [] w w' := by
  have K := Lib.hid (fun w => repeat_one c n hn w)
  generalize many c n = X at *
  go_enter Tryd.func53, Tryd.ntmps53
  go_wp2_with fail
  refine (K.out _).mono ?_
  rintro e w1 ⟨rfl, C1⟩
  go_wp2_with fail
  go_ret
  exact ⟨rfl, C1⟩
def m_given : List UInt8 := List.replicate 32 120 ++ List.replicate 8 121
/-- Bytes in new memory. -/
def NewB (w : World) (xs : List UInt8) (e : Ending) (w' : World) : Prop := ∃ g c, e = .returned (.slice (some ⟨g, 0, none⟩) xs.length c) ∧ xs.length ≤ c ∧ Src w' (some ⟨g, 0, none⟩) (bvs xs) ∧ w.heap.size ≤ g ∧ g < w'.heap.size ∧ Chg [] w w'
set_option maxRecDepth 100000 in
theorem law_given (w : World) : Calls Tryd.prog 52 #[] w (NewB w m_given) := by
  have K := Lib.hid (fun (c : UInt8) (n : Nat) (hn : n ≤ 1000) w => law_times c n hn w)
  go_enter Tryd.func52, Tryd.ntmps52
  go_wp2_with fail
  refine (K.out 120 32 (by decide) _).mono ?_
  rintro e w1 ⟨rfl, C1⟩
  go_wp2_with fail
  refine (K.out 121 8 (by decide) _).mono ?_
  rintro e w2 ⟨rfl, C2⟩
  have HC2 := Lib.hid (C1.trans C2 (by simp))
  clear C1 C2
  go_wp2_with (refine wpList_bytes_of_str _ rfl 9 25 _ rfl 5 Tryd.underlying9 Tryd.underlying25 Tryd.underlying5 (many 120 32 ++ many 121 8) rfl 40 rfl m_given rfl ?_)
  intro g c w3 hc M
  have HM := Lib.hid M
  clear M
  go_wp2_with fail
  go_ret
  have h1 := HC2.out.size
  have h2 := HM.out.new
  exact ⟨g, c, rfl, hc, HM.out.src, by omega, by omega, HC2.out.trans HM.out.chg (by simp)⟩
end Go.Proofs.YtfdhpjflkimihaaDoor
/- The law's from, walked. No conditions beyond those that each statement types. -/
namespace Go.Proofs.YtfdhpjflkimihaaDoor
open Go.RowKit

def fromB (s : StepV) : UInt8 := UInt8.ofNat (48 + s.from_.toNat)
def fromL (l : List StepV) : List UInt8 := l.map fromB
theorem fromL_next {l : List StepV} {k : Nat} {s : StepV} (h : l[k]? = some s) : fromL (l.take (k + 1)) = fromL (l.take k) ++ [fromB s] := by
  unfold fromL
  rw [take_nextE h, List.map_append]
  rfl
theorem fromB_int {f : Int} (h1 : 0 ≤ f) (h2 : f ≤ 9) : wrap64 (48 + f) = 48 + f ∧ IntKind.i64.wrap (48 + f) = 48 + f ∧ IntKind.u8.wrap (48 + f) = 48 + f ∧ (48 + f : Int) = ((UInt8.ofNat (48 + f.toNat)).toNat : Int) := by
  obtain ⟨n, rfl⟩ := Int.eq_ofNat_of_zero_le h1
  have h3 : n ≤ 9 := by omega
  have h4 : n = 0 ∨ n = 1 ∨ n = 2 ∨ n = 3 ∨ n = 4 ∨ n = 5 ∨ n = 6 ∨ n = 7 ∨ n = 8 ∨ n = 9 := by omega
  rcases h4 with rfl | rfl | rfl | rfl | rfl | rfl | rfl | rfl | rfl | rfl <;> decide +kernel
set_option maxRecDepth 100000 in
set_option maxHeartbeats 4000000 in
theorem law_from (l : List StepV) (so : Option Addr) (sc : Nat) (w : World) (hs : Src w so (svs l)) (hlc : l.length ≤ sc) (hl : l.length ≤ 1000) (hf : ∀ (k : Nat) (s : StepV), l[k]? = some s → 0 ≤ s.from_ ∧ s.from_ ≤ 9) :
    Calls Tryd.prog 55 #[.slice so l.length sc] w fun e w' => e = .returned (.string ⟨(fromL l).toArray⟩) ∧ Chg [] w w' := by
  have HST := Lib.hid (fun (k : Nat) (s : StepV) (h : l[k]? = some s) (wr : World) (C : Chg [] w wr) => show ∃ a, so = some a ∧ wr.cell? ⟨(a.add (k * 5)).block, (a.add (k * 5)).off + 1, none⟩ = some (.int .i64 s.from_) from by
    have h1 := (List.getElem?_eq_some_iff.1 h).1
    obtain ⟨a, rfl, _⟩ := hs.lt (by
      rw [show (svs l).length = l.length * 5 from flat_length (enc := fun s : StepV => s.cells.toList) (size := 5) (fun _ => rfl) l]
      omega)
    have hc := src_flat (w := wr) (a := a) (cells := fun s : StepV => s.cells.toList) (size := 5) (fun _ => rfl) ((hs.chg C (by simp)).cell a rfl) h 1 (.int .i64 s.from_) rfl
    exact ⟨a, rfl, hc⟩)
  have HGE := Lib.hid (fun k (hk : k < l.length) => show ∃ s, l[k]? = some s from ⟨_, List.getElem?_eq_getElem hk⟩)
  have HTA : Hid (l.take l.length = l) := Lib.hid List.take_length
  have HF := Lib.hid hf
  obtain ⟨n, hn⟩ : ∃ n, l.length = n := ⟨_, rfl⟩
  rw [hn] at hl hlc HGE HTA ⊢
  clear hs hn hf
  go_enter Tryd.func55, Tryd.ntmps55
  go_wp2_with fail
  go_loopw [3, 4] (fun v3 v4 wr => ∃ (k : Nat) (S : ByteArray), v3 = .string S ∧ v4 = .int .i64 (k : Int) ∧ k ≤ n ∧ S.size = k ∧ Hid (S.data.toList = fromL (l.take k)) ∧ Hid (Chg [] w wr)) (fun _ v _ => n - (intOf v).toNat)
  case atStart => exact ⟨0, ⟨#[]⟩, rfl, rfl, Nat.zero_le _, rfl, Lib.hid rfl, Lib.hid (Chg.refl _ _)⟩
  case round =>
    obtain ⟨k, S, rfl, rfl, hk, hS, HS, HC⟩ := hrel
    by_cases hlt : k < n
    · have e1 : (k : Int) < n := Int.ofNat_lt.2 hlt
      have e0 : (0 : Int) ≤ k := Int.natCast_nonneg _
      have hkc : k < sc := by omega
      obtain ⟨s, hsk⟩ := HGE.out k hlt
      obtain ⟨a, rfl, hc⟩ := HST.out k s hsk wr HC.out
      have HNX := Lib.hid (fromL_next hsk)
      obtain ⟨f1, f2⟩ := HF.out k s hsk
      obtain ⟨f3, f4, f5, f6⟩ := fromB_int f1 f2
      have HFB : Hid (fromB s = UInt8.ofNat (48 + s.from_.toNat)) := Lib.hid rfl
      generalize s.from_ = f at *
      obtain ⟨b, hb⟩ : ∃ b : UInt8, UInt8.ofNat (48 + f.toNat) = b := ⟨_, rfl⟩
      rw [hb] at f6 HFB
      obtain ⟨z, hz⟩ : ∃ z : Int, 48 + f = z := ⟨_, rfl⟩
      rw [hz] at f3 f4 f5 f6
      have HZ := Lib.hid hz
      subst f6
      have CA := Chg.alloc [] wr (.cells #[.int .u8 (b.toNat : Int)] 5)
      have hsrc := src_row wr #[.int .u8 (b.toNat : Int)] 5 (0, 0)
      clear hsk f1 f2 hb
      go_wp2_with (refine wpList_str_of_bytes _ rfl 25 9 (.tmp 19) rfl 5 Tryd.underlying25 Tryd.underlying5 Tryd.underlying9 (some ⟨wr.heap.size, 0, none⟩) 1 1 rfl ⟨#[b]⟩ rfl hsrc ?_)
      go_roundw
      case rel => exact ⟨k + 1, S ++ ⟨#[b]⟩, rfl, by go_num, hlt, by rw [ByteArray.size_append, hS]; rfl, Lib.hid (by rw [HNX.out, HFB.out, ByteArray.data_append, Array.toList_append, HS.out]), Lib.hid (HC.out.trans CA (by simp))⟩
      case measure => simp [intOf] <;> omega
    · have e1 : ¬ (k : Int) < n := fun h => hlt (Int.ofNat_lt.1 h)
      have hkn : k = n := by omega
      have HR : Hid (S = ⟨(fromL l).toArray⟩) := Lib.hid (by
        have h := HS.out
        rw [hkn, HTA.out] at h
        rw [← h])
      clear hkn
      go_wp2_with fail
      go_ret
      exact ⟨by rw [HR.out]; rfl, HC.out⟩
end Go.Proofs.YtfdhpjflkimihaaDoor
/- The chapter's example of the copier, in plain words. No conditions beyond those that each statement types. -/
namespace Go.Proofs.YtfdhpjflkimihaaDoor
open Go.RowKit

theorem given_parts : partsL m_given = [m_x16, m_x16, m_y8] := by decide
theorem given_L : (recV m_given).L = [digest m_x16, digest m_x16, digest m_y8] := by
  show (partsL m_given).map digest = _
  rw [given_parts]
  rfl
theorem given_n : m_given.length = 40 := rfl
theorem given_good : (recV m_given).Good 40 := recV_good (d := m_given) (by decide)
theorem given_cnt : cntN 40 = 3 := by decide
theorem given_len0 : (recV m_given).len 0 = 16 := given_good.lenP (i := 0) (by decide)
theorem given_len1 : (recV m_given).len 1 = 16 := given_good.lenP (i := 1) (by decide)
theorem given_len2 : (recV m_given).len 2 = 8 := given_good.lenP (i := 2) (by decide)
theorem given_dig0 : (recV m_given).dig 0 = digest m_x16 := by unfold RecV.dig; rw [given_L]; rfl
theorem given_dig1 : (recV m_given).dig 1 = digest m_x16 := by unfold RecV.dig; rw [given_L]; rfl
theorem given_dig2 : (recV m_given).dig 2 = digest m_y8 := by unfold RecV.dig; rw [given_L]; rfl
theorem rightB_eq (r : RecV) (i : Nat) (xs : List UInt8) : rightB r i xs = (decide ((xs.length : Int) = r.len i) && sameHash (digest xs) (r.dig i)) := rfl
theorem given_r0 (xs : List UInt8) : rightB (recV m_given) 0 xs = (decide ((xs.length : Int) = 16) && sameHash (digest xs) (digest m_x16)) := by rw [rightB_eq, given_dig0]; show (decide (_ = (recV m_given).len 0) && _) = _; rw [given_len0]
theorem given_r1 (xs : List UInt8) : rightB (recV m_given) 1 xs = (decide ((xs.length : Int) = 16) && sameHash (digest xs) (digest m_x16)) := by rw [rightB_eq, given_dig1]; show (decide (_ = (recV m_given).len 1) && _) = _; rw [given_len1]
theorem given_r2 (xs : List UInt8) : rightB (recV m_given) 2 xs = (decide ((xs.length : Int) = 8) && sameHash (digest xs) (digest m_y8)) := by rw [rightB_eq, given_dig2]; show (decide (_ = (recV m_given).len 2) && _) = _; rw [given_len2]
theorem given_s10 : sameBlk (recV m_given) 1 0 = true := by
  unfold sameBlk
  rw [given_dig0, given_dig1, sameHash_self]
  show (true && decide ((recV m_given).len 0 = (recV m_given).len 1)) = true
  rw [given_len0, given_len1]
  rfl
theorem given_s2 (k : Nat) (hk : k < 2) : sameBlk (recV m_given) 2 k = false := by
  unfold sameBlk
  have h : (recV m_given).len k = 16 := by
    have : k = 0 ∨ k = 1 := by omega
    rcases this with rfl | rfl
    · exact given_len0
    · exact given_len1
  rw [h]
  show (_ && decide ((16 : Int) = (recV m_given).len 2)) = false
  rw [given_len2]
  exact Bool.and_false _
/-- The steps of the plan where nothing is there. -/
def planG : List StepV := [⟨0, 4, ⟨#[]⟩, 0, 0⟩, ⟨1, 3, ⟨#[]⟩, 0, 0⟩, ⟨2, 4, ⟨#[]⟩, 0, 0⟩]
theorem given_plan : planL (recV m_given) 40 [] (fun _ => none) 3 = planG := by
  have p0 : stepPl (recV m_given) 40 [] (fun _ => none) 0 = ⟨0, 4, ⟨#[]⟩, 0, 0⟩ := by
    unfold stepPl
    rw [if_neg (by rw [show plT 40 [] 0 = [] from by decide, given_r0]; decide)]
    rfl
  have p1 : stepPl (recV m_given) 40 [] (fun _ => none) 1 = ⟨1, 3, ⟨#[]⟩, 0, 0⟩ := by
    unfold stepPl
    rw [if_neg (by rw [show plT 40 [] 1 = [] from by decide, given_r1]; decide), find_first (k := 0) (by decide) given_s10 (fun t ht => by omega)]
    rfl
  have p2 : stepPl (recV m_given) 40 [] (fun _ => none) 2 = ⟨2, 4, ⟨#[]⟩, 0, 0⟩ := by
    unfold stepPl
    rw [if_neg (by rw [show plT 40 [] 2 = [] from by decide, given_r2]; decide), find_no (fun t ht => given_s2 t ht)]
    rfl
  unfold planL planG
  rw [show List.range 3 = [0, 1, 2] from rfl, List.map_cons, List.map_cons, List.map_cons, List.map_nil, p0, p1, p2]
theorem given_may : mayB planG 3 = true := by decide
theorem given_from : fromL planG = [52, 51, 52] := by decide
def gotG (a1 : Option Addr) (c1 : Nat) (a2 : Option Addr) (c2 : Nat) : List GotV := [⟨0, a1, m_x16, c1⟩, ⟨2, a2, m_y8, c2⟩]
theorem given_build (a1 : Option Addr) (c1 : Nat) (a2 : Option Addr) (c2 : Nat) : buildV (recV m_given) 40 [] (fun _ => none) (gotG a1 c1 a2 c2) planG = ⟨m_given, [], 0⟩ := by
  have hp : partsV (recV m_given) 40 [] (fun _ => none) (gotG a1 c1 a2 c2) planG 3 = [m_x16, m_x16, m_y8] := rfl
  have hb : badV (recV m_given) [m_x16, m_x16, m_y8] = [] := by
    unfold badV
    rw [show List.range [m_x16, m_x16, m_y8].length = [0, 1, 2] from rfl]
    have e0 : rightB (recV m_given) 0 m_x16 = true := by rw [given_r0, sameHash_self]; rfl
    have e1 : rightB (recV m_given) 1 m_x16 = true := by rw [given_r1, sameHash_self]; rfl
    have e2 : rightB (recV m_given) 2 m_y8 = true := by rw [given_r2, sameHash_self]; rfl
    simp [e0, e1, e2]
  unfold buildV
  rw [if_neg (by rw [given_good.want]; simp), given_cnt, given_may, if_neg (by decide), show planG.length = 3 from rfl, hp, if_neg (by rw [hb]; simp)]
  congr 1
end Go.Proofs.YtfdhpjflkimihaaDoor
/- The reference's SameInts, the law's gots, walked. No conditions beyond those that each statement types. -/
namespace Go.Proofs.YtfdhpjflkimihaaDoor
open Go.RowKit

set_option maxRecDepth 100000 in
set_option maxHeartbeats 4000000 in
theorem same_ints (la lb : List Int) (ao bo : Option Addr) (ac bc : Nat) (w : World) (ha : Src w ao (nvs la)) (hb : Src w bo (nvs lb)) (hac : la.length ≤ ac) (hbc : lb.length ≤ bc) (hl : la.length ≤ 1000000) :
    Calls Tryd.prog 49 #[.slice ao la.length ac, .slice bo lb.length bc] w fun e w' => e = .returned (.bool (decide (la = lb))) ∧ Chg [] w w' := by
  have HAT : Hid (∀ (l : List Int) (o : Option Addr) (k : Nat), Src w o (nvs l) → k < l.length → ∃ a x, o = some a ∧ l[k]? = some x ∧ w.cell? (a.add k) = some (.int .i64 x)) := Lib.hid (fun l o k hs hk => by
    obtain ⟨a, rfl, _⟩ := hs.lt (by rw [nvs_len]; omega)
    refine ⟨a, l[k], rfl, List.getElem?_eq_getElem hk, hs.cell a rfl k _ ?_⟩
    unfold nvs
    rw [List.getElem?_map, List.getElem?_eq_getElem hk]
    rfl)
  have HA := Lib.hid ha
  have HB := Lib.hid hb
  obtain ⟨na, hna⟩ : ∃ n, la.length = n := ⟨_, rfl⟩
  obtain ⟨nb, hnb⟩ : ∃ n, lb.length = n := ⟨_, rfl⟩
  have HNA := Lib.hid hna
  have HNB := Lib.hid hnb
  rw [hna] at hac hl ⊢
  rw [hnb] at hbc ⊢
  clear hna hnb ha hb
  go_enter Tryd.func49, Tryd.ntmps49
  by_cases hne : na = nb
  · subst hne
    go_wp2_with fail
    go_loopw [5] (fun v wr => ∃ k : Nat, v = .int .i64 (k : Int) ∧ k ≤ na ∧ Hid (∀ j, j < k → la[j]? = lb[j]?) ∧ Hid (Chg [] w wr)) (fun v _ => na - (intOf v).toNat)
    case atStart => exact ⟨0, rfl, Nat.zero_le _, Lib.hid (fun j hj => by omega), Lib.hid (Chg.refl _ _)⟩
    case round =>
      obtain ⟨k, rfl, hk, HS, HC⟩ := hrel
      by_cases hlt : k < na
      · have e1 : (k : Int) < na := Int.ofNat_lt.2 hlt
        have e0 : (0 : Int) ≤ k := Int.natCast_nonneg _
        have hk1 : k < ac := by omega
        have hk2 : k < bc := by omega
        obtain ⟨a, x, rfl, hx, hca⟩ := HAT.out la _ k HA.out (by rw [HNA.out]; exact hlt)
        obtain ⟨b, y, rfl, hy, hcb⟩ := HAT.out lb _ k HB.out (by rw [HNB.out]; exact hlt)
        have HX := Lib.hid hx
        have HY := Lib.hid hy
        have HCA := Lib.hid (HC.out.cell_some hca (by simp))
        have HCB := Lib.hid (HC.out.cell_some hcb (by simp))
        clear hx hy hca hcb
        by_cases hxy : x = y
        · have HS2 : Hid (∀ j, j < k + 1 → la[j]? = lb[j]?) := Lib.hid (fun j hj => by
            by_cases h : j < k
            · exact HS.out j h
            · have : j = k := by omega
              rw [this, HX.out, HY.out, hxy])
          subst hxy
          go_upto_region 6 with (fail)
          refine wp_region_held_drew (S := fun w' => Chg [] wr w') (by kernel_rfl) ((Chg.drewN [] wr 1)) (fun H0 => ?_)
          refine' tkH (i := 0) (v := _) rfl (Or.inl ⟨by rfl, ?hye0⟩) H0 ?reste0
          case hye0 =>
            intro w' hSw
            have s1 := hSw
            go_simp
            try with_reducible rfl
          (try simp only [Act.put, List.getElem_toArray, List.getElem_cons_zero, List.setIfInBounds_toArray, List.set_cons_zero, List.set_cons_succ])
          refine' tkH (i := 1) (v := _) rfl (Or.inl ⟨by rfl, ?hye1⟩) H0 ?reste1
          case hye1 =>
            intro w' hSw
            have s1 := hSw
            go_simp
            try with_reducible rfl
          (try simp only [Act.put, List.getElem_toArray, List.getElem_cons_succ, List.getElem_cons_zero, List.setIfInBounds_toArray, List.set_cons_zero, List.set_cons_succ])
          refine' tkH (i := 2) (v := _) rfl (Or.inl ⟨by rfl, ?hye2⟩) H0 ?reste2
          case hye2 =>
            intro w' hSw
            have s1 := hSw
            go_simp
            try with_reducible rfl
          (try simp only [Act.put, List.getElem_toArray, List.getElem_cons_succ, List.getElem_cons_zero, List.setIfInBounds_toArray, List.set_cons_zero, List.set_cons_succ])
          refine' tkH (i := 3) (v := _) rfl (Or.inl ⟨by rfl, ?hye3⟩) H0 ?reste3
          case hye3 =>
            intro w' hSw
            have s1 := hSw
            have hc := (show w'.cell? (a.add k) = some (.int .i64 x) from (Chg.cell_some s1 HCA.out (by simp)))
            go_simp
            try with_reducible rfl
          (try simp only [Act.put, List.getElem_toArray, List.getElem_cons_succ, List.getElem_cons_zero, List.setIfInBounds_toArray, List.set_cons_zero, List.set_cons_succ])
          refine' tkH (i := 4) (v := _) rfl (Or.inl ⟨by rfl, ?hye4⟩) H0 ?reste4
          case hye4 =>
            intro w' hSw
            have s1 := hSw
            go_simp
            try with_reducible rfl
          (try simp only [Act.put, List.getElem_toArray, List.getElem_cons_succ, List.getElem_cons_zero, List.setIfInBounds_toArray, List.set_cons_zero, List.set_cons_succ])
          refine' tkH (i := 5) (v := _) rfl (Or.inl ⟨by rfl, ?hye5⟩) H0 ?reste5
          case hye5 =>
            intro w' hSw
            have s1 := hSw
            go_simp
            try with_reducible rfl
          (try simp only [Act.put, List.getElem_toArray, List.getElem_cons_succ, List.getElem_cons_zero, List.setIfInBounds_toArray, List.set_cons_zero, List.set_cons_succ])
          refine' tkH (i := 6) (v := _) rfl (Or.inl ⟨by rfl, ?hye6⟩) H0 ?reste6
          case hye6 =>
            intro w' hSw
            have s1 := hSw
            go_simp
            try with_reducible rfl
          (try simp only [Act.put, List.getElem_toArray, List.getElem_cons_succ, List.getElem_cons_zero, List.setIfInBounds_toArray, List.set_cons_zero, List.set_cons_succ])
          refine' tkH (i := 7) (v := _) rfl (Or.inl ⟨by rfl, ?hye7⟩) H0 ?reste7
          case hye7 =>
            intro w' hSw
            have s1 := hSw
            have hc := (show w'.cell? (b.add k) = some (.int .i64 x) from (Chg.cell_some s1 HCB.out (by simp)))
            go_simp
            try with_reducible rfl
          (try simp only [Act.put, List.getElem_toArray, List.getElem_cons_succ, List.getElem_cons_zero, List.setIfInBounds_toArray, List.set_cons_zero, List.set_cons_succ])
          refine' tkH (i := 8) (v := .bool false) rfl (Or.inl ⟨by rfl, ?hye8⟩) H0 ?reste8
          case hye8 =>
            intro w' hSw
            have s1 := hSw
            go_simp
            try (first | exact hxy | simp [hxy])
          (try simp only [Act.put, List.getElem_toArray, List.getElem_cons_succ, List.getElem_cons_zero, List.setIfInBounds_toArray, List.set_cons_zero, List.set_cons_succ])
          refine wpAnyH_done (by kernel_rfl) ?_ _
          have HCR := Lib.hid (HC.out.trans H0 (by simp))
          clear HCA HCB HX HY HS HC H0
          go_wp2_with fail
          go_roundw
          case rel => exact ⟨k + 1, by go_num, hlt, HS2, HCR⟩
          case measure => simp [intOf] <;> omega
        · have HR : Hid (decide (la = lb) = false) := Lib.hid (decide_eq_false (fun h => hxy (by
            have h1 := HX.out
            rw [h, HY.out] at h1
            exact (Option.some.inj h1).symm)))
          go_upto_region 6 with (fail)
          refine wp_region_held_drew (S := fun w' => Chg [] wr w') (by kernel_rfl) ((Chg.drewN [] wr 1)) (fun H0 => ?_)
          refine' tkH (i := 0) (v := _) rfl (Or.inl ⟨by rfl, ?hyn0⟩) H0 ?restn0
          case hyn0 =>
            intro w' hSw
            have s1 := hSw
            go_simp
            try with_reducible rfl
          (try simp only [Act.put, List.getElem_toArray, List.getElem_cons_zero, List.setIfInBounds_toArray, List.set_cons_zero, List.set_cons_succ])
          refine' tkH (i := 1) (v := _) rfl (Or.inl ⟨by rfl, ?hyn1⟩) H0 ?restn1
          case hyn1 =>
            intro w' hSw
            have s1 := hSw
            go_simp
            try with_reducible rfl
          (try simp only [Act.put, List.getElem_toArray, List.getElem_cons_succ, List.getElem_cons_zero, List.setIfInBounds_toArray, List.set_cons_zero, List.set_cons_succ])
          refine' tkH (i := 2) (v := _) rfl (Or.inl ⟨by rfl, ?hyn2⟩) H0 ?restn2
          case hyn2 =>
            intro w' hSw
            have s1 := hSw
            go_simp
            try with_reducible rfl
          (try simp only [Act.put, List.getElem_toArray, List.getElem_cons_succ, List.getElem_cons_zero, List.setIfInBounds_toArray, List.set_cons_zero, List.set_cons_succ])
          refine' tkH (i := 3) (v := _) rfl (Or.inl ⟨by rfl, ?hyn3⟩) H0 ?restn3
          case hyn3 =>
            intro w' hSw
            have s1 := hSw
            have hc := (show w'.cell? (a.add k) = some (.int .i64 x) from (Chg.cell_some s1 HCA.out (by simp)))
            go_simp
            try with_reducible rfl
          (try simp only [Act.put, List.getElem_toArray, List.getElem_cons_succ, List.getElem_cons_zero, List.setIfInBounds_toArray, List.set_cons_zero, List.set_cons_succ])
          refine' tkH (i := 4) (v := _) rfl (Or.inl ⟨by rfl, ?hyn4⟩) H0 ?restn4
          case hyn4 =>
            intro w' hSw
            have s1 := hSw
            go_simp
            try with_reducible rfl
          (try simp only [Act.put, List.getElem_toArray, List.getElem_cons_succ, List.getElem_cons_zero, List.setIfInBounds_toArray, List.set_cons_zero, List.set_cons_succ])
          refine' tkH (i := 5) (v := _) rfl (Or.inl ⟨by rfl, ?hyn5⟩) H0 ?restn5
          case hyn5 =>
            intro w' hSw
            have s1 := hSw
            go_simp
            try with_reducible rfl
          (try simp only [Act.put, List.getElem_toArray, List.getElem_cons_succ, List.getElem_cons_zero, List.setIfInBounds_toArray, List.set_cons_zero, List.set_cons_succ])
          refine' tkH (i := 6) (v := _) rfl (Or.inl ⟨by rfl, ?hyn6⟩) H0 ?restn6
          case hyn6 =>
            intro w' hSw
            have s1 := hSw
            go_simp
            try with_reducible rfl
          (try simp only [Act.put, List.getElem_toArray, List.getElem_cons_succ, List.getElem_cons_zero, List.setIfInBounds_toArray, List.set_cons_zero, List.set_cons_succ])
          refine' tkH (i := 7) (v := _) rfl (Or.inl ⟨by rfl, ?hyn7⟩) H0 ?restn7
          case hyn7 =>
            intro w' hSw
            have s1 := hSw
            have hc := (show w'.cell? (b.add k) = some (.int .i64 y) from (Chg.cell_some s1 HCB.out (by simp)))
            go_simp
            try with_reducible rfl
          (try simp only [Act.put, List.getElem_toArray, List.getElem_cons_succ, List.getElem_cons_zero, List.setIfInBounds_toArray, List.set_cons_zero, List.set_cons_succ])
          refine' tkH (i := 8) (v := .bool true) rfl (Or.inl ⟨by rfl, ?hyn8⟩) H0 ?restn8
          case hyn8 =>
            intro w' hSw
            have s1 := hSw
            go_simp
            try (first | exact hxy | simp [hxy])
          (try simp only [Act.put, List.getElem_toArray, List.getElem_cons_succ, List.getElem_cons_zero, List.setIfInBounds_toArray, List.set_cons_zero, List.set_cons_succ])
          refine wpAnyH_done (by kernel_rfl) ?_ _
          have HCR := Lib.hid (HC.out.trans H0 (by simp))
          clear HCA HCB HX HY HS HC H0
          go_wp2_with fail
          go_ret
          exact ⟨by rw [HR.out]; rfl, HCR.out⟩
      · have e1 : ¬ (k : Int) < na := fun h => hlt (Int.ofNat_lt.1 h)
        have HR : Hid (decide (la = lb) = true) := Lib.hid (decide_eq_true (List.ext_getElem? (fun j => by
          by_cases hj : j < k
          · exact HS.out j hj
          · have h1 := HNA.out
            have h2 := HNB.out
            rw [List.getElem?_eq_none (show la.length ≤ j by omega), List.getElem?_eq_none (show lb.length ≤ j by omega)])))
        go_wp2_with fail
        go_ret
        exact ⟨by rw [HR.out]; rfl, HC.out⟩
  · have h1 : ¬ (na : Int) = (nb : Int) := by omega
    have h2 : ((na : Int) == (nb : Int)) = false := by simp; omega
    have HR : Hid (decide (la = lb) = false) := Lib.hid (decide_eq_false (fun h => hne (by rw [← HNA.out, ← HNB.out, h])))
    go_wp2_with fail
    go_ret
    exact ⟨by rw [HR.out]; rfl, Chg.refl _ _⟩
theorem infoGotR : (Tryd.prog.info? 172).map (fun i => (i.zero, i.size, i.bytes)) = some (some (.agg #[.int .i64 0, .slice none 0 0]), 2, 32) := by kernel_rfl
theorem gvs_next {G : List GotV} {k : Nat} {g : GotV} (h : G[k]? = some g) : gvs (G.take (k + 1)) = gvs (G.take k) ++ [.int .i64 g.block, .slice g.ao g.xs.length g.cap] := by
  unfold gvs
  rw [take_nextE h, List.flatMap_append]
  rfl
def GotsTo (w : World) (G : List GotV) (e : Ending) (w' : World) : Prop :=
  ∃ po pc, e = .returned (.slice po G.length pc) ∧ w'.ownsRow 0 172 2 (.slice po G.length pc) G.length (gvs G) ∧ (∀ k, (Value.slice po G.length pc).ownBlock = some k → w.heap.size ≤ k) ∧ Chg [] w w'
set_option maxRecDepth 100000 in
set_option maxHeartbeats 4000000 in
theorem law_gots (G : List GotV) (so : Option Addr) (c : Nat) (w : World) (hs : Src w so (gvs G)) (hc : G.length ≤ c) (hl : G.length ≤ 1000) :
    Calls Tryd.prog 85 #[.slice so G.length c] w (GotsTo w G) := by
  have HSG := Lib.hid (fun (k : Nat) (g : GotV) (h : G[k]? = some g) => show ∃ a, so = some a ∧ (∀ wr, Chg [] w wr → wr.cell? (a.add (k * 2)) = some (.int .i64 g.block)) ∧ ∀ wr, Chg [] w wr → wr.cell? ⟨(a.add (k * 2)).block, (a.add (k * 2)).off + 1, none⟩ = some (.slice g.ao g.xs.length g.cap) from by
    have h1 := (List.getElem?_eq_some_iff.1 h).1
    obtain ⟨a, rfl, _⟩ := hs.lt (by rw [gvs_len]; omega)
    exact ⟨a, rfl, fun wr C => src_flat (w := wr) (a := a) (cells := fun s : GotV => s.cells.toList) (size := 2) (fun _ => rfl) ((hs.chg C (by simp)).cell a rfl) h 0 (.int .i64 g.block) rfl,
      fun wr C => src_flat (w := wr) (a := a) (cells := fun s : GotV => s.cells.toList) (size := 2) (fun _ => rfl) ((hs.chg C (by simp)).cell a rfl) h 1 (.slice g.ao g.xs.length g.cap) rfl⟩)
  have HGE := Lib.hid (fun k (hk : k < G.length) => show ∃ s, G[k]? = some s from ⟨_, List.getElem?_eq_getElem hk⟩)
  have HTA : Hid (G.take G.length = G) := Lib.hid List.take_length
  have HGN := Lib.hid (fun (k : Nat) (g : GotV) (h : G[k]? = some g) => gvs_next h)
  obtain ⟨n, hn⟩ : ∃ n, G.length = n := ⟨_, rfl⟩
  have HNN := Lib.hid hn
  rw [hn] at hl hc HGE HTA ⊢
  clear hs hn
  go_enter Tryd.func85, Tryd.ntmps85
  go_wp2_with fail
  go_loopw [3, 4] (fun v3 v4 wr => ∃ (k c' : Nat) (ao' : Option Addr), v3 = .slice ao' k c' ∧ v4 = .int .i64 (k : Int) ∧ k ≤ n ∧ Hid (wr.ownsRow 0 172 2 (.slice ao' k c') k (gvs (G.take k))) ∧ Hid (∀ b, (Value.slice ao' k c').ownBlock = some b → w.heap.size ≤ b) ∧ Hid (Chg [] w wr)) (fun _ v _ => n - (intOf v).toNat)
  case atStart => exact ⟨0, 0, none, rfl, rfl, Nat.zero_le _, Lib.hid (World.ownsRow_nil _ _ _ _), Lib.hid (fun b hb => by cases hb), Lib.hid (Chg.refl _ _)⟩
  case round =>
    obtain ⟨k, c', ao', rfl, rfl, hk, HO, HNW, HC⟩ := hrel
    by_cases hlt : k < n
    · have e1 : (k : Int) < n := Int.ofNat_lt.2 hlt
      have e0 : (0 : Int) ≤ k := Int.natCast_nonneg _
      have hkc : k < c := by omega
      obtain ⟨g, hg⟩ := HGE.out k hlt
      obtain ⟨a, rfl, hg0, hg1⟩ := HSG.out k g hg
      have HG0 := Lib.hid hg0
      have HG1 := Lib.hid hg1
      have HNX := Lib.hid (HGN.out k g hg)
      obtain ⟨i0, hi0, hz0, hz1, hz2⟩ := info_parts infoGotR
      have HAB : Hid (k + 1 ≤ maxLen ∧ (k + 1) * 32 ≤ 140737488355328) := Lib.hid (by unfold maxLen; omega)
      generalize g.block = gb at *
      generalize g.ao = ga at *
      generalize g.xs.length = gl at *
      generalize g.cap = gcp at *
      clear hg hg0 hg1
      go_upto_region 5 with (fail)
      refine wp_region_held_drew (S := fun w' => Chg [] w w') (by kernel_rfl) ((HC.out.trans (Chg.drewN [] wr 1) (by simp))) (fun H0 => ?_)
      refine' tkH (i := 0) (v := _) rfl (Or.inl ⟨by rfl, ?hyg0⟩) H0 ?restg0
      case hyg0 =>
        intro w' hSw
        have s1 := hSw
        go_simp
        try with_reducible rfl
      (try simp only [Act.put, List.getElem_toArray, List.getElem_cons_zero, List.setIfInBounds_toArray, List.set_cons_zero, List.set_cons_succ])
      refine' tkH (i := 1) (v := _) rfl (Or.inl ⟨by rfl, ?hyg1⟩) H0 ?restg1
      case hyg1 =>
        intro w' hSw
        have s1 := hSw
        go_simp
        try with_reducible rfl
      (try simp only [Act.put, List.getElem_toArray, List.getElem_cons_succ, List.getElem_cons_zero, List.setIfInBounds_toArray, List.set_cons_zero, List.set_cons_succ])
      refine' tkH (i := 2) (v := _) rfl (Or.inl ⟨by rfl, ?hyg2⟩) H0 ?restg2
      case hyg2 =>
        intro w' hSw
        have s1 := hSw
        go_simp
        try with_reducible rfl
      (try simp only [Act.put, List.getElem_toArray, List.getElem_cons_succ, List.getElem_cons_zero, List.setIfInBounds_toArray, List.set_cons_zero, List.set_cons_succ])
      refine' tkH (i := 3) (v := _) rfl (Or.inl ⟨by rfl, ?hyg3⟩) H0 ?restg3
      case hyg3 =>
        intro w' hSw
        have s1 := hSw
        go_simp
        try with_reducible rfl
      (try simp only [Act.put, List.getElem_toArray, List.getElem_cons_succ, List.getElem_cons_zero, List.setIfInBounds_toArray, List.set_cons_zero, List.set_cons_succ])
      refine' tkH (i := 4) (v := _) rfl (Or.inl ⟨by rfl, ?hyg4⟩) H0 ?restg4
      case hyg4 =>
        intro w' hSw
        have s1 := hSw
        go_simp
        try with_reducible rfl
      (try simp only [Act.put, List.getElem_toArray, List.getElem_cons_succ, List.getElem_cons_zero, List.setIfInBounds_toArray, List.set_cons_zero, List.set_cons_succ])
      refine' tkH (i := 5) (v := _) rfl (Or.inl ⟨by rfl, ?hyg5⟩) H0 ?restg5
      case hyg5 =>
        intro w' hSw
        have s1 := hSw
        have hc := (show w'.cell? (a.add (k * 2)) = some (.int .i64 gb) from HG0.out w' s1)
        go_simp
        try with_reducible rfl
      (try simp only [Act.put, List.getElem_toArray, List.getElem_cons_succ, List.getElem_cons_zero, List.setIfInBounds_toArray, List.set_cons_zero, List.set_cons_succ])
      refine' tkH (i := 6) (v := _) rfl (Or.inl ⟨by rfl, ?hyg6⟩) H0 ?restg6
      case hyg6 =>
        intro w' hSw
        have s1 := hSw
        go_simp
        try with_reducible rfl
      (try simp only [Act.put, List.getElem_toArray, List.getElem_cons_succ, List.getElem_cons_zero, List.setIfInBounds_toArray, List.set_cons_zero, List.set_cons_succ])
      refine' tkH (i := 7) (v := _) rfl (Or.inl ⟨by rfl, ?hyg7⟩) H0 ?restg7
      case hyg7 =>
        intro w' hSw
        have s1 := hSw
        go_simp
        try with_reducible rfl
      (try simp only [Act.put, List.getElem_toArray, List.getElem_cons_succ, List.getElem_cons_zero, List.setIfInBounds_toArray, List.set_cons_zero, List.set_cons_succ])
      refine' tkH (i := 8) (v := _) rfl (Or.inl ⟨by rfl, ?hyg8⟩) H0 ?restg8
      case hyg8 =>
        intro w' hSw
        have s1 := hSw
        go_simp
        try with_reducible rfl
      (try simp only [Act.put, List.getElem_toArray, List.getElem_cons_succ, List.getElem_cons_zero, List.setIfInBounds_toArray, List.set_cons_zero, List.set_cons_succ])
      refine' tkH (i := 9) (v := _) rfl (Or.inl ⟨by rfl, ?hyg9⟩) H0 ?restg9
      case hyg9 =>
        intro w' hSw
        have s1 := hSw
        go_simp
        try with_reducible rfl
      (try simp only [Act.put, List.getElem_toArray, List.getElem_cons_succ, List.getElem_cons_zero, List.setIfInBounds_toArray, List.set_cons_zero, List.set_cons_succ])
      refine' tkH (i := 10) (v := _) rfl (Or.inl ⟨by rfl, ?hyg10⟩) H0 ?restg10
      case hyg10 =>
        intro w' hSw
        have s1 := hSw
        have hc := (show w'.cell? ⟨(a.add (k * 2)).block, (a.add (k * 2)).off + 1, none⟩ = some (.slice ga gl gcp) from HG1.out w' s1)
        go_simp
        try with_reducible rfl
      (try simp only [Act.put, List.getElem_toArray, List.getElem_cons_succ, List.getElem_cons_zero, List.setIfInBounds_toArray, List.set_cons_zero, List.set_cons_succ])
      refine' tkH (i := 11) (v := _) rfl (Or.inl ⟨by rfl, ?hyg11⟩) H0 ?restg11
      case hyg11 =>
        intro w' hSw
        have s1 := hSw
        go_simp
        try with_reducible rfl
      (try simp only [Act.put, List.getElem_toArray, List.getElem_cons_succ, List.getElem_cons_zero, List.setIfInBounds_toArray, List.set_cons_zero, List.set_cons_succ])
      refine wpAnyH_ready (rs := [12]) (by kernel_rfl) (by simp) (AllReadyH.cons rfl (fun K hK => ?_) AllReadyH.nil)
      have CB := Chg.alloc [] wr.drew (.cells #[.int .i64 gb, .slice ga gl gcp] 172)
      have HSRC := Lib.hid (src_row wr.drew #[.int .i64 gb, .slice ga gl gcp] 172 (0, 0))
      have HOW := Lib.hid (ownsRow_chg (ownsRow_drewN HO.out 1) CB (by simp))
      go_simp
      refine hK.out _ _ (H0.trans CB (by simp)) (fun H1 => ?_)
      clear hK K CB
      refine wpAnyH_ready (rs := [13]) (by kernel_rfl) (by simp) (AllReadyH.cons rfl (fun K hK => ?_) AllReadyH.nil)
      refine step_append_x _ rfl _ _ 151 rfl 172 i0 _ 2 32 Tryd.underlying151 hi0 hz0 hz1 hz2 rfl (by decide) (.slice ao' k c') k (gvs (G.take k)) rfl HOW.out (some ⟨wr.heap.size, 0, none⟩) 1 1 [.int .i64 gb, .slice ga gl gcp] rfl rfl HSRC.out (fun h => by cases h) (by simp [Value.oneCell']) HAB.out.1 HAB.out.2 ?_
      intro ao2 c3 w5 hown5 hgr hblk
      have HO5 := Lib.hid hown5
      have HC5 : Hid (Chg [] w w5) := Lib.hid (H1.trans (Chg.grown hgr (S := (Value.slice ao' k c').ownBlock.toList) (fun b hb => .inl (by simp [hb]))) (fun b hb => .inr (HNW.out b (by simpa using hb))))
      have HN5 : Hid (∀ b, (Value.slice ao2 (k + 1) c3).ownBlock = some b → w.heap.size ≤ b) := Lib.hid (fun b hb => by
        rcases hblk with h | h <;> rw [h] at hb
        · exact HNW.out b hb
        · rw [← Option.some.inj hb]
          exact H1.size)
      refine hK.out _ _ HC5.out (fun H2 => ?_)
      clear hK K hown5 hgr hblk
      refine' tkH (i := 14) (v := _) rfl (Or.inl ⟨by rfl, ?hyg14⟩) H2 ?restg14
      case hyg14 =>
        intro w' hSw
        have s1 := hSw
        go_simp
        try with_reducible rfl
      (try simp only [Act.put, List.getElem_toArray, List.getElem_cons_succ, List.getElem_cons_zero, List.setIfInBounds_toArray, List.set_cons_zero, List.set_cons_succ])
      refine wpAnyH_done (by kernel_rfl) ?_ _
      have HO6 : Hid (w5.ownsRow 0 172 2 (.slice ao2 (k + 1) c3) (k + 1) (gvs (G.take (k + 1)))) := Lib.hid (by rw [HNX.out]; exact HO5.out)
      clear HG0 HG1 HNX HO HNW HC HO5 HOW HSRC HAB hi0 hz0 hz1 hz2 H0 H1 H2
      go_wp2_with fail
      go_roundw
      case rel => exact ⟨k + 1, c3, ao2, rfl, by go_num, hlt, HO6, HN5, HC5⟩
      case measure => simp [intOf] <;> omega
    · have e1 : ¬ (k : Int) < n := fun h => hlt (Int.ofNat_lt.1 h)
      have hkn : k = n := by omega
      have HOE : Hid (wr.ownsRow 0 172 2 (.slice ao' k c') k (gvs G)) := Lib.hid (by
        have := HO.out
        rw [hkn, HTA.out] at this
        rw [hkn]
        exact this)
      have HKN := Lib.hid hkn
      clear HO hkn
      go_wp2_with fail
      go_ret
      exact ⟨ao', c', by rw [HNN.out, ← HKN.out]; rfl, by rw [HNN.out, ← HKN.out]; exact HOE.out, by rw [HNN.out, ← HKN.out]; exact HNW.out, HC.out⟩
end Go.Proofs.YtfdhpjflkimihaaDoor
/- The reference's Plan, walked. No conditions beyond those that each statement types. -/
namespace Go.Proofs.YtfdhpjflkimihaaDoor
open Go.RowKit

/-- The step of block i when the earlier blocks from j on were looked at. -/
def smF (r : RecV) (i : Nat) (base : StepV) (j : Nat) : StepV := match (List.range i).find? (fun t => decide (j ≤ t) && sameBlk r i t) with
  | some t => ⟨i, 3, ⟨#[]⟩, 0, t⟩
  | none => base
theorem smF_top (r : RecV) (i : Nat) (base : StepV) : smF r i base i = base := by
  unfold smF
  rw [find_no (fun t ht => by rw [decide_eq_false (by omega)]; rfl)]
theorem smF_hit {r : RecV} {i j : Nat} {base : StepV} (hj : j < i) (h : sameBlk r i j = true) : smF r i base j = ⟨i, 3, ⟨#[]⟩, 0, j⟩ := by
  unfold smF
  rw [find_first (k := j) hj (by rw [h, decide_eq_true (Nat.le_refl _)]; rfl) (fun t ht => by rw [decide_eq_false (by omega)]; rfl)]
theorem smF_miss {r : RecV} {i j : Nat} {base : StepV} (h : sameBlk r i j = false) : smF r i base j = smF r i base (j + 1) := by
  unfold smF
  have : (fun t => decide (j ≤ t) && sameBlk r i t) = fun t => decide (j + 1 ≤ t) && sameBlk r i t := by
    funext t
    by_cases ht : t = j
    · rw [ht, h, Bool.and_false, Bool.and_false]
    · rw [show decide (j ≤ t) = decide (j + 1 ≤ t) from by rw [decide_eq_decide]; omega]
  rw [this]
theorem smF_zero (r : RecV) (i : Nat) (o : Option (Pl × List UInt8)) : smF r i (stepFd r i o) 0 = stepSm r i o ((List.range i).find? (sameBlk r i)) := by
  unfold smF
  have : (fun t => decide (0 ≤ t) && sameBlk r i t) = sameBlk r i := by
    funext t
    rw [decide_eq_true (Nat.zero_le _), Bool.true_and]
  rw [this]
  cases (List.range i).find? (sameBlk r i) <;> rfl
/-- What the reference's finder answers. -/
def FindsAsR (w : World) (p : Option Addr) (fo : HKey → Option (Pl × List UInt8)) : Prop :=
  ∀ w' k, Chg [] w w' → Calls Tryd.prog 35 #[.pointer p, hkV k] w' (FoundR w' (fo k))
theorem finds_ref {w : World} {b : Nat} {R : Files} {T : List Nat} (H : RefIs w b R T) (hl : R.length ≤ 1000) (hd : ∀ p ∈ R, p.2.length ≤ 4096) : FindsAsR w (some ⟨b, 0, none⟩) (frontF R) := fun w' k C => ref_find b R k T w' (H.chg C (by simp)) hl hd
theorem infoStepRU : (Tryd.prog.info? 93).map (fun i => (i.zero, i.size, i.bytes)) = some (some (.agg #[.int .i64 0, .int .i64 0, .string ⟨#[]⟩, .int .i64 0, .int .i64 0]), 5, 48) := by kernel_rfl
theorem step_putR {w0 wz : World} {g : Nat} {Z : Array Value} (s : StepV) (h : wz.heap[g]? = some (.cells Z 93 (0, 0))) (C : Chg [] w0 wz) (hg : w0.heap.size ≤ g ∧ Z.size = 5) :
    (Instr.storeAt 93 (.pointer (some ⟨g, 0, none⟩)) (.agg s.cells)).run Tryd.prog wz = .ok () (wz.setRow g s.cells) ∧ (wz.setRow g s.cells).heap[g]? = some (.cells s.cells 93 (0, 0)) ∧ Chg [] w0 (wz.setRow g s.cells) :=
  ⟨run_storeAt_row wz g _ _ Z s.cells h infoStepR hg.2 (by simp [StepV.cells, Value.oneCell']), setRow_heap wz g _ _ _ _ h, C.trans (Chg.setRow (S := [g]) wz g s.cells (.inl (by simp))) (fun j hj => by simp at hj; subst hj; exact .inr hg.1)⟩
theorem run_loadAt_stepR (w : World) (g : Nat) (s : StepV) (fr : Nat × Nat) (h : w.heap[g]? = some (.cells s.cells 93 fr)) : (Instr.loadAt 93 (.pointer (some ⟨g, 0, none⟩))).run Tryd.prog w = .ok (.agg s.cells) w := by
  simp only [Instr.loadAt, Instr.sureAddr, Sem.run_bind, Sem.run_pure, Result.andThen]
  exact run_loadVar_row w g _ _ s.cells fr _ h Tryd.underlying93 rfl infoStepR
/-- A plan of the reference's, handed back. -/
def PlannedR (w : World) (l : List StepV) (e : Ending) (w' : World) : Prop :=
  Chg [] w w' ∧ ∃ po pc, e = .returned (.tuple #[.slice po l.length pc, .int .i64 0]) ∧ w'.ownsRow 0 93 5 (.slice po l.length pc) l.length (svs l) ∧ ∀ k, (Value.slice po l.length pc).ownBlock = some k → w.heap.size ≤ k
set_option maxRecDepth 100000 in
theorem rf_plan_not (RC : Array Value) (r : RecV) (ao : Option Addr) (c : Nat) (hw : r.want ≠ 0) (p : Option Addr) (tv : Value) (w : World) (H : RecIs w RC r ao c) :
    Calls Tryd.prog 45 #[.agg RC, .pointer p, tv] w fun e w' => e = .returned (.tuple #[.slice none 0 0, .int .i64 r.want]) ∧ Chg [] w w' := by
  have hx0 := heap_alloc_new w (.cells RC 77)
  have C0 := Chg.alloc [] w (.cells RC 77)
  have KW := Lib.hid (fun w' (C : Chg [] w w') => rf_wanted RC r ao c w' (H.chg0 C))
  have hldr := run_loadAt_rec _ _ RC _ hx0 H.size
  generalize r.want = W at *
  clear H hx0
  go_enter Tryd.func45, Tryd.ntmps45
  go_wp2_with (refine wpList_load_y 77 (.tmp 3) rfl (by go_simp) (.pointer (some ⟨w.heap.size, 0, none⟩)) (.agg RC) hldr rfl ?_)
  refine (KW.out _ C0).mono ?_
  rintro e w2 ⟨rfl, C2⟩
  have HC2 := Lib.hid (C0.trans C2 (by simp))
  clear C0 C2 hldr
  go_wp2_with fail
  go_ret2
  exact ⟨rfl, HC2.out⟩
set_option maxRecDepth 100000 in
set_option maxHeartbeats 8000000 in
theorem rf_plan (RC : Array Value) (r : RecV) (ao : Option Addr) (c : Nat) (N : Nat) (g : r.Good N) (p : Option Addr) (fo : HKey → Option (Pl × List UInt8)) (ta : Option Addr) (tc : Nat) (T : List UInt8) (w : World) (H : RecIs w RC r ao c) (hF : FindsAsR w p fo) (hfo : ∀ k, (fX (fo k)).length ≤ 128) (hs : Src w ta (bvs T)) (hT : T.length ≤ 9223372036854775807) (htc : T.length ≤ tc) (h0 : ta = none → tc = 0) :
    Calls Tryd.prog 45 #[.agg RC, .pointer p, .slice ta T.length tc] w (PlannedR w (planL r N T fo (cntN N))) := by
  have hx0 := heap_alloc_new w (.cells RC 77)
  have C0 := Chg.alloc [] w (.cells RC 77)
  have KW := Lib.hid (fun w' (C : Chg [] w w') => by
    have := rf_wanted RC r ao c w' (H.chg0 C)
    rewrite [g.want] at this
    exact this)
  have KL := Lib.hid (fun (k : Nat) w' (C : Chg [] w w') => rf_length RC r ao c (k : Int) w' (H.chg0 C))
  have HLN := Lib.hid (fun k (hk : k < cntN N) => show ∃ M : Nat, r.len (k : Int) = (M : Int) ∧ M ≤ 128 from ⟨_, g.lenP hk, Nat.le_trans (Nat.min_le_left _ _) (bszN_le N)⟩)
  have KP := Lib.hid (fun (i : Nat) (hi : i < cntN N) w' (C : Chg [] w w') => rf_placed RC r ao c N g i hi ta tc T w' (H.chg0 C) (hs.chg C (by simp)) hT htc h0)
  have KR := Lib.hid (fun (i : Nat) (hi : i < cntN N) (po : Option Addr) (pc : Nat) (xs : List UInt8) w' (C : Chg [] w w') (h1 : Src w' po (bvs xs)) (h2 : xs.length ≤ 1000000) (h3 : po = none → pc = 0) => rf_right RC r ao c N g i hi po pc xs w' (H.chg0 C) h1 h2 h3)
  have KF := Lib.hid (fun w' k (C : Chg [] w w') => hF w' k C)
  have HFO := Lib.hid hfo
  have HP128 := Lib.hid (fun i => plT_128 N T i)
  have HLD := Lib.hid (fun (k : Nat) (hk : k < cntN N) (w' : World) (C : Chg [] w w') => show ∃ a fk, ao = some a ∧ r.dig k = fk ∧ (Instr.loadAt 32 (.pointer (some (a.add (k * 32))))).run Tryd.prog w' = .ok (.agg (hashC fk)) w' from by
    obtain ⟨fk, hfk⟩ : ∃ fk, r.L[k]? = some fk := ⟨_, List.getElem?_eq_getElem (by rw [g.len]; exact hk)⟩
    have hsrc := H.src
    obtain ⟨a, rfl, _⟩ := hsrc.lt (by
      have h1 := (List.getElem?_eq_some_iff.1 hfk).1
      rw [hvs_length]
      omega)
    exact ⟨a, fk, rfl, by unfold RecV.dig; rw [List.getD, hfk]; rfl, load_blk (hsrc.chg C (by simp)) hfk⟩)
  obtain ⟨n, hn⟩ : ∃ n, cntN N = n := ⟨_, rfl⟩
  have hn32 : n ≤ 32 := by rw [← hn]; exact cntN_le N
  have hbl := H.bl
  rw [g.len, hn] at hbl
  have hnc : n ≤ c := by have := H.cap; rw [g.len, hn] at this; exact this
  rw [hn] at KP KR HLD HLN ⊢
  have HBL := Lib.hid hbl
  have HRS := Lib.hid H.size
  obtain ⟨tn, htn⟩ : ∃ tn, T.length = tn := ⟨_, rfl⟩
  rw [htn] at KP ⊢
  have HPS := Lib.hid (planL_succ r N T fo)
  have HP0 : Hid (planL r N T fo 0 = []) := Lib.hid rfl
  have HPL := Lib.hid (planL_len r N T fo)
  have HSP : Hid (∀ i, stepPl r N T fo i = if rightB r i (plT N T i) = true then ⟨i, 1, ⟨#[]⟩, 0, 0⟩ else smF r i (stepFd r i (fo (hkey (r.dig i)))) 0) := Lib.hid (fun i => by rw [smF_zero]; rfl)
  generalize planL r N T fo = PL at *
  generalize stepPl r N T fo = SP at *
  clear H hF hfo hs hT htc h0 hn hbl htn g
  go_enter Tryd.func45, Tryd.ntmps45
  go_upto_region 1 with (fail)
  obtain ⟨q, hq⟩ : ∃ q, w.heap.size = q := ⟨_, rfl⟩
  rw [hq] at hx0 ⊢
  generalize w.alloc (.cells RC 77) = w1 at *
  have HC0 := Lib.hid C0
  have HX0 := Lib.hid hx0
  have HLDR := Lib.hid (fun (w' : World) (C : Chg [] w1 w') => run_loadAt_rec w' q RC _ ((C.block q (lt_of_block hx0) (by simp)).trans hx0) HRS.out)
  have hldr := HLDR.out w1 (Chg.refl _ _)
  clear hq hx0 C0
  go_wp2_with (refine wpList_load_y 77 (.tmp 3) rfl (by go_simp) (.pointer (some ⟨q, 0, none⟩)) (.agg RC) hldr rfl ?_)
  refine (KW.out _ HC0.out).mono ?_
  rintro e w2 ⟨rfl, C2⟩
  have HC2 := Lib.hid C2
  clear C2 hldr
  go_wp2_with fail
  go_loopw [9, 10] (fun v9 v10 wr => ∃ (k c' : Nat) (ao' : Option Addr), v9 = .slice ao' k c' ∧ v10 = .int .i64 (k : Int) ∧ k ≤ n ∧ Hid (wr.ownsRow 0 93 5 (.slice ao' k c') k (svs (PL k))) ∧ Hid (∀ b, (Value.slice ao' k c').ownBlock = some b → w1.heap.size ≤ b) ∧ Hid (Chg [] w1 wr)) (fun _ v _ => n - (intOf v).toNat)
  case atStart => exact ⟨0, 0, none, rfl, rfl, Nat.zero_le _, Lib.hid (by rw [HP0.out]; exact World.ownsRow_nil _ _ _ _), Lib.hid (fun b hb => by cases hb), HC2⟩
  case round =>
    obtain ⟨k, c', ao', rfl, rfl, hk, HO, HNW, HC⟩ := hrel
    have HXR := Lib.hid ((HC.out.block q (lt_of_block HX0.out) (by simp)).trans HX0.out)
    have c23 : wr.cell? ⟨q, 23, none⟩ = some (.slice ao n c) := by rw [cell_of_row _ _ _ _ _ _ HXR.out]; exact HBL.out
    by_cases hlt : k < n
    · have e1 : (k : Int) < n := Int.ofNat_lt.2 hlt
      have e0 : (0 : Int) ≤ k := Int.natCast_nonneg _
      have hkc : k < c := by omega
      have HCW := Lib.hid (fun (w' : World) (C : Chg [] wr w') => (HC0.out.trans HC.out (by simp)).trans C (by simp))
      obtain ⟨a, fk, rfl, hdk, hlk⟩ := HLD.out k hlt w (Chg.refl _ _)
      have HDK := Lib.hid hdk
      obtain ⟨Rk, hRk⟩ : ∃ Rk, hashC fk = Rk := ⟨_, rfl⟩
      have HRK := Lib.hid hRk
      have HLK : Hid (∀ w', Chg [] w w' → (Instr.loadAt 32 (.pointer (some (a.add (k * 32))))).run Tryd.prog w' = .ok (.agg Rk) w') := Lib.hid (fun w' C => by
        obtain ⟨a2, f2, h1, h2, h3⟩ := HLD.out k hlt w' C
        cases h1
        rw [hdk] at h2
        cases h2
        rw [← hRk]
        exact h3)
      obtain ⟨Mk, hMk, _⟩ := HLN.out k hlt
      have HMK := Lib.hid hMk
      have KLk := Lib.hid (fun (w' : World) (C : Chg [] w w') => by
        have := KL.out k w' C
        rewrite [hMk] at this
        exact this)
      obtain ⟨o, ho⟩ : ∃ o, fo (hkey (r.dig k)) = o := ⟨_, rfl⟩
      have hX128 := HFO.out (hkey (r.dig k))
      have HSPk := Lib.hid (HSP.out k)
      rw [ho] at hX128 HSPk
      have KFk := Lib.hid (fun (w' : World) (C : Chg [] w w') => by
        have := KF.out w' (hkey (r.dig k)) C
        rewrite [ho, hdk, hkV_hkey, hashV, hRk] at this
        exact this)
      obtain ⟨FD, hFD⟩ : ∃ FD, stepFd r k o = FD := ⟨_, rfl⟩
      rw [hFD] at HSPk
      have HNO : Hid (o.isSome = false ∨ ((fX o).length : Int) ≠ Mk → FD = ⟨k, 4, ⟨#[]⟩, 0, 0⟩) := Lib.hid (fun h => by rw [← hFD]; exact stepFd_no (by rw [hMk]; exact h))
      have HYES : Hid (o.isSome = true → ((fX o).length : Int) = Mk → FD = ⟨k, 2, (fM o).1, (fM o).2, 0⟩) := Lib.hid (fun h h2 => by rw [← hFD]; exact stepFd_yes h (by rw [hMk]; exact h2))
      obtain ⟨X2, hX⟩ : ∃ X, fX o = X := ⟨_, rfl⟩
      obtain ⟨XN, hXN⟩ : ∃ XN, X2.length = XN := ⟨_, rfl⟩
      obtain ⟨mn, hmn⟩ : ∃ mn, (fM o).1 = mn := ⟨_, rfl⟩
      obtain ⟨mb, hmb⟩ : ∃ mb, (fM o).2 = mb := ⟨_, rfl⟩
      obtain ⟨ok, hok⟩ : ∃ ok, o.isSome = ok := ⟨_, rfl⟩
      have HFND : Hid (∀ w' e w'', FoundR w' o e w'' → Chg [] w' w'' ∧ ∃ fa fc, e = .returned (.tuple #[.slice fa XN fc, .string mn, .int .i64 mb, .bool ok])) := Lib.hid (fun w' e w'' h => by
        obtain ⟨C, fa, fc, he, _⟩ := foundR_any h
        rw [hX, hXN, hmn, hmb, hok] at he
        exact ⟨C, fa, fc, he⟩)
      rw [hX, hXN, hok] at HNO
      rw [hX, hXN, hmn, hmb, hok] at HYES
      rw [hX, hXN] at hX128
      clear hdk hRk hMk ho hFD hXN hlk hX hmn hmb hok
      have CA := Chg.alloc [] wr (.cells #[.int .i64 (k : Int), .int .i64 4, .string ⟨#[]⟩, .int .i64 0, .int .i64 0] 93)
      have hxs := heap_alloc_new wr (.cells #[.int .i64 (k : Int), .int .i64 4, .string ⟨#[]⟩, .int .i64 0, .int .i64 0] 93)
      go_upto_region 9 with (fail)
      clear c23
      obtain ⟨qs, hqs⟩ : ∃ qs, wr.heap.size = qs := ⟨_, rfl⟩
      rw [hqs] at hxs ⊢
      generalize wr.alloc (.cells #[.int .i64 (k : Int), .int .i64 4, .string ⟨#[]⟩, .int .i64 0, .int .i64 0] 93) = w4 at *
      have HQS : Hid (wr.heap.size ≤ qs) := Lib.hid (Nat.le_of_eq hqs)
      have HXS := Lib.hid hxs
      have HCA := Lib.hid CA
      have HX4 := Lib.hid ((CA.block q (lt_of_block HXR.out) (by simp)).trans HXR.out)
      have c23 : w4.cell? ⟨q, 23, none⟩ = some (.slice (some a) n c) := by rw [cell_of_row _ _ _ _ _ _ HX4.out]; exact HBL.out
      have hlk := HLK.out w4 (HCW.out w4 CA)
      clear hqs hxs CA
      go_wp2_with (refine wpList_load_y 32 (.tmp 37) rfl (by go_simp) (.pointer (some (a.add (k * 32)))) (.agg Rk) hlk rfl ?_)
      refine (KFk.out w4 (HCW.out w4 HCA.out)).mono ?_
      rintro e w5 hfd
      obtain ⟨C5, fa, fc, rfl⟩ := HFND.out _ _ _ hfd
      have HCR5 := Lib.hid (HCA.out.trans C5 (by simp))
      have HX5 := Lib.hid ((C5.block q (lt_of_block HX4.out) (by simp)).trans HX4.out)
      have HS5 := Lib.hid ((C5.block qs (lt_of_block HXS.out) (by simp)).trans HXS.out)
      clear hfd C5 hlk c23 HX4 HXS HCA KFk HFND
      go_upto_region 10 with (fail)
      go_cut [52] (fun v w' => v = .bool (ok && decide (XN = Mk)) ∧ Hid (Chg [] w5 w'))
      case first =>
        cases ok with
        | false =>
          go_wp2_with fail
          all_goals go_meet
          case rel => exact ⟨rfl, Lib.hid (Chg.refl _ _)⟩
        | true =>
          have hldr := run_loadAt_rec w5 q RC _ HX5.out HRS.out
          go_wp2_with (refine wpList_load_y 77 (.tmp 3) rfl (by go_simp) (.pointer (some ⟨q, 0, none⟩)) (.agg RC) hldr rfl ?_)
          refine (KLk.out w5 (HCW.out w5 HCR5.out)).mono ?_
          rintro e w6 ⟨rfl, C6⟩
          have HC6 := Lib.hid C6
          clear C6 hldr
          by_cases hm : XN = Mk
          · have hm3 : ((XN : Int) == (Mk : Int)) = true := by simp; omega
            have HD : Hid (decide (XN = Mk) = true) := Lib.hid (decide_eq_true hm)
            clear hm
            go_wp2_with fail
            all_goals go_meet
            case rel => exact ⟨by rw [HD.out]; rfl, HC6⟩
          · have hm3 : ((XN : Int) == (Mk : Int)) = false := by simp; omega
            have HD : Hid (decide (XN = Mk) = false) := Lib.hid (decide_eq_false hm)
            clear hm
            go_wp2_with fail
            all_goals go_meet
            case rel => exact ⟨by rw [HD.out]; rfl, HC6⟩
      case rest =>
      obtain ⟨rfl, HCC⟩ := hcut
      have HCRc := Lib.hid (HCR5.out.trans HCC.out (by simp))
      have HSc := Lib.hid ((HCC.out.block qs (lt_of_block HS5.out) (by simp)).trans HS5.out)
      clear HCC HX5 HS5 HCR5
      obtain ⟨B1, hB1⟩ : ∃ B1, (ok && decide (XN = Mk)) = B1 := ⟨_, rfl⟩
      have HB1 := Lib.hid hB1
      rw [hB1]
      clear hB1
      go_upto_if 52 with (fail)
      go_cut [10] (fun v w' => v = .int .i64 (k : Int) ∧ Hid (w'.heap[qs]? = some (.cells FD.cells 93 (0, 0))) ∧ Hid (Chg [] wr w'))
      case first =>
        cases B1 with
        | false =>
          have HFN := Lib.hid (HNO.out (by
            have h := HB1.out
            rw [Bool.and_eq_false_iff, decide_eq_false_iff_not] at h
            exact h.imp id (fun h1 h2 => h1 (by omega))))
          go_wp2_with fail
          all_goals go_meet
          case rel => exact ⟨rfl, by rw [HFN.out]; exact HSc, HCRc⟩
        | true =>
          have HFY := Lib.hid (HYES.out (by
            have h := HB1.out
            rw [Bool.and_eq_true] at h
            exact h.1) (by
            have h := HB1.out
            rw [Bool.and_eq_true, decide_eq_true_iff] at h
            omega))
          obtain ⟨hst, hh, CZ⟩ := step_putR (w0 := wr) (⟨k, 2, mn, mb, 0⟩ : StepV) HSc.out HCRc.out ⟨HQS.out, rfl⟩
          have HH := Lib.hid hh
          have HCZ := Lib.hid CZ
          clear hh CZ
          simp only [StepV.cells] at hst
          go_wp2_with (refine wpList_store_y 93 (.tmp 11) (.tmp 56) rfl (by first | rfl | go_simp) (.pointer (some ⟨qs, 0, none⟩)) (.agg (⟨k, 2, mn, mb, 0⟩ : StepV).cells) _ hst rfl rfl ?_)
          all_goals go_meet
          case rel => exact ⟨rfl, by rw [HFY.out]; exact HH, HCZ⟩
      case rest =>
      obtain ⟨rfl, HSd, HCd⟩ := hcut
      clear HB1 HCRc HSc HNO HYES
      have hkw : wrap64 ((k : Int) - 1) = (k : Int) - 1 := by unfold wrap64; omega
      have HTOP : Hid (∃ j : Nat, (k : Int) - 1 = (j : Int) - 1 ∧ j ≤ k ∧ Hid (wc.heap[qs]? = some (.cells (smF r k FD j).cells 93 (0, 0))) ∧ Hid (Chg [] wr wc)) := Lib.hid ⟨k, rfl, Nat.le_refl _, by rw [smF_top]; exact HSd, HCd⟩
      clear HSd HCd
      go_wp2_with fail
      go_loopw [16] (fun v wl => ∃ z : Int, v = .int .i64 z ∧ Hid (∃ j : Nat, z = (j : Int) - 1 ∧ j ≤ k ∧ Hid (wl.heap[qs]? = some (.cells (smF r k FD j).cells 93 (0, 0))) ∧ Hid (Chg [] wr wl))) (fun v _ => (intOf v + 1).toNat)
      case atStart => exact ⟨_, rfl, HTOP⟩
      case round =>
        clear hkw HTOP
        obtain ⟨z, rfl, HJ⟩ := hrel
        obtain ⟨jj, hz, hjk0, HBL2, HCL⟩ := HJ.out
        clear HJ
        subst hz
        cases jj with
        | zero =>
          have HSM0 : Hid (wr.heap[qs]? = some (.cells (smF r k FD 0).cells 93 (0, 0))) := HBL2
          have hz1 : ((0 : Nat) : Int) - 1 = -1 := rfl
          rw [hz1]
          clear hz1 HBL2
          have HXL := Lib.hid ((HCL.out.block q (lt_of_block HXR.out) (by simp)).trans HXR.out)
          have hldr := run_loadAt_rec _ q RC _ HXL.out HRS.out
          go_wp2_with (refine wpList_load_y 77 (.tmp 3) rfl (by go_simp) (.pointer (some ⟨q, 0, none⟩)) (.agg RC) hldr rfl ?_)
          refine (KP.out k hlt wr (HCW.out wr HCL.out)).mono ?_
          rintro e w6 ⟨po, pc, rfl, hop, _, C6⟩
          have HC6 := Lib.hid (HCL.out.trans C6 (by simp))
          have HX6 := Lib.hid ((C6.block q (lt_of_block HXL.out) (by simp)).trans HXL.out)
          have HS6 := Lib.hid ((C6.block qs (lt_of_block HSM0.out) (by simp)).trans HSM0.out)
          have KRk := Lib.hid (KR.out k hlt po pc (plT N T k) w6 (HCW.out w6 HC6.out) (ownsRow_src hop) (Nat.le_trans (HP128.out k) (by decide)) (by
            obtain ⟨_, _, hv, _, h0⟩ := ownsRow_slice hop
            cases hv
            exact fun h => (h0 h).2))
          have hldr := run_loadAt_rec w6 q RC _ HX6.out HRS.out
          clear C6 hop HXL HCL HSM0
          obtain ⟨RB, hRB⟩ : ∃ RB, rightB r k (plT N T k) = RB := ⟨_, rfl⟩
          have HRB := Lib.hid hRB
          rw [hRB] at KRk
          generalize (plT N T k).length = xn at *
          clear hRB
          go_wp2_with (refine wpList_load_y 77 (.tmp 3) rfl (by go_simp) (.pointer (some ⟨q, 0, none⟩)) (.agg RC) hldr rfl ?_)
          refine KRk.out.mono ?_
          rintro e w7 ⟨rfl, C7⟩
          have HC7 := Lib.hid (HC6.out.trans C7 (by simp))
          have HS7 := Lib.hid ((C7.block qs (lt_of_block HS6.out) (by simp)).trans HS6.out)
          clear C7 hldr KRk HS6 HX6 HC6
          cases RB with
          | true =>
            obtain ⟨hst, hh, CZ⟩ := step_putR (⟨k, 1, ⟨#[]⟩, 0, 0⟩ : StepV) HS7.out HC7.out ⟨HQS.out, rfl⟩
            have HH := Lib.hid hh
            have HCZ := Lib.hid CZ
            clear hh CZ
            simp only [StepV.cells] at hst
            go_upto_region 20 with (refine wpList_store_y 93 (.tmp 11) (.tmp 95) rfl (by first | rfl | go_simp) (.pointer (some ⟨qs, 0, none⟩)) (.agg (⟨k, 1, ⟨#[]⟩, 0, 0⟩ : StepV).cells) _ hst rfl rfl ?_)
            clear hst HS7 HC7
            change Hid ((w7.setRow qs #[.int .i64 (k : Int), .int .i64 1, .string ⟨#[]⟩, .int .i64 0, .int .i64 0]).heap[qs]? = some (.cells (⟨k, 1, ⟨#[]⟩, 0, 0⟩ : StepV).cells 93 (0, 0))) at HH
            change Hid (Chg [] _ (w7.setRow qs #[.int .i64 (k : Int), .int .i64 1, .string ⟨#[]⟩, .int .i64 0, .int .i64 0])) at HCZ
            generalize w7.setRow qs #[.int .i64 (k : Int), .int .i64 1, .string ⟨#[]⟩, .int .i64 0, .int .i64 0] = w8 at *
            have HSPV : Hid (SP k = (⟨k, 1, ⟨#[]⟩, 0, 0⟩ : StepV)) := Lib.hid (by rw [HSPk.out, if_pos HRB.out])
            have hls := run_loadAt_stepR w8 qs (⟨k, 1, ⟨#[]⟩, 0, 0⟩ : StepV) _ HH.out
            obtain ⟨sv, hsv⟩ : ∃ sv, (⟨k, 1, ⟨#[]⟩, 0, 0⟩ : StepV) = sv := ⟨_, rfl⟩
            rw [hsv] at hls HSPV
            obtain ⟨s1, s2, s3, s4, s5⟩ := sv
            simp only [StepV.cells] at hls
            obtain ⟨ip, hip, hipz, hips, hipb⟩ := info_parts infoStepRU
            have CA := Chg.alloc [] w8 (.cells #[.int .i64 s1, .int .i64 s2, .string s3, .int .i64 s4, .int .i64 s5] 93)
            have HCB := Lib.hid ((HCZ.out).trans CA (by simp))
            have hown := ownsRow_chg HO.out HCB.out (by simp)
            have hsrc := src_row w8 #[.int .i64 s1, .int .i64 s2, .string s3, .int .i64 s4, .int .i64 s5] 93 (0, 0)
            have hgs := (HCZ.out).size
            clear hsv CA
            go_wp2_with (first | (refine wpList_load_y 93 (.tmp 11) rfl (by first | rfl | go_simp) (.pointer (some ⟨qs, 0, none⟩)) (.agg #[.int .i64 s1, .int .i64 s2, .string s3, .int .i64 s4, .int .i64 s5]) hls rfl ?_) | (at_builtin; refine wpList_append_y (.tmp 96) (.tmp 98) 88 rfl rfl 93 ip _ 5 48 Tryd.underlying88 hip hipz hips hipb rfl (by decide) (.slice ao' k c') k (svs (PL k)) hown (some ⟨w8.heap.size, 0, none⟩) 1 1 [.int .i64 s1, .int .i64 s2, .string s3, .int .i64 s4, .int .i64 s5] rfl hsrc (fun h => by cases h) (by simp [Value.oneCell']) (by unfold maxLen; omega) (by omega) rfl rfl ?_))
            intro ao2 c3 w9 hown5 hgr hblk
            have CG := Chg.grown hgr (S := (Value.slice ao' k c').ownBlock.toList) (fun b hb => .inl (by simp [hb]))
            have HC5 : Hid (Chg [] w1 w9) := Lib.hid ((HC.out.trans HCB.out (by simp)).trans CG (fun b hb => .inr (HNW.out b (by simpa using hb))))
            have HN5 : Hid (∀ b, (Value.slice ao2 (k + 1) c3).ownBlock = some b → w1.heap.size ≤ b) := Lib.hid (fun b hb => by
              rcases hblk with h | h <;> rw [h] at hb
              · exact HNW.out b hb
              · simp at hb
                have h1 := HC.out.size
                omega)
            have HO5 : Hid (w9.ownsRow 0 93 5 (.slice ao2 (k + 1) c3) (k + 1) (svs (PL (k + 1)))) := Lib.hid (by rw [HPS.out, HSPV.out, svs_append]; exact hown5)
            clear hown5 hgr hblk hown hsrc hip hipz hips hipb CG hgs hls HO HNW HC HCB
            go_wp2_with fail
            go_roundw
            case rel => exact ⟨k + 1, c3, ao2, rfl, by go_num, hlt, HO5, HN5, HC5⟩
            case measure => simp [intOf] <;> omega
          | false =>
            go_upto_region 20 with (fail)
            have HSPV : Hid (SP k = (smF r k FD 0)) := Lib.hid (by rw [HSPk.out, if_neg (by rw [HRB.out]; decide)])
            have hls := run_loadAt_stepR w7 qs (smF r k FD 0) _ HS7.out
            obtain ⟨sv, hsv⟩ : ∃ sv, (smF r k FD 0) = sv := ⟨_, rfl⟩
            rw [hsv] at hls HSPV
            obtain ⟨s1, s2, s3, s4, s5⟩ := sv
            simp only [StepV.cells] at hls
            obtain ⟨ip, hip, hipz, hips, hipb⟩ := info_parts infoStepRU
            have CA := Chg.alloc [] w7 (.cells #[.int .i64 s1, .int .i64 s2, .string s3, .int .i64 s4, .int .i64 s5] 93)
            have HCB := Lib.hid ((HC7.out).trans CA (by simp))
            have hown := ownsRow_chg HO.out HCB.out (by simp)
            have hsrc := src_row w7 #[.int .i64 s1, .int .i64 s2, .string s3, .int .i64 s4, .int .i64 s5] 93 (0, 0)
            have hgs := (HC7.out).size
            clear hsv CA
            go_wp2_with (first | (refine wpList_load_y 93 (.tmp 11) rfl (by first | rfl | go_simp) (.pointer (some ⟨qs, 0, none⟩)) (.agg #[.int .i64 s1, .int .i64 s2, .string s3, .int .i64 s4, .int .i64 s5]) hls rfl ?_) | (at_builtin; refine wpList_append_y (.tmp 96) (.tmp 98) 88 rfl rfl 93 ip _ 5 48 Tryd.underlying88 hip hipz hips hipb rfl (by decide) (.slice ao' k c') k (svs (PL k)) hown (some ⟨w7.heap.size, 0, none⟩) 1 1 [.int .i64 s1, .int .i64 s2, .string s3, .int .i64 s4, .int .i64 s5] rfl hsrc (fun h => by cases h) (by simp [Value.oneCell']) (by unfold maxLen; omega) (by omega) rfl rfl ?_))
            intro ao2 c3 w9 hown5 hgr hblk
            have CG := Chg.grown hgr (S := (Value.slice ao' k c').ownBlock.toList) (fun b hb => .inl (by simp [hb]))
            have HC5 : Hid (Chg [] w1 w9) := Lib.hid ((HC.out.trans HCB.out (by simp)).trans CG (fun b hb => .inr (HNW.out b (by simpa using hb))))
            have HN5 : Hid (∀ b, (Value.slice ao2 (k + 1) c3).ownBlock = some b → w1.heap.size ≤ b) := Lib.hid (fun b hb => by
              rcases hblk with h | h <;> rw [h] at hb
              · exact HNW.out b hb
              · simp at hb
                have h1 := HC.out.size
                omega)
            have HO5 : Hid (w9.ownsRow 0 93 5 (.slice ao2 (k + 1) c3) (k + 1) (svs (PL (k + 1)))) := Lib.hid (by rw [HPS.out, HSPV.out, svs_append]; exact hown5)
            clear hown5 hgr hblk hown hsrc hip hipz hips hipb CG hgs hls HO HNW HC HCB
            go_wp2_with fail
            go_roundw
            case rel => exact ⟨k + 1, c3, ao2, rfl, by go_num, hlt, HO5, HN5, HC5⟩
            case measure => simp [intOf] <;> omega
        | succ j =>
          have hjk : j < k := by omega
          have hz1 : ((j + 1 : Nat) : Int) - 1 = (j : Int) := by omega
          have hz2 : wrap64 ((j : Int) - 1) = (j : Int) - 1 := by unfold wrap64; omega
          rw [hz1]
          clear hz1 hjk0
          have HXL := Lib.hid ((HCL.out.block q (lt_of_block HXR.out) (by simp)).trans HXR.out)
          have HCWL := Lib.hid (fun (w' : World) (C : Chg [] wr w') => HCW.out w' (HCL.out.trans C (by simp)))
          have e5 : (j : Int) < n := by omega
          have e6 : (0 : Int) ≤ j := Int.natCast_nonneg _
          have hjc : j < c := by omega
          obtain ⟨aj, fj, hae, hdj, hlj⟩ := HLD.out j (by omega) w (Chg.refl _ _)
          cases hae
          obtain ⟨Rj, hRj⟩ : ∃ Rj, hashC fj = Rj := ⟨_, rfl⟩
          have HLJ : Hid (∀ w', Chg [] w w' → (Instr.loadAt 32 (.pointer (some (a.add (j * 32))))).run Tryd.prog w' = .ok (.agg Rj) w') := Lib.hid (fun w' C => by
            obtain ⟨a2, f2, h1, h2, h3⟩ := HLD.out j (by omega) w' C
            cases h1
            rw [hdj] at h2
            cases h2
            rw [← hRj]
            exact h3)
          obtain ⟨Mj, hMj, _⟩ := HLN.out j (by omega)
          have KLj := Lib.hid (fun (w' : World) (C : Chg [] w w') => by
            have := KL.out j w' C
            rewrite [hMj] at this
            exact this)
          obtain ⟨sb, hsb⟩ : ∃ sb, sameHash fj fk = sb := ⟨_, rfl⟩
          have HSM : Hid (sameBlk r k j = (sb && decide ((Mj : Int) = (Mk : Int)))) := Lib.hid (by unfold sameBlk; rw [hdj, HDK.out, hsb, hMj, HMK.out])
          have HQ := Lib.hid (fun w' => by
            have := run_eq_hash fj fk w'
            rewrite [hsb, hashV, hashV, hRj, HRK.out] at this
            exact this)
          clear hdj hlj hRj hMj hsb
          cases sb with
          | false =>
            have HSB : Hid (sameBlk r k j = false) := Lib.hid (by rw [HSM.out]; rfl)
            clear HSM
            go_upto_region 15 with (fail)
            refine wp_region_held_drew (S := fun w' => Chg [] wr w') (by kernel_rfl) ((Chg.drewN [] wr 1)) (fun H0 => ?_)
            refine' tkH (i := 0) (v := _) rfl (Or.inl ⟨by rfl, ?hyn0⟩) H0 ?restn0
            case hyn0 =>
              intro w' hSw
              have s1 := hSw
              go_simp
              try with_reducible rfl
            (try simp only [Act.put, List.getElem_toArray, List.getElem_cons_zero, List.setIfInBounds_toArray, List.set_cons_zero, List.set_cons_succ])
            refine' tkH (i := 1) (v := _) rfl (Or.inl ⟨by rfl, ?hyn1⟩) H0 ?restn1
            case hyn1 =>
              intro w' hSw
              have s1 := hSw
              have hc := (show w'.cell? ⟨q, 23, none⟩ = some (.slice (some a) n c) by rw [cell_of_row _ _ _ _ _ _ ((s1.block q (lt_of_block HXL.out) (by simp)).trans HXL.out)]; exact HBL.out)
              go_simp
              try with_reducible rfl
            (try simp only [Act.put, List.getElem_toArray, List.getElem_cons_succ, List.getElem_cons_zero, List.setIfInBounds_toArray, List.set_cons_zero, List.set_cons_succ])
            refine' tkH (i := 2) (v := _) rfl (Or.inl ⟨by rfl, ?hyn2⟩) H0 ?restn2
            case hyn2 =>
              intro w' hSw
              have s1 := hSw
              go_simp
              try with_reducible rfl
            (try simp only [Act.put, List.getElem_toArray, List.getElem_cons_succ, List.getElem_cons_zero, List.setIfInBounds_toArray, List.set_cons_zero, List.set_cons_succ])
            refine' tkH (i := 3) (v := _) rfl (Or.inl ⟨by rfl, ?hyn3⟩) H0 ?restn3
            case hyn3 =>
              intro w' hSw
              have s1 := hSw
              go_simp
              try with_reducible rfl
            (try simp only [Act.put, List.getElem_toArray, List.getElem_cons_succ, List.getElem_cons_zero, List.setIfInBounds_toArray, List.set_cons_zero, List.set_cons_succ])
            refine' tkH (i := 4) (v := .agg Rj) rfl (Or.inl ⟨by rfl, ?hyn4⟩) H0 ?restn4
            case hyn4 =>
              intro w' hSw
              have s1 := hSw
              have hl := HLJ.out w' (HCWL.out w' s1)
              simp [execOp, Act.eval, hl, Result.andThen]
            (try simp only [Act.put, List.getElem_toArray, List.getElem_cons_succ, List.getElem_cons_zero, List.setIfInBounds_toArray, List.set_cons_zero, List.set_cons_succ])
            refine' tkH (i := 5) (v := _) rfl (Or.inl ⟨by rfl, ?hyn5⟩) H0 ?restn5
            case hyn5 =>
              intro w' hSw
              have s1 := hSw
              go_simp
              try with_reducible rfl
            (try simp only [Act.put, List.getElem_toArray, List.getElem_cons_succ, List.getElem_cons_zero, List.setIfInBounds_toArray, List.set_cons_zero, List.set_cons_succ])
            refine' tkH (i := 6) (v := _) rfl (Or.inl ⟨by rfl, ?hyn6⟩) H0 ?restn6
            case hyn6 =>
              intro w' hSw
              have s1 := hSw
              have hc := (show w'.cell? ⟨q, 23, none⟩ = some (.slice (some a) n c) by rw [cell_of_row _ _ _ _ _ _ ((s1.block q (lt_of_block HXL.out) (by simp)).trans HXL.out)]; exact HBL.out)
              go_simp
              try with_reducible rfl
            (try simp only [Act.put, List.getElem_toArray, List.getElem_cons_succ, List.getElem_cons_zero, List.setIfInBounds_toArray, List.set_cons_zero, List.set_cons_succ])
            refine' tkH (i := 7) (v := _) rfl (Or.inl ⟨by rfl, ?hyn7⟩) H0 ?restn7
            case hyn7 =>
              intro w' hSw
              have s1 := hSw
              go_simp
              try with_reducible rfl
            (try simp only [Act.put, List.getElem_toArray, List.getElem_cons_succ, List.getElem_cons_zero, List.setIfInBounds_toArray, List.set_cons_zero, List.set_cons_succ])
            refine' tkH (i := 8) (v := _) rfl (Or.inl ⟨by rfl, ?hyn8⟩) H0 ?restn8
            case hyn8 =>
              intro w' hSw
              have s1 := hSw
              go_simp
              try with_reducible rfl
            (try simp only [Act.put, List.getElem_toArray, List.getElem_cons_succ, List.getElem_cons_zero, List.setIfInBounds_toArray, List.set_cons_zero, List.set_cons_succ])
            refine' tkH (i := 9) (v := .agg Rk) rfl (Or.inl ⟨by rfl, ?hyn9⟩) H0 ?restn9
            case hyn9 =>
              intro w' hSw
              have s1 := hSw
              have hl := HLK.out w' (HCWL.out w' s1)
              simp [execOp, Act.eval, hl, Result.andThen]
            (try simp only [Act.put, List.getElem_toArray, List.getElem_cons_succ, List.getElem_cons_zero, List.setIfInBounds_toArray, List.set_cons_zero, List.set_cons_succ])
            refine' tkH (i := 10) (v := .bool false) rfl (Or.inl ⟨by rfl, ?hyn10⟩) H0 ?restn10
            case hyn10 =>
              intro w' hSw
              have s1 := hSw
              have hqq := HQ.out w'
              simp [execOp, Act.eval, hash_guard, hqq, Result.andThen]
            (try simp only [Act.put, List.getElem_toArray, List.getElem_cons_succ, List.getElem_cons_zero, List.setIfInBounds_toArray, List.set_cons_zero, List.set_cons_succ])
            refine' tkH (i := 11) (v := _) rfl (Or.inl ⟨by rfl, ?hyn11⟩) H0 ?restn11
            case hyn11 =>
              intro w' hSw
              have s1 := hSw
              go_simp
              try with_reducible rfl
            (try simp only [Act.put, List.getElem_toArray, List.getElem_cons_succ, List.getElem_cons_zero, List.setIfInBounds_toArray, List.set_cons_zero, List.set_cons_succ])
            refine tkH (i := 12) (v := undef) rfl (Or.inr ⟨by rfl, rfl⟩) H0 ?_
            (try simp only [Act.put, List.getElem_toArray, List.getElem_cons_succ, List.getElem_cons_zero, List.setIfInBounds_toArray, List.set_cons_zero, List.set_cons_succ])
            refine tkH (i := 13) (v := undef) rfl (Or.inr ⟨by rfl, rfl⟩) H0 ?_
            (try simp only [Act.put, List.getElem_toArray, List.getElem_cons_succ, List.getElem_cons_zero, List.setIfInBounds_toArray, List.set_cons_zero, List.set_cons_succ])
            refine tkH (i := 14) (v := undef) rfl (Or.inr ⟨by rfl, rfl⟩) H0 ?_
            (try simp only [Act.put, List.getElem_toArray, List.getElem_cons_succ, List.getElem_cons_zero, List.setIfInBounds_toArray, List.set_cons_zero, List.set_cons_succ])
            refine tkH (i := 15) (v := undef) rfl (Or.inr ⟨by rfl, rfl⟩) H0 ?_
            (try simp only [Act.put, List.getElem_toArray, List.getElem_cons_succ, List.getElem_cons_zero, List.setIfInBounds_toArray, List.set_cons_zero, List.set_cons_succ])
            refine tkH (i := 16) (v := undef) rfl (Or.inr ⟨by rfl, rfl⟩) H0 ?_
            (try simp only [Act.put, List.getElem_toArray, List.getElem_cons_succ, List.getElem_cons_zero, List.setIfInBounds_toArray, List.set_cons_zero, List.set_cons_succ])
            refine tkH (i := 17) (v := undef) rfl (Or.inr ⟨by rfl, rfl⟩) H0 ?_
            (try simp only [Act.put, List.getElem_toArray, List.getElem_cons_succ, List.getElem_cons_zero, List.setIfInBounds_toArray, List.set_cons_zero, List.set_cons_succ])
            refine tkH (i := 18) (v := undef) rfl (Or.inr ⟨by rfl, rfl⟩) H0 ?_
            (try simp only [Act.put, List.getElem_toArray, List.getElem_cons_succ, List.getElem_cons_zero, List.setIfInBounds_toArray, List.set_cons_zero, List.set_cons_succ])
            refine' tkH (i := 19) (v := _) rfl (Or.inl ⟨by rfl, ?hyn19⟩) H0 ?restn19
            case hyn19 =>
              intro w' hSw
              have s1 := hSw
              go_simp
              try with_reducible rfl
            (try simp only [Act.put, List.getElem_toArray, List.getElem_cons_succ, List.getElem_cons_zero, List.setIfInBounds_toArray, List.set_cons_zero, List.set_cons_succ])
            refine wpAnyH_done (by kernel_rfl) ?_ _
            have HCN := Lib.hid (HCL.out.trans H0 (by simp))
            have HBN := Lib.hid (show wr.drew.heap[qs]? = some (.cells (smF r k FD j).cells 93 (0, 0)) from by rw [smF_miss HSB.out]; exact (H0.block qs (lt_of_block HBL2.out) (by simp)).trans HBL2.out)
            clear H0 HBL2 HCL HCWL HXL
            go_wp2_with fail
            go_roundw
            case rel => exact ⟨_, rfl, Lib.hid ⟨j, by first | rfl | exact hz2, by omega, HBN, HCN⟩⟩
            case measure => simp [intOf] <;> omega
          | true =>
            by_cases hm : Mj = Mk
            · have HSB : Hid (sameBlk r k j = true) := Lib.hid (by rw [HSM.out, hm, decide_eq_true rfl]; rfl)
              subst hm
              clear HSM
              go_upto_region 15 with (fail)
              refine wp_region_held_drew (S := fun w' => Chg [] wr w') (by kernel_rfl) ((Chg.drewN [] wr 1)) (fun H0 => ?_)
              refine' tkH (i := 0) (v := _) rfl (Or.inl ⟨by rfl, ?hys0⟩) H0 ?rests0
              case hys0 =>
                intro w' hSw
                have s1 := hSw
                go_simp
                try with_reducible rfl
              (try simp only [Act.put, List.getElem_toArray, List.getElem_cons_zero, List.setIfInBounds_toArray, List.set_cons_zero, List.set_cons_succ])
              refine' tkH (i := 1) (v := _) rfl (Or.inl ⟨by rfl, ?hys1⟩) H0 ?rests1
              case hys1 =>
                intro w' hSw
                have s1 := hSw
                have hc := (show w'.cell? ⟨q, 23, none⟩ = some (.slice (some a) n c) by rw [cell_of_row _ _ _ _ _ _ ((s1.block q (lt_of_block HXL.out) (by simp)).trans HXL.out)]; exact HBL.out)
                go_simp
                try with_reducible rfl
              (try simp only [Act.put, List.getElem_toArray, List.getElem_cons_succ, List.getElem_cons_zero, List.setIfInBounds_toArray, List.set_cons_zero, List.set_cons_succ])
              refine' tkH (i := 2) (v := _) rfl (Or.inl ⟨by rfl, ?hys2⟩) H0 ?rests2
              case hys2 =>
                intro w' hSw
                have s1 := hSw
                go_simp
                try with_reducible rfl
              (try simp only [Act.put, List.getElem_toArray, List.getElem_cons_succ, List.getElem_cons_zero, List.setIfInBounds_toArray, List.set_cons_zero, List.set_cons_succ])
              refine' tkH (i := 3) (v := _) rfl (Or.inl ⟨by rfl, ?hys3⟩) H0 ?rests3
              case hys3 =>
                intro w' hSw
                have s1 := hSw
                go_simp
                try with_reducible rfl
              (try simp only [Act.put, List.getElem_toArray, List.getElem_cons_succ, List.getElem_cons_zero, List.setIfInBounds_toArray, List.set_cons_zero, List.set_cons_succ])
              refine' tkH (i := 4) (v := .agg Rj) rfl (Or.inl ⟨by rfl, ?hys4⟩) H0 ?rests4
              case hys4 =>
                intro w' hSw
                have s1 := hSw
                have hl := HLJ.out w' (HCWL.out w' s1)
                simp [execOp, Act.eval, hl, Result.andThen]
              (try simp only [Act.put, List.getElem_toArray, List.getElem_cons_succ, List.getElem_cons_zero, List.setIfInBounds_toArray, List.set_cons_zero, List.set_cons_succ])
              refine' tkH (i := 5) (v := _) rfl (Or.inl ⟨by rfl, ?hys5⟩) H0 ?rests5
              case hys5 =>
                intro w' hSw
                have s1 := hSw
                go_simp
                try with_reducible rfl
              (try simp only [Act.put, List.getElem_toArray, List.getElem_cons_succ, List.getElem_cons_zero, List.setIfInBounds_toArray, List.set_cons_zero, List.set_cons_succ])
              refine' tkH (i := 6) (v := _) rfl (Or.inl ⟨by rfl, ?hys6⟩) H0 ?rests6
              case hys6 =>
                intro w' hSw
                have s1 := hSw
                have hc := (show w'.cell? ⟨q, 23, none⟩ = some (.slice (some a) n c) by rw [cell_of_row _ _ _ _ _ _ ((s1.block q (lt_of_block HXL.out) (by simp)).trans HXL.out)]; exact HBL.out)
                go_simp
                try with_reducible rfl
              (try simp only [Act.put, List.getElem_toArray, List.getElem_cons_succ, List.getElem_cons_zero, List.setIfInBounds_toArray, List.set_cons_zero, List.set_cons_succ])
              refine' tkH (i := 7) (v := _) rfl (Or.inl ⟨by rfl, ?hys7⟩) H0 ?rests7
              case hys7 =>
                intro w' hSw
                have s1 := hSw
                go_simp
                try with_reducible rfl
              (try simp only [Act.put, List.getElem_toArray, List.getElem_cons_succ, List.getElem_cons_zero, List.setIfInBounds_toArray, List.set_cons_zero, List.set_cons_succ])
              refine' tkH (i := 8) (v := _) rfl (Or.inl ⟨by rfl, ?hys8⟩) H0 ?rests8
              case hys8 =>
                intro w' hSw
                have s1 := hSw
                go_simp
                try with_reducible rfl
              (try simp only [Act.put, List.getElem_toArray, List.getElem_cons_succ, List.getElem_cons_zero, List.setIfInBounds_toArray, List.set_cons_zero, List.set_cons_succ])
              refine' tkH (i := 9) (v := .agg Rk) rfl (Or.inl ⟨by rfl, ?hys9⟩) H0 ?rests9
              case hys9 =>
                intro w' hSw
                have s1 := hSw
                have hl := HLK.out w' (HCWL.out w' s1)
                simp [execOp, Act.eval, hl, Result.andThen]
              (try simp only [Act.put, List.getElem_toArray, List.getElem_cons_succ, List.getElem_cons_zero, List.setIfInBounds_toArray, List.set_cons_zero, List.set_cons_succ])
              refine' tkH (i := 10) (v := .bool true) rfl (Or.inl ⟨by rfl, ?hys10⟩) H0 ?rests10
              case hys10 =>
                intro w' hSw
                have s1 := hSw
                have hqq := HQ.out w'
                simp [execOp, Act.eval, hash_guard, hqq, Result.andThen]
              (try simp only [Act.put, List.getElem_toArray, List.getElem_cons_succ, List.getElem_cons_zero, List.setIfInBounds_toArray, List.set_cons_zero, List.set_cons_succ])
              refine' tkH (i := 11) (v := _) rfl (Or.inl ⟨by rfl, ?hys11⟩) H0 ?rests11
              case hys11 =>
                intro w' hSw
                have s1 := hSw
                go_simp
                try with_reducible rfl
              (try simp only [Act.put, List.getElem_toArray, List.getElem_cons_succ, List.getElem_cons_zero, List.setIfInBounds_toArray, List.set_cons_zero, List.set_cons_succ])
              refine' tkH (i := 12) (v := .agg RC) rfl (Or.inl ⟨by rfl, ?hys12⟩) H0 ?rests12
              case hys12 =>
                intro w' hSw
                have s1 := hSw
                have hl := run_loadAt_rec w' q RC _ ((s1.block q (lt_of_block HXL.out) (by simp)).trans HXL.out) HRS.out
                simp [execOp, Act.eval, hl, Result.andThen]
              (try simp only [Act.put, List.getElem_toArray, List.getElem_cons_succ, List.getElem_cons_zero, List.setIfInBounds_toArray, List.set_cons_zero, List.set_cons_succ])
              refine' tkH (i := 13) (v := _) rfl (Or.inl ⟨by rfl, ?hys13⟩) H0 ?rests13
              case hys13 =>
                intro w' hSw
                have s1 := hSw
                go_simp
                try with_reducible rfl
              (try simp only [Act.put, List.getElem_toArray, List.getElem_cons_succ, List.getElem_cons_zero, List.setIfInBounds_toArray, List.set_cons_zero, List.set_cons_succ])
              refine' tkH (i := 15) (v := .agg RC) rfl (Or.inl ⟨by rfl, ?hys15⟩) H0 ?rests15
              case hys15 =>
                intro w' hSw
                have s1 := hSw
                have hl := run_loadAt_rec w' q RC _ ((s1.block q (lt_of_block HXL.out) (by simp)).trans HXL.out) HRS.out
                simp [execOp, Act.eval, hl, Result.andThen]
              (try simp only [Act.put, List.getElem_toArray, List.getElem_cons_succ, List.getElem_cons_zero, List.setIfInBounds_toArray, List.set_cons_zero, List.set_cons_succ])
              refine' tkH (i := 16) (v := _) rfl (Or.inl ⟨by rfl, ?hys16⟩) H0 ?rests16
              case hys16 =>
                intro w' hSw
                have s1 := hSw
                go_simp
                try with_reducible rfl
              (try simp only [Act.put, List.getElem_toArray, List.getElem_cons_succ, List.getElem_cons_zero, List.setIfInBounds_toArray, List.set_cons_zero, List.set_cons_succ])
              refine wpAnyH_ready (rs := [14]) (by kernel_rfl) (by simp) (AllReadyH.cons rfl (fun K hK => ?_) AllReadyH.nil)
              go_simp
              refine (KLj.out _ (HCWL.out _ H0)).mono ?_
              rintro e wy14 ⟨rfl, Cy⟩
              go_simp
              refine hK.out _ _ (H0.trans Cy (by simp)) (fun H1 => ?_)
              clear hK K Cy
              refine wpAnyH_ready (rs := [17]) (by kernel_rfl) (by simp) (AllReadyH.cons rfl (fun K hK => ?_) AllReadyH.nil)
              go_simp
              refine (KLk.out _ (HCWL.out _ H1)).mono ?_
              rintro e wy17 ⟨rfl, Cy⟩
              go_simp
              refine hK.out _ _ (H1.trans Cy (by simp)) (fun H2 => ?_)
              clear hK K Cy
              refine' tkH (i := 18) (v := _) rfl (Or.inl ⟨by rfl, ?hys18⟩) H2 ?rests18
              case hys18 =>
                intro w' hSw
                have s1 := hSw
                go_simp
                try with_reducible rfl
              (try simp only [Act.put, List.getElem_toArray, List.getElem_cons_succ, List.getElem_cons_zero, List.setIfInBounds_toArray, List.set_cons_zero, List.set_cons_succ])
              refine' tkH (i := 19) (v := _) rfl (Or.inl ⟨by rfl, ?hys19⟩) H2 ?rests19
              case hys19 =>
                intro w' hSw
                have s1 := hSw
                go_simp
                try with_reducible rfl
              (try simp only [Act.put, List.getElem_toArray, List.getElem_cons_succ, List.getElem_cons_zero, List.setIfInBounds_toArray, List.set_cons_zero, List.set_cons_succ])
              refine wpAnyH_done (by kernel_rfl) ?_ _
              obtain ⟨hst, hh, CZ⟩ := step_putR (⟨k, 3, ⟨#[]⟩, 0, j⟩ : StepV) ((H2.block qs (lt_of_block HBL2.out) (by simp)).trans HBL2.out) (HCL.out.trans H2 (by simp)) ⟨HQS.out, rfl⟩
              have HCN := Lib.hid CZ
              have HBN := Lib.hid (show (wy17.setRow qs (⟨k, 3, ⟨#[]⟩, 0, j⟩ : StepV).cells).heap[qs]? = some (.cells (smF r k FD j).cells 93 (0, 0)) from by rw [smF_hit hjk HSB.out]; exact hh)
              clear H0 HBL2 HCL HCWL HXL hh CZ
              simp only [StepV.cells] at hst
              go_wp2_with (refine wpList_store_y 93 (.tmp 11) (.tmp 85) rfl (by first | rfl | go_simp) (.pointer (some ⟨qs, 0, none⟩)) (.agg (⟨k, 3, ⟨#[]⟩, 0, j⟩ : StepV).cells) _ hst rfl rfl ?_)
              go_roundw
              case rel => exact ⟨_, rfl, Lib.hid ⟨j, by first | rfl | exact hz2, by omega, HBN, HCN⟩⟩
              case measure => simp [intOf] <;> omega
            · have hm2 : ¬ (Mj : Int) = (Mk : Int) := by omega
              have HSB : Hid (sameBlk r k j = false) := Lib.hid (by rw [HSM.out, decide_eq_false hm2]; rfl)
              clear HSM
              go_upto_region 15 with (fail)
              refine wp_region_held_drew (S := fun w' => Chg [] wr w') (by kernel_rfl) ((Chg.drewN [] wr 1)) (fun H0 => ?_)
              refine' tkH (i := 0) (v := _) rfl (Or.inl ⟨by rfl, ?hym0⟩) H0 ?restm0
              case hym0 =>
                intro w' hSw
                have s1 := hSw
                go_simp
                try with_reducible rfl
              (try simp only [Act.put, List.getElem_toArray, List.getElem_cons_zero, List.setIfInBounds_toArray, List.set_cons_zero, List.set_cons_succ])
              refine' tkH (i := 1) (v := _) rfl (Or.inl ⟨by rfl, ?hym1⟩) H0 ?restm1
              case hym1 =>
                intro w' hSw
                have s1 := hSw
                have hc := (show w'.cell? ⟨q, 23, none⟩ = some (.slice (some a) n c) by rw [cell_of_row _ _ _ _ _ _ ((s1.block q (lt_of_block HXL.out) (by simp)).trans HXL.out)]; exact HBL.out)
                go_simp
                try with_reducible rfl
              (try simp only [Act.put, List.getElem_toArray, List.getElem_cons_succ, List.getElem_cons_zero, List.setIfInBounds_toArray, List.set_cons_zero, List.set_cons_succ])
              refine' tkH (i := 2) (v := _) rfl (Or.inl ⟨by rfl, ?hym2⟩) H0 ?restm2
              case hym2 =>
                intro w' hSw
                have s1 := hSw
                go_simp
                try with_reducible rfl
              (try simp only [Act.put, List.getElem_toArray, List.getElem_cons_succ, List.getElem_cons_zero, List.setIfInBounds_toArray, List.set_cons_zero, List.set_cons_succ])
              refine' tkH (i := 3) (v := _) rfl (Or.inl ⟨by rfl, ?hym3⟩) H0 ?restm3
              case hym3 =>
                intro w' hSw
                have s1 := hSw
                go_simp
                try with_reducible rfl
              (try simp only [Act.put, List.getElem_toArray, List.getElem_cons_succ, List.getElem_cons_zero, List.setIfInBounds_toArray, List.set_cons_zero, List.set_cons_succ])
              refine' tkH (i := 4) (v := .agg Rj) rfl (Or.inl ⟨by rfl, ?hym4⟩) H0 ?restm4
              case hym4 =>
                intro w' hSw
                have s1 := hSw
                have hl := HLJ.out w' (HCWL.out w' s1)
                simp [execOp, Act.eval, hl, Result.andThen]
              (try simp only [Act.put, List.getElem_toArray, List.getElem_cons_succ, List.getElem_cons_zero, List.setIfInBounds_toArray, List.set_cons_zero, List.set_cons_succ])
              refine' tkH (i := 5) (v := _) rfl (Or.inl ⟨by rfl, ?hym5⟩) H0 ?restm5
              case hym5 =>
                intro w' hSw
                have s1 := hSw
                go_simp
                try with_reducible rfl
              (try simp only [Act.put, List.getElem_toArray, List.getElem_cons_succ, List.getElem_cons_zero, List.setIfInBounds_toArray, List.set_cons_zero, List.set_cons_succ])
              refine' tkH (i := 6) (v := _) rfl (Or.inl ⟨by rfl, ?hym6⟩) H0 ?restm6
              case hym6 =>
                intro w' hSw
                have s1 := hSw
                have hc := (show w'.cell? ⟨q, 23, none⟩ = some (.slice (some a) n c) by rw [cell_of_row _ _ _ _ _ _ ((s1.block q (lt_of_block HXL.out) (by simp)).trans HXL.out)]; exact HBL.out)
                go_simp
                try with_reducible rfl
              (try simp only [Act.put, List.getElem_toArray, List.getElem_cons_succ, List.getElem_cons_zero, List.setIfInBounds_toArray, List.set_cons_zero, List.set_cons_succ])
              refine' tkH (i := 7) (v := _) rfl (Or.inl ⟨by rfl, ?hym7⟩) H0 ?restm7
              case hym7 =>
                intro w' hSw
                have s1 := hSw
                go_simp
                try with_reducible rfl
              (try simp only [Act.put, List.getElem_toArray, List.getElem_cons_succ, List.getElem_cons_zero, List.setIfInBounds_toArray, List.set_cons_zero, List.set_cons_succ])
              refine' tkH (i := 8) (v := _) rfl (Or.inl ⟨by rfl, ?hym8⟩) H0 ?restm8
              case hym8 =>
                intro w' hSw
                have s1 := hSw
                go_simp
                try with_reducible rfl
              (try simp only [Act.put, List.getElem_toArray, List.getElem_cons_succ, List.getElem_cons_zero, List.setIfInBounds_toArray, List.set_cons_zero, List.set_cons_succ])
              refine' tkH (i := 9) (v := .agg Rk) rfl (Or.inl ⟨by rfl, ?hym9⟩) H0 ?restm9
              case hym9 =>
                intro w' hSw
                have s1 := hSw
                have hl := HLK.out w' (HCWL.out w' s1)
                simp [execOp, Act.eval, hl, Result.andThen]
              (try simp only [Act.put, List.getElem_toArray, List.getElem_cons_succ, List.getElem_cons_zero, List.setIfInBounds_toArray, List.set_cons_zero, List.set_cons_succ])
              refine' tkH (i := 10) (v := .bool true) rfl (Or.inl ⟨by rfl, ?hym10⟩) H0 ?restm10
              case hym10 =>
                intro w' hSw
                have s1 := hSw
                have hqq := HQ.out w'
                simp [execOp, Act.eval, hash_guard, hqq, Result.andThen]
              (try simp only [Act.put, List.getElem_toArray, List.getElem_cons_succ, List.getElem_cons_zero, List.setIfInBounds_toArray, List.set_cons_zero, List.set_cons_succ])
              refine' tkH (i := 11) (v := _) rfl (Or.inl ⟨by rfl, ?hym11⟩) H0 ?restm11
              case hym11 =>
                intro w' hSw
                have s1 := hSw
                go_simp
                try with_reducible rfl
              (try simp only [Act.put, List.getElem_toArray, List.getElem_cons_succ, List.getElem_cons_zero, List.setIfInBounds_toArray, List.set_cons_zero, List.set_cons_succ])
              refine' tkH (i := 12) (v := .agg RC) rfl (Or.inl ⟨by rfl, ?hym12⟩) H0 ?restm12
              case hym12 =>
                intro w' hSw
                have s1 := hSw
                have hl := run_loadAt_rec w' q RC _ ((s1.block q (lt_of_block HXL.out) (by simp)).trans HXL.out) HRS.out
                simp [execOp, Act.eval, hl, Result.andThen]
              (try simp only [Act.put, List.getElem_toArray, List.getElem_cons_succ, List.getElem_cons_zero, List.setIfInBounds_toArray, List.set_cons_zero, List.set_cons_succ])
              refine' tkH (i := 13) (v := _) rfl (Or.inl ⟨by rfl, ?hym13⟩) H0 ?restm13
              case hym13 =>
                intro w' hSw
                have s1 := hSw
                go_simp
                try with_reducible rfl
              (try simp only [Act.put, List.getElem_toArray, List.getElem_cons_succ, List.getElem_cons_zero, List.setIfInBounds_toArray, List.set_cons_zero, List.set_cons_succ])
              refine' tkH (i := 15) (v := .agg RC) rfl (Or.inl ⟨by rfl, ?hym15⟩) H0 ?restm15
              case hym15 =>
                intro w' hSw
                have s1 := hSw
                have hl := run_loadAt_rec w' q RC _ ((s1.block q (lt_of_block HXL.out) (by simp)).trans HXL.out) HRS.out
                simp [execOp, Act.eval, hl, Result.andThen]
              (try simp only [Act.put, List.getElem_toArray, List.getElem_cons_succ, List.getElem_cons_zero, List.setIfInBounds_toArray, List.set_cons_zero, List.set_cons_succ])
              refine' tkH (i := 16) (v := _) rfl (Or.inl ⟨by rfl, ?hym16⟩) H0 ?restm16
              case hym16 =>
                intro w' hSw
                have s1 := hSw
                go_simp
                try with_reducible rfl
              (try simp only [Act.put, List.getElem_toArray, List.getElem_cons_succ, List.getElem_cons_zero, List.setIfInBounds_toArray, List.set_cons_zero, List.set_cons_succ])
              refine wpAnyH_ready (rs := [14]) (by kernel_rfl) (by simp) (AllReadyH.cons rfl (fun K hK => ?_) AllReadyH.nil)
              go_simp
              refine (KLj.out _ (HCWL.out _ H0)).mono ?_
              rintro e wy14 ⟨rfl, Cy⟩
              go_simp
              refine hK.out _ _ (H0.trans Cy (by simp)) (fun H1 => ?_)
              clear hK K Cy
              refine wpAnyH_ready (rs := [17]) (by kernel_rfl) (by simp) (AllReadyH.cons rfl (fun K hK => ?_) AllReadyH.nil)
              go_simp
              refine (KLk.out _ (HCWL.out _ H1)).mono ?_
              rintro e wy17 ⟨rfl, Cy⟩
              go_simp
              refine hK.out _ _ (H1.trans Cy (by simp)) (fun H2 => ?_)
              clear hK K Cy
              refine' tkH (i := 18) (v := .bool false) rfl (Or.inl ⟨by rfl, ?hym18⟩) H2 ?restm18
              case hym18 =>
                intro w' hSw
                have s1 := hSw
                go_simp
                try (first | exact hm | simp [hm])
              (try simp only [Act.put, List.getElem_toArray, List.getElem_cons_succ, List.getElem_cons_zero, List.setIfInBounds_toArray, List.set_cons_zero, List.set_cons_succ])
              refine' tkH (i := 19) (v := _) rfl (Or.inl ⟨by rfl, ?hym19⟩) H2 ?restm19
              case hym19 =>
                intro w' hSw
                have s1 := hSw
                go_simp
                try with_reducible rfl
              (try simp only [Act.put, List.getElem_toArray, List.getElem_cons_succ, List.getElem_cons_zero, List.setIfInBounds_toArray, List.set_cons_zero, List.set_cons_succ])
              refine wpAnyH_done (by kernel_rfl) ?_ _
              have HCN := Lib.hid (HCL.out.trans H2 (by simp))
              have HBN := Lib.hid (show wy17.heap[qs]? = some (.cells (smF r k FD j).cells 93 (0, 0)) from by rw [smF_miss HSB.out]; exact (H2.block qs (lt_of_block HBL2.out) (by simp)).trans HBL2.out)
              clear H0 HBL2 HCL HCWL HXL
              go_wp2_with fail
              go_roundw
              case rel => exact ⟨_, rfl, Lib.hid ⟨j, by first | rfl | exact hz2, by omega, HBN, HCN⟩⟩
              case measure => simp [intOf] <;> omega
    · have e1 : ¬ (k : Int) < n := fun h => hlt (Int.ofNat_lt.1 h)
      have hkn : k = n := by omega
      have HLNN : Hid ((PL n).length = k) := Lib.hid (by rw [HPL.out, hkn])
      have HO' : Hid (wr.ownsRow 0 93 5 (.slice ao' k c') k (svs (PL n))) := Lib.hid (by rw [← hkn]; exact HO.out)
      clear HO hkn
      go_wp2_with fail
      go_ret2
      exact ⟨HC0.out.trans HC.out (by simp), ao', c', by rw [HLNN.out]; rfl, by rw [HLNN.out]; exact HO'.out, by rw [HLNN.out]; exact fun b hb => Nat.le_trans HC0.out.size (HNW.out b hb)⟩
end Go.Proofs.YtfdhpjflkimihaaDoor
/- Between the rounds of the reference's Build: what it keeps. No conditions beyond those that each statement types. -/
namespace Go.Proofs.YtfdhpjflkimihaaDoor
open Go.RowKit

def forbR (p u v : Value) : List Nat := p.ownBlock.toList ++ (u.ownBlock.toList ++ v.ownBlock.toList)
/-- The parts in a row of the call's own, the bytes, the bad ones. -/
structure RSt (w2 wr : World) (ps : List (List UInt8)) (xs : List UInt8) (bad : List Int) (p u v : Value) : Prop where
  C : Chg [] w2 wr
  out : wr.ownsRow 0 5 1 u xs.length (bvs xs)
  outN : ∀ k, u.ownBlock = some k → w2.heap.size ≤ k
  bad : wr.ownsRow 0 3 1 v bad.length (nvs bad)
  badN : ∀ k, v.ownBlock = some k → w2.heap.size ≤ k
  row : ∃ vs, wr.ownsRow 0 25 1 p ps.length vs ∧ ∀ (j : Nat) (x : List UInt8), ps[j]? = some x → ∃ pv, vs[j]? = some pv ∧ PV wr (forbR p u v) pv x
  rowN : ∀ k, p.ownBlock = some k → w2.heap.size ≤ k
theorem RSt.start (w : World) : RSt w w [] [] [] (.slice none 0 0) (.slice none 0 0) (.slice none 0 0) :=
  ⟨Chg.refl _ _, World.ownsRow_nil _ _ _ _, (fun k hk => by cases hk), World.ownsRow_nil _ _ _ _, (fun k hk => by cases hk), ⟨[], World.ownsRow_nil _ _ _ _, fun j x hx => by simp at hx⟩, (fun k hk => by cases hk)⟩
theorem own_types {w : World} {t1 t2 : TypeId} {s1 s2 : Nat} {v1 v2 : Value} {n1 n2 : Nat} {l1 l2 : List Value} (h1 : w.ownsRow 0 t1 s1 v1 n1 l1) (h2 : w.ownsRow 0 t2 s2 v2 n2 l2) (ht : t1 ≠ t2) {k : Nat} (e1 : v1.ownBlock = some k) (e2 : v2.ownBlock = some k) : False := by
  rcases h1.2 with ⟨rfl, _⟩ | ⟨g, cap, cur, rfl, _, hg, _⟩
  · cases e1
  · cases e1
    exact ownsRow_ne h2 hg ht e2
theorem RSt.keep {w2 wr w' : World} {ps : List (List UInt8)} {xs : List UInt8} {bad : List Int} {p u v : Value} (h : RSt w2 wr ps xs bad p u v) (C : Chg [] wr w') : RSt w2 w' ps xs bad p u v := by
  obtain ⟨vs, h1, h2⟩ := h.row
  exact ⟨h.C.trans C (by simp), ownsRow_chg h.out C (by simp), h.outN, ownsRow_chg h.bad C (by simp), h.badN, ⟨vs, ownsRow_chg h1 C (by simp), fun j x hx => by
    obtain ⟨pv, e, hp⟩ := h2 j x hx
    exact ⟨pv, e, hp.chg C (by simp)⟩⟩, h.rowN⟩
theorem forbR_lt {w2 wr : World} {ps : List (List UInt8)} {xs : List UInt8} {bad : List Int} {p u v : Value} (h : RSt w2 wr ps xs bad p u v) : ∀ k ∈ forbR p u v, k < wr.heap.size ∧ w2.heap.size ≤ k := by
  intro k hk
  simp only [forbR, List.mem_append, Option.mem_toList] at hk
  obtain ⟨vs, h1, _⟩ := h.row
  rcases hk with hk | hk | hk
  · exact ⟨ownsRow_lt h1 k hk, h.rowN k hk⟩
  · exact ⟨ownsRow_lt h.out k hk, h.outN k hk⟩
  · exact ⟨ownsRow_lt h.bad k hk, h.badN k hk⟩
/-- A block that is an own one grown is none of the others. -/
theorem PV.grown {w w' : World} {X Y S : List Nat} {pv : Value} {x : List UInt8} (h : PV w X pv x) (C : Chg S w w') (hS : ∀ k ∈ S, k ∈ X) (hY : ∀ k ∈ Y, k ∈ X ∨ w.heap.size ≤ k) : PV w' Y pv x :=
  (((h.grow (Y := Y ++ S) (fun k hk => by
    rcases List.mem_append.1 hk with hk | hk
    · exact hY k hk
    · exact .inl (hS k hk))).chg C (fun k hk => .inl (List.mem_append_right _ hk)))).grow (fun _ hk => .inl (List.mem_append_left _ hk))
theorem RSt.out_to {w2 wr w' : World} {m c : Nat} {ps : List (List UInt8)} {xs x : List UInt8} {bad : List Int} {p u v : Value} {ao : Option Addr} (h : RSt w2 wr ps xs bad p u v) (hm : m = (xs ++ x).length) (ho : w'.ownsRow 0 5 1 (.slice ao m c) m (bvs xs ++ bvs x))
    (hg : wr.grownBy w' u.ownBlock) (hb : (Value.slice ao m c).ownBlock = u.ownBlock ∨ (Value.slice ao m c).ownBlock = some wr.heap.size) : RSt w2 w' ps (xs ++ x) bad p (.slice ao m c) v := by
  subst hm
  obtain ⟨vs, h1, h2⟩ := h.row
  have C : Chg u.ownBlock.toList wr w' := Chg.grown hg (fun k hk => .inl (by simp [hk]))
  have hsz := h.C.size
  refine ⟨h.C.trans C (fun k hk => .inr (h.outN k (by simpa using hk))), by rw [bvs_append]; exact ho, fun k hk => ?_, ownsRow_chg h.bad C (fun k hk hm => own_types h.out h.bad (by decide) (by simpa using hm) hk), h.badN, ⟨vs, ownsRow_chg h1 C (fun k hk hm => own_types h.out h1 (by decide) (by simpa using hm) hk), fun j y hy => ?_⟩, h.rowN⟩
  · rcases hb with e | e
    · exact h.outN k (by rw [← e]; exact hk)
    · rw [e] at hk; cases hk; exact hsz
  · obtain ⟨pv, e, hp⟩ := h2 j y hy
    refine ⟨pv, e, hp.grown C (fun k hk => ?_) (fun k hk => ?_)⟩
    · simp only [forbR, List.mem_append]; exact .inr (.inl hk)
    · simp only [forbR, List.mem_append, Option.mem_toList] at hk ⊢
      rcases hk with hk | hk | hk
      · exact .inl (.inl hk)
      · rcases hb with e | e
        · exact .inl (.inr (.inl (by rw [← e]; exact hk)))
        · rw [e] at hk; cases hk; exact .inr (Nat.le_refl _)
      · exact .inl (.inr (.inr hk))
theorem RSt.bad_to {w2 wr w' : World} {m c : Nat} {ps : List (List UInt8)} {xs : List UInt8} {bad : List Int} {b : Int} {p u v : Value} {ao : Option Addr} (h : RSt w2 wr ps xs bad p u v) (hm : m = (bad ++ [b]).length) (ho : w'.ownsRow 0 3 1 (.slice ao m c) m (nvs bad ++ [.int .i64 b]))
    (hg : wr.grownBy w' v.ownBlock) (hb : (Value.slice ao m c).ownBlock = v.ownBlock ∨ (Value.slice ao m c).ownBlock = some wr.heap.size) : RSt w2 w' ps xs (bad ++ [b]) p u (.slice ao m c) := by
  subst hm
  obtain ⟨vs, h1, h2⟩ := h.row
  have C : Chg v.ownBlock.toList wr w' := Chg.grown hg (fun k hk => .inl (by simp [hk]))
  have hsz := h.C.size
  refine ⟨h.C.trans C (fun k hk => .inr (h.badN k (by simpa using hk))), ownsRow_chg h.out C (fun k hk hm => own_types h.bad h.out (by decide) (by simpa using hm) hk), h.outN, by rw [nvs_append]; exact ho, fun k hk => ?_, ⟨vs, ownsRow_chg h1 C (fun k hk hm => own_types h.bad h1 (by decide) (by simpa using hm) hk), fun j y hy => ?_⟩, h.rowN⟩
  · rcases hb with e | e
    · exact h.badN k (by rw [← e]; exact hk)
    · rw [e] at hk; cases hk; exact hsz
  · obtain ⟨pv, e, hp⟩ := h2 j y hy
    refine ⟨pv, e, hp.grown C (fun k hk => ?_) (fun k hk => ?_)⟩
    · simp only [forbR, List.mem_append]; exact .inr (.inr hk)
    · simp only [forbR, List.mem_append, Option.mem_toList] at hk ⊢
      rcases hk with hk | hk | hk
      · exact .inl (.inl hk)
      · exact .inl (.inr (.inl hk))
      · rcases hb with e | e
        · exact .inl (.inr (.inr (by rw [← e]; exact hk)))
        · rw [e] at hk; cases hk; exact .inr (Nat.le_refl _)
theorem RSt.part_to {w2 wr w' : World} {m c : Nat} {ps : List (List UInt8)} {xs x : List UInt8} {bad : List Int} {p u v pv : Value} {ao : Option Addr} {vs : List Value} (h : RSt w2 wr ps xs bad p u v) (hp : PV wr (forbR p u v) pv x)
    (hv : ∀ (j : Nat) (x : List UInt8), ps[j]? = some x → ∃ pv, vs[j]? = some pv ∧ PV wr (forbR p u v) pv x) (hl : wr.ownsRow 0 25 1 p ps.length vs) (hm : m = (ps ++ [x]).length) (ho : w'.ownsRow 0 25 1 (.slice ao m c) m (vs ++ [pv]))
    (hg : wr.grownBy w' p.ownBlock) (hb : (Value.slice ao m c).ownBlock = p.ownBlock ∨ (Value.slice ao m c).ownBlock = some wr.heap.size) : RSt w2 w' (ps ++ [x]) xs bad (.slice ao m c) u v := by
  subst hm
  have hvl : vs.length = ps.length := by have := hl.1; omega
  have C : Chg p.ownBlock.toList wr w' := Chg.grown hg (fun k hk => .inl (by simp [hk]))
  have hsz := h.C.size
  have hX : ∀ {q : Value} {y : List UInt8}, PV wr (forbR p u v) q y → PV w' (forbR (.slice ao (ps ++ [x]).length c) u v) q y := fun hq => hq.grown C (fun k hk => by simp only [forbR, List.mem_append]; exact .inl hk) (fun k hk => by
    simp only [forbR, List.mem_append, Option.mem_toList] at hk ⊢
    rcases hk with hk | hk | hk
    · rcases hb with e | e
      · exact .inl (.inl (by rw [← e]; exact hk))
      · rw [e] at hk; cases hk; exact .inr (Nat.le_refl _)
    · exact .inl (.inr (.inl hk))
    · exact .inl (.inr (.inr hk)))
  refine ⟨h.C.trans C (fun k hk => .inr (h.rowN k (by simpa using hk))), ownsRow_chg h.out C (fun k hk hm => own_types hl h.out (by decide) (by simpa using hm) hk), h.outN, ownsRow_chg h.bad C (fun k hk hm => own_types hl h.bad (by decide) (by simpa using hm) hk), h.badN, ⟨vs ++ [pv], ho, fun j y hy => ?_⟩, fun k hk => ?_⟩
  · by_cases hj : j = ps.length
    · subst hj
      rw [List.getElem?_append_right (Nat.le_refl _), Nat.sub_self] at hy
      cases hy
      exact ⟨pv, by rw [← hvl, List.getElem?_append_right (Nat.le_refl _), Nat.sub_self]; rfl, hX hp⟩
    · have hl2 := (List.getElem?_eq_some_iff.1 hy).1
      rw [List.length_append, List.length_singleton] at hl2
      rw [List.getElem?_append_left (by omega)] at hy
      obtain ⟨q, e, hq⟩ := hv j y hy
      exact ⟨q, by rw [List.getElem?_append_left (by omega)]; exact e, hX hq⟩
  · rcases hb with e | e
    · exact h.rowN k (by rw [← e]; exact hk)
    · rw [e] at hk; cases hk; exact hsz
theorem RSt.part_pv {wr w' : World} {m c : Nat} {x : List UInt8} {p u v pv : Value} {ao : Option Addr} (hp : PV wr (forbR p u v) pv x)
    (hg : wr.grownBy w' p.ownBlock) (hb : (Value.slice ao m c).ownBlock = p.ownBlock ∨ (Value.slice ao m c).ownBlock = some wr.heap.size) : PV w' (forbR (.slice ao m c) u v) pv x := by
  have C : Chg p.ownBlock.toList wr w' := Chg.grown hg (fun k hk => .inl (by simp [hk]))
  refine hp.grown C (fun k hk => by simp only [forbR, List.mem_append]; exact .inl hk) (fun k hk => ?_)
  simp only [forbR, List.mem_append, Option.mem_toList] at hk ⊢
  rcases hk with hk | hk | hk
  · rcases hb with e | e
    · exact .inl (.inl (by rw [← e]; exact hk))
    · rw [e] at hk; cases hk; exact .inr (Nat.le_refl _)
  · exact .inl (.inr (.inl hk))
  · exact .inl (.inr (.inr hk))
/-- A cell of the row of parts. -/
theorem RSt.cell {w2 wr : World} {ps : List (List UInt8)} {xs : List UInt8} {bad : List Int} {n c : Nat} {ao : Option Addr} {u v : Value} (h : RSt w2 wr ps xs bad (.slice ao n c) u v) {j : Nat} {x : List UInt8} (hx : ps[j]? = some x) :
    ∃ a pv, ao = some a ∧ wr.cell? (a.add j) = some pv ∧ PV wr (forbR (.slice ao n c) u v) pv x := by
  obtain ⟨vs, h1, h2⟩ := h.row
  obtain ⟨pv, e, hp⟩ := h2 j x hx
  have hs : n = ps.length := by
    obtain ⟨_, _, hv, _, _⟩ := ownsRow_slice h1
    cases hv
    rfl
  subst hs
  have hsrc := ownsRow_src_any h1
  obtain ⟨a, rfl, _⟩ := hsrc.lt (by
    have := (List.getElem?_eq_some_iff.1 e).1
    omega)
  exact ⟨a, pv, rfl, hsrc.cell a rfl j pv e, hp⟩
end Go.Proofs.YtfdhpjflkimihaaDoor
