/- The reference's Build, walked. No conditions beyond those that each statement types. -/
import Derived.Test.YtfdhpjflkimihaaDoorCvb
import Derived.Laws.BitsAllLaws
import Derived.Test.YtfdhpjflkimihaaDoorBkJd
namespace Go.Proofs.YtfdhpjflkimihaaDoor
open Go.RowKit

/-- The first block of number i from j on. -/
def IsFrom (G : List GotV) (i : Int) (j : Nat) : Option Nat → Prop
  | some t => j ≤ t ∧ ∃ g, G[t]? = some g ∧ g.block = i ∧ ∀ (u : Nat) (x : GotV), j ≤ u → u < t → G[u]? = some x → x.block ≠ i
  | none => ∀ (t : Nat) (g : GotV), j ≤ t → G[t]? = some g → g.block ≠ i
def gotVal (G : List GotV) : Option Nat → Value
  | some t => match G[t]? with
    | some g => .slice g.ao g.xs.length g.cap
    | none => .slice none 0 0
  | none => .slice none 0 0
theorem isFrom_zero {G : List GotV} {i : Int} {ot : Option Nat} (h : IsFrom G i 0 ot) : ot = gotIx G i := by
  cases ot with
  | none => exact (gotIx_no (fun t x hx => h t x (Nat.zero_le _) hx)).symm
  | some t =>
    obtain ⟨_, g, hg, hb, hu⟩ := h
    exact (gotIx_at hg hb (fun u x hu2 hx => hu u x (Nat.zero_le _) hu2 hx)).symm
theorem isFrom_miss {G : List GotV} {i : Int} {j : Nat} {ot : Option Nat} {g : GotV} (h : IsFrom G i (j + 1) ot) (hg : G[j]? = some g) (hb : g.block ≠ i) : IsFrom G i j ot := by
  cases ot with
  | none =>
    intro t x ht hx
    by_cases hj : t = j
    · subst hj
      rw [hg] at hx
      cases hx
      exact hb
    · exact h t x (by omega) hx
  | some t =>
    obtain ⟨h1, g2, hg2, hb2, hu⟩ := h
    refine ⟨by omega, g2, hg2, hb2, fun u x hu1 hu2 hx => ?_⟩
    by_cases hj : u = j
    · subst hj
      rw [hg] at hx
      cases hx
      exact hb
    · exact hu u x (by omega) hu2 hx
set_option maxRecDepth 100000 in
theorem rf_build_not (RC : Array Value) (r : RecV) (ao : Option Addr) (c : Nat) (hw : r.want ≠ 0) (lv : Value) (p : Option Addr) (tv gv : Value) (w : World) (H : RecIs w RC r ao c) :
    Calls Tryd.prog 84 #[.agg RC, lv, .pointer p, tv, gv] w (BuiltTo w ⟨[], [], r.want⟩) := by
  have hx0 := heap_alloc_new w (.cells RC 77)
  have C0 := Chg.alloc [] w (.cells RC 77)
  have KW := Lib.hid (fun w' (C : Chg [] w w') => rf_wanted RC r ao c w' (H.chg0 C))
  have hldr := run_loadAt_rec _ _ RC _ hx0 H.size
  generalize r.want = W at *
  clear H hx0
  go_enter Tryd.func84, Tryd.ntmps84
  go_wp2_with (refine wpList_load_y 77 (.tmp 5) rfl (by go_simp) (.pointer (some ⟨w.heap.size, 0, none⟩)) (.agg RC) hldr rfl ?_)
  refine (KW.out _ C0).mono ?_
  rintro e w2 ⟨rfl, C2⟩
  have HC2 := Lib.hid (C0.trans C2 (by simp))
  clear C0 C2 hldr
  go_wp2_with fail
  go_ret3
  exact BuiltTo.none _ _ _ HC2.out
set_option maxRecDepth 100000 in
set_option maxHeartbeats 8000000 in
theorem rf_build (RC : Array Value) (r : RecV) (ao : Option Addr) (c : Nat) (N : Nat) (g : r.Good N) (l : List StepV) (so : Option Addr) (sc : Nat) (p : Option Addr) (fo : HKey → Option (Pl × List UInt8)) (ta : Option Addr) (tc : Nat) (T : List UInt8) (G : List GotV) (go : Option Addr) (gc : Nat) (w : World)
    (H : RecIs w RC r ao c) (hF : FindsAsR w p fo) (hfo : ∀ k, (fX (fo k)).length ≤ 128) (hs : Src w ta (bvs T)) (hT : T.length ≤ 9223372036854775807) (htc : T.length ≤ tc) (h0 : ta = none → tc = 0)
    (hl : Src w so (svs l)) (hlc : l.length ≤ sc) (hl6 : l.length ≤ 1000000) (hG : GotsAt w go gc G) (hG6 : G.length ≤ 1000000) (hGx : ∀ (k : Nat) (g : GotV), G[k]? = some g → g.xs.length ≤ 1000000) :
    Calls Tryd.prog 84 #[.agg RC, .slice so l.length sc, .pointer p, .slice ta T.length tc, .slice go G.length gc] w (BuiltTo w (buildV r N T fo G l)) := by
  have hx0 := heap_alloc_new w (.cells RC 77)
  have C0 := Chg.alloc [] w (.cells RC 77)
  have KW := Lib.hid (fun w' (C : Chg [] w w') => by
    have := rf_wanted RC r ao c w' (H.chg0 C)
    rewrite [g.want] at this
    exact this)
  have HST := Lib.hid (fun (k : Nat) (s : StepV) (h : l[k]? = some s) (wr : World) (C : Chg [] w wr) => show ∃ a, so = some a ∧ wr.cell? (a.add (k * 5)) = some (.int .i64 s.block) ∧ wr.cell? ⟨(a.add (k * 5)).block, (a.add (k * 5)).off + 1, none⟩ = some (.int .i64 s.from_) ∧ wr.cell? ⟨(a.add (k * 5)).block, (a.add (k * 5)).off + 4, none⟩ = some (.int .i64 s.same) from by
    have h1 := (List.getElem?_eq_some_iff.1 h).1
    obtain ⟨a, rfl, _⟩ := hl.lt (by
      rw [show (svs l).length = l.length * 5 from flat_length (enc := fun s : StepV => s.cells.toList) (size := 5) (fun _ => rfl) l]
      omega)
    have hc := src_flat (w := wr) (a := a) (cells := fun s : StepV => s.cells.toList) (size := 5) (fun _ => rfl) ((hl.chg C (by simp)).cell a rfl) h
    exact ⟨a, rfl, hc 0 (.int .i64 s.block) rfl, hc 1 (.int .i64 s.from_) rfl, hc 4 (.int .i64 s.same) rfl⟩)
  have HGE := Lib.hid (fun k (hk : k < l.length) => show ∃ s, l[k]? = some s from ⟨_, List.getElem?_eq_getElem hk⟩)
  have KP := Lib.hid (fun (i : Nat) (hi : i < cntN N) w' (C : Chg [] w w') => rf_placed RC r ao c N g i hi ta tc T w' (H.chg0 C) (hs.chg C (by simp)) hT htc h0)
  have KF := Lib.hid (fun w' k (C : Chg [] w w') => hF w' k C)
  have KR := Lib.hid (fun (i : Nat) (hi : i < cntN N) (po : Option Addr) (pc : Nat) (xs : List UInt8) w' (C : Chg [] w w') (h1 : Src w' po (bvs xs)) (h2 : xs.length ≤ 1000000) (h3 : po = none → pc = 0) => rf_right RC r ao c N g i hi po pc xs w' (H.chg0 C) h1 h2 h3)
  have HLD := Lib.hid (fun (k : Nat) (hk : k < cntN N) (w' : World) (C : Chg [] w w') => show ∃ a fk, ao = some a ∧ r.dig k = fk ∧ (Instr.loadAt 32 (.pointer (some (a.add (k * 32))))).run Tryd.prog w' = .ok (.agg (hashC fk)) w' from by
    obtain ⟨fk, hfk⟩ : ∃ fk, r.L[k]? = some fk := ⟨_, List.getElem?_eq_getElem (by rw [g.len]; exact hk)⟩
    have hsrc := H.src
    obtain ⟨a, rfl, _⟩ := hsrc.lt (by
      have h1 := (List.getElem?_eq_some_iff.1 hfk).1
      rw [hvs_length]
      omega)
    exact ⟨a, fk, rfl, by unfold RecV.dig; rw [List.getD, hfk]; rfl, load_blk (hsrc.chg C (by simp)) hfk⟩)
  have HGOT := Lib.hid (fun (k : Nat) (g : GotV) (h : G[k]? = some g) (wr : World) (C : Chg [] w wr) => show ∃ a, go = some a ∧ wr.cell? (a.add (k * 2)) = some (.int .i64 g.block) ∧ wr.cell? ⟨(a.add (k * 2)).block, (a.add (k * 2)).off + 1, none⟩ = some (.slice g.ao g.xs.length g.cap) ∧ PV w [] (.slice g.ao g.xs.length g.cap) g.xs from by
    have h1 := (List.getElem?_eq_some_iff.1 h).1
    obtain ⟨a, ha, _⟩ := hG.src.lt (by rw [gvs_len]; omega)
    subst ha
    have hc := src_flat (w := wr) (a := a) (cells := fun s : GotV => s.cells.toList) (size := 2) (fun _ => rfl) ((hG.src.chg C (by simp)).cell a rfl) h
    exact ⟨a, rfl, hc 0 (.int .i64 g.block) rfl, hc 1 (.slice g.ao g.xs.length g.cap) rfl, hG.at_ k g h⟩)
  have HGG := Lib.hid (fun k (hk : k < G.length) => show ∃ s, G[k]? = some s from ⟨_, List.getElem?_eq_getElem hk⟩)
  have HGC := Lib.hid (show G.length ≤ gc ∧ G.length ≤ 1000000 from ⟨hG.cap, hG6⟩)
  obtain ⟨n, hn⟩ : ∃ n, cntN N = n := ⟨_, rfl⟩
  have hn32 : n ≤ 32 := by rw [← hn]; exact cntN_le N
  have hbl := H.bl
  rw [g.len, hn] at hbl
  rw [hn] at KP KR HLD
  have hnc : n ≤ c := by have := H.cap; rw [g.len, hn] at this; exact this
  have HBL := Lib.hid hbl
  have HRS := Lib.hid H.size
  have HFO := Lib.hid hfo
  have HP128 := Lib.hid (fun i => plT_128 N T i)
  have HSH := Lib.hid (partsV_short (r := r) (N := N) (T := T) hfo hGx l)
  have HPS : Hid (∀ (k : Nat) (s : StepV), l[k]? = some s → partsV r N T fo G l (k + 1) = partsV r N T fo G l k ++ [partV r N T fo G (partsV r N T fo G l k) k s]) := Lib.hid (fun k s hs => by rw [partsV, List.getD, hs]; rfl)
  have HPL := Lib.hid (partsV_len r N T fo G l)
  have HP0 : Hid (partsV r N T fo G l 0 = []) := Lib.hid rfl
  have HPV : Hid (∀ ps i s, partV r N T fo G ps i s = if s.from_ = 1 then plT N T i else if s.from_ = 2 then fX (fo (hkey (r.dig i))) else if s.from_ = 3 then ps.getD s.same.toNat [] else match gotIx G i with | some k => (G.getD k ⟨0, none, [], 0⟩).xs | none => []) := Lib.hid (fun ps i s => rfl)
  have HBV : Hid (mayB l n = false → buildV r N T fo G l = ⟨[], [], 2⟩) := Lib.hid (fun h => by unfold buildV; rw [if_neg (by rw [g.want]; simp), hn, if_pos h])
  have HBB : Hid (mayB l n = true → badV r (partsV r N T fo G l n) ≠ [] → buildV r N T fo G l = ⟨[], badV r (partsV r N T fo G l n), 14⟩) := Lib.hid (fun h h2 => by unfold buildV; rw [if_neg (by rw [g.want]; simp), hn, if_neg (by rw [h]; decide), (mayB_true h).1, if_pos h2])
  have HBO : Hid (mayB l n = true → badV r (partsV r N T fo G l n) = [] → buildV r N T fo G l = ⟨(partsV r N T fo G l n).flatten, [], 0⟩) := Lib.hid (fun h h2 => by unfold buildV; rw [if_neg (by rw [g.want]; simp), hn, if_neg (by rw [h]; decide), (mayB_true h).1, if_neg (fun h3 => h3 h2)])
  obtain ⟨tn, htn⟩ : ∃ tn, T.length = tn := ⟨_, rfl⟩
  obtain ⟨ln, hln⟩ : ∃ ln, l.length = ln := ⟨_, rfl⟩
  obtain ⟨gn, hgn⟩ : ∃ gn, G.length = gn := ⟨_, rfl⟩
  have HLNN := Lib.hid hln
  have HGNN := Lib.hid hgn
  rw [hln] at HGE hlc hl6
  rw [hgn] at HGG HGC
  rw [htn] at KP
  rw [hln, hgn, htn]
  generalize partsV r N T fo G l = PS at *
  generalize buildV r N T fo G l = BU at *
  clear H hF hfo hs hT htc h0 hn hbl htn hgn hl hG hG6 hGx hln
  go_enter Tryd.func84, Tryd.ntmps84
  go_upto_region 1 with (fail)
  obtain ⟨q, hq⟩ : ∃ q, w.heap.size = q := ⟨_, rfl⟩
  rw [hq] at hx0 ⊢
  generalize w.alloc (.cells RC 77) = w1 at *
  have HC0 := Lib.hid C0
  have HX0 := Lib.hid hx0
  have HLDR := Lib.hid (fun (w' : World) (C : Chg [] w1 w') => run_loadAt_rec w' q RC _ ((C.block q (lt_of_block hx0) (by simp)).trans hx0) HRS.out)
  have hldr := HLDR.out w1 (Chg.refl _ _)
  clear hq hx0 C0
  go_wp2_with (refine wpList_load_y 77 (.tmp 5) rfl (by go_simp) (.pointer (some ⟨q, 0, none⟩)) (.agg RC) hldr rfl ?_)
  refine (KW.out _ HC0.out).mono ?_
  rintro e w2 ⟨rfl, C2⟩
  have HC2 := Lib.hid C2
  have c23 : w2.cell? ⟨q, 23, none⟩ = some (.slice ao n c) := by rw [cell_of_row _ _ _ _ _ _ ((C2.block q (lt_of_block HX0.out) (by simp)).trans HX0.out)]; exact HBL.out
  clear C2 hldr
  by_cases hnl : ln = n
  · subst hnl
    go_wp2_with fail
    go_loopw [17] (fun v17 wr => ∃ k : Nat, v17 = .int .i64 (k : Int) ∧ k ≤ ln ∧ Hid (∀ t s, t < k → l[t]? = some s → badS t s = false) ∧ Hid (Chg [] w1 wr)) (fun v _ => ln - (intOf v).toNat)
    case atStart => exact ⟨0, rfl, Nat.zero_le _, Lib.hid (fun t s ht => by omega), HC2⟩
    case round =>
      clear c23 HC2
      obtain ⟨k, rfl, hk, HB, HC⟩ := hrel
      by_cases hlt : k < ln
      · have e1 : (k : Int) < ln := Int.ofNat_lt.2 hlt
        have e0 : (0 : Int) ≤ k := Int.natCast_nonneg _
        have hkc : k < sc := by omega
        obtain ⟨s, hsk⟩ := HGE.out k hlt
        obtain ⟨a, rfl, c0, c1, c4⟩ := HST.out k s hsk wr (HC0.out.trans HC.out (by simp))
        obtain ⟨s1, s2, s3, s4, s5⟩ := s
        have HSK := Lib.hid hsk
        have HC4 := Lib.hid (HC0.out.trans HC.out (by simp))
        simp only at c0 c1 c4
        clear hsk
        by_cases h1 : s1 = (k : Int)
        · by_cases h2 : s2 < 1
          · have HBD : Hid (badS k ⟨s1, s2, s3, s4, s5⟩ = true) := Lib.hid (by unfold badS; simp only []; rw [decide_eq_true_iff]; omega)
            have HR : Hid (mayB l ln = false) := Lib.hid (mayB_bad HSK.out HBD.out)
            clear HB
            go_wp2_with fail
            go_ret3
            rw [HBV.out HR.out]
            exact BuiltTo.none _ _ _ HC4.out
          · by_cases h3 : 4 < s2
            · have HBD : Hid (badS k ⟨s1, s2, s3, s4, s5⟩ = true) := Lib.hid (by unfold badS; simp only []; rw [decide_eq_true_iff]; omega)
              have HR : Hid (mayB l ln = false) := Lib.hid (mayB_bad HSK.out HBD.out)
              clear HB
              go_wp2_with fail
              go_ret3
              rw [HBV.out HR.out]
              exact BuiltTo.none _ _ _ HC4.out
            · by_cases h4 : s2 = 3
              · by_cases h5 : s5 < 0
                · have HBD : Hid (badS k ⟨s1, s2, s3, s4, s5⟩ = true) := Lib.hid (by unfold badS; simp only []; rw [decide_eq_true_iff]; omega)
                  have HR : Hid (mayB l ln = false) := Lib.hid (mayB_bad HSK.out HBD.out)
                  clear HB
                  go_wp2_with fail
                  go_ret3
                  rw [HBV.out HR.out]
                  exact BuiltTo.none _ _ _ HC4.out
                · by_cases h6 : (k : Int) ≤ s5
                  · have HBD : Hid (badS k ⟨s1, s2, s3, s4, s5⟩ = true) := Lib.hid (by unfold badS; simp only []; rw [decide_eq_true_iff]; omega)
                    have HR : Hid (mayB l ln = false) := Lib.hid (mayB_bad HSK.out HBD.out)
                    clear HB
                    go_wp2_with fail
                    go_ret3
                    rw [HBV.out HR.out]
                    exact BuiltTo.none _ _ _ HC4.out
                  · have HBD : Hid (badS k ⟨s1, s2, s3, s4, s5⟩ = false) := Lib.hid (by unfold badS; simp only []; rw [decide_eq_false_iff_not]; omega)
                    have HB2 : Hid (∀ t s, t < k + 1 → l[t]? = some s → badS t s = false) := Lib.hid (fun t s ht hs => by
                      rcases Nat.lt_succ_iff_lt_or_eq.1 ht with h | h
                      · exact HB.out t s h hs
                      · subst h
                        rw [HSK.out] at hs
                        cases hs
                        exact HBD.out)
                    clear HB
                    go_wp2_with fail
                    go_roundw
                    case rel => exact ⟨k + 1, by go_num, hlt, HB2, HC⟩
                    case measure => simp [intOf] <;> omega
              · have HBD : Hid (badS k ⟨s1, s2, s3, s4, s5⟩ = false) := Lib.hid (by unfold badS; simp only []; rw [decide_eq_false_iff_not]; omega)
                have HB2 : Hid (∀ t s, t < k + 1 → l[t]? = some s → badS t s = false) := Lib.hid (fun t s ht hs => by
                  rcases Nat.lt_succ_iff_lt_or_eq.1 ht with h | h
                  · exact HB.out t s h hs
                  · subst h
                    rw [HSK.out] at hs
                    cases hs
                    exact HBD.out)
                clear HB
                go_wp2_with fail
                go_roundw
                case rel => exact ⟨k + 1, by go_num, hlt, HB2, HC⟩
                case measure => simp [intOf] <;> omega
        · have HBD : Hid (badS k ⟨s1, s2, s3, s4, s5⟩ = true) := Lib.hid (by unfold badS; simp only []; rw [decide_eq_true_iff]; omega)
          have HR : Hid (mayB l ln = false) := Lib.hid (mayB_bad HSK.out HBD.out)
          clear HB
          go_wp2_with fail
          go_ret3
          rw [HBV.out HR.out]
          exact BuiltTo.none _ _ _ HC4.out
      · have e1 : ¬ (k : Int) < ln := fun h => hlt (Int.ofNat_lt.1 h)
        have HMB : Hid (mayB l ln = true) := Lib.hid (by
          have hk2 : k = ln := by omega
          rw [mayB_all (fun t s ht hs => HB.out t s (by rw [HLNN.out] at ht; omega) hs), HLNN.out, decide_eq_true rfl])
        clear HB
        have HR0 : Hid (RSt w1 wr (PS 0) (PS 0).flatten (badV r (PS 0)) (.slice none 0 0) (.slice none 0 0) (.slice none 0 0)) := Lib.hid (by
          rw [HP0.out]
          exact (RSt.start w1).keep HC.out)
        have HO0 : Hid (0 = (PS 0).flatten.length) := Lib.hid (by rw [HP0.out]; rfl)
        have HN0 : Hid (0 = (badV r (PS 0)).length) := Lib.hid (by rw [HP0.out]; rfl)
        clear HC
        go_wp2_with fail
        go_loopw [14, 15, 16, 18] (fun v14 v15 v16 v18 wr => ∃ (k ol nl pc oc nc : Nat) (po oo no : Option Addr), v14 = .slice po k pc ∧ v15 = .slice oo ol oc ∧ v16 = .slice no nl nc ∧ v18 = .int .i64 (k : Int) ∧ k ≤ ln ∧ Hid (ol = (PS k).flatten.length) ∧ Hid (nl = (badV r (PS k)).length) ∧ Hid (RSt w1 wr (PS k) (PS k).flatten (badV r (PS k)) (.slice po k pc) (.slice oo ol oc) (.slice no nl nc))) (fun _ _ _ v _ => ln - (intOf v).toNat)
        case atStart => exact ⟨0, 0, 0, 0, 0, 0, none, none, none, rfl, rfl, rfl, rfl, Nat.zero_le _, HO0, HN0, HR0⟩
        case round =>
          clear HR0 HO0 HN0 e1 hlt
          obtain ⟨k, ol, nl, pc, oc, nc, po, oo, no, rfl, rfl, rfl, rfl, hk, HOL, HNL, HB⟩ := hrel
          by_cases hlt : k < ln
          · have e1 : (k : Int) < ln := Int.ofNat_lt.2 hlt
            have e0 : (0 : Int) ≤ k := Int.natCast_nonneg _
            have hkc : k < sc := by omega
            have hkcc : k < c := by omega
            obtain ⟨s, hsk⟩ := HGE.out k hlt
            have HCL : Hid (Chg [] w1 wr) := Lib.hid HB.out.C
            have HCW : Hid (Chg [] w wr) := Lib.hid (HC0.out.trans HB.out.C (by simp))
            obtain ⟨a, rfl, _, c1, c4⟩ := HST.out k s hsk wr HCW.out
            have HSS := Lib.hid (HPS.out k s hsk)
            have HPX' := Lib.hid (HPV.out (PS k) k s)
            have HPLK := Lib.hid (HPL.out k)
            obtain ⟨hs1, hs2, hs3, hs4⟩ := badS_no ((mayB_true HMB.out).2 k s hsk)
            generalize partV r N T fo G (PS k) k s = X at *
            obtain ⟨s1, s2, s3, s4, s5⟩ := s
            have HS4 : Hid (s2 = 3 → 0 ≤ s5 ∧ s5 < (k : Int)) := Lib.hid hs4
            have HSX : Hid (X = if s2 = 1 then plT N T k else if s2 = 2 then fX (fo (hkey (r.dig k))) else if s2 = 3 then (PS k).getD s5.toNat [] else match gotIx G k with | some k => (G.getD k ⟨0, none, [], 0⟩).xs | none => []) := HPX'
            simp only at c1 c4 hs1 hs2 hs3
            have HPC : Hid (k ≤ pc) := Lib.hid (by
              obtain ⟨vs, h1, _⟩ := HB.out.row
              obtain ⟨_, _, hv, hc, _⟩ := ownsRow_slice h1
              simp only [Value.slice.injEq] at hv
              rw [HPLK.out] at hc
              omega)
            have HXS : Hid (X.length ≤ 1000000) := Lib.hid ((HSH.out (k + 1)).1 X (by rw [HSS.out]; exact List.mem_append_right _ List.mem_cons_self))
            obtain ⟨xn, hxn⟩ : ∃ xn, X.length = xn := ⟨_, rfl⟩
            have HXN := Lib.hid hxn
            clear hsk hs4 HPX' hs1 hxn
            go_upto_region 18 with (fail)
            go_cut [96] (fun v w' => v = .int .i64 s2 ∧ wr = w')
            case first =>
              go_wp2_with fail
              all_goals go_meet
              case rel => exact ⟨rfl, rfl⟩
            case rest =>
            rename_i hK0
            obtain ⟨rfl, rfl⟩ := hcut
            refine hK0 _ _ ?_
            clear hK0 c1
            go_cut [19] (fun v w' => ∃ (xo : Option Addr) (xc : Nat), v = .slice xo xn xc ∧ Hid (PV w' (forbR (.slice po k pc) (.slice oo ol oc) (.slice no nl nc)) (.slice xo xn xc) X) ∧ Hid (Chg [] wr w'))
            case first =>
              by_cases g1 : s2 = 1
              · subst g1
                have HPX0 : Hid (X = plT N T k) := Lib.hid (by rw [HSX.out]; rfl)
                clear HSX
                have hldr := HLDR.out wr (HCL.out)
                go_wp2_with (refine wpList_load_y 77 (.tmp 5) rfl (by go_simp) (.pointer (some ⟨q, 0, none⟩)) (.agg RC) hldr rfl ?_)
                refine (KP.out k hlt wr HCW.out).mono ?_
                rintro e w5 ⟨xo, xc, rfl, hop, hnp, C5⟩
                have HXE : Hid ((plT N T k).length = xn) := Lib.hid (by rw [← HPX0.out]; exact HXN.out)
                have HPX := Lib.hid (show PV w5 (forbR (.slice po k pc) (.slice oo ol oc) (.slice no nl nc)) (.slice xo xn xc) X from by
                  have := PV.own (X := forbR (.slice po k pc) (.slice oo ol oc) (.slice no nl nc)) hop (fun j hj hm => by
                    have h1 := hnp j hj
                    have h2 := (forbR_lt HB.out j hm).1
                    omega)
                  rw [HXE.out, ← HPX0.out] at this
                  exact this)
                have HCX := Lib.hid C5
                rw [HXE.out]
                clear hop hnp C5 hldr
                go_wp2_with fail
                all_goals go_meet
                case rel => exact ⟨_, _, rfl, HPX, HCX⟩
              · by_cases g2 : s2 = 2
                · subst g2
                  have HPX0 : Hid (X = fX (fo (hkey (r.dig k)))) := Lib.hid (by rw [HSX.out]; rfl)
                  clear HSX
                  obtain ⟨ab, fk, rfl, hdg, hlk⟩ := HLD.out k hlt wr HCW.out
                  obtain ⟨Rk, hRk⟩ : ∃ Rk, hashC fk = Rk := ⟨_, rfl⟩
                  rw [hRk] at hlk
                  have KFk := Lib.hid (by
                    have := KF.out wr (hkey (r.dig k)) HCW.out
                    rewrite [hdg, hkV_hkey, hashV, hRk, ← hdg] at this
                    exact this)
                  have c23 : wr.cell? ⟨q, 23, none⟩ = some (.slice (some ab) ln c) := by rw [cell_of_row _ _ _ _ _ _ ((HCL.out.block q (lt_of_block HX0.out) (by simp)).trans HX0.out)]; exact HBL.out
                  clear hdg hRk
                  go_wp2_with (refine wpList_load_y 32 (.tmp 110) rfl (by go_simp) (.pointer (some (ab.add (k * 32)))) (.agg Rk) hlk rfl ?_)
                  refine KFk.out.mono ?_
                  rintro e w5 hfd
                  obtain ⟨C5, xo, xc, rfl, hop, hnp⟩ := foundR_any hfd
                  rw [← HPX0.out] at hop hnp ⊢
                  have HPX := Lib.hid (show PV w5 (forbR (.slice po k pc) (.slice oo ol oc) (.slice no nl nc)) (.slice xo xn xc) X from by
                    have := PV.own (X := forbR (.slice po k pc) (.slice oo ol oc) (.slice no nl nc)) hop (fun j hj hm => by
                      have h1 := hnp j hj
                      have h2 := (forbR_lt HB.out j hm).1
                      omega)
                    rw [HXN.out] at this
                    exact this)
                  have HCX := Lib.hid C5
                  rw [HXN.out]
                  generalize fM (fo (hkey (r.dig k))) = mm at *
                  generalize (fo (hkey (r.dig k))).isSome = oks at *
                  clear hop hnp C5 hfd hlk c23 KFk
                  go_wp2_with fail
                  all_goals go_meet
                  case rel => exact ⟨_, _, rfl, HPX, HCX⟩
                · by_cases g3 : s2 = 3
                  · subst g3
                    have HPX0 : Hid (X = (PS k).getD s5.toNat []) := Lib.hid (by rw [HSX.out]; rfl)
                    clear HSX
                    obtain ⟨g5, g6⟩ := HS4.out rfl
                    obtain ⟨kk, rfl⟩ := Int.eq_ofNat_of_zero_le g5
                    have g7 : kk < k := by omega
                    have e5 : (kk : Int) < k := by omega
                    have e6 : (0 : Int) ≤ (kk : Int) := g5
                    have hXK : (PS k)[kk]? = some X := by
                      have h1 : kk < (PS k).length := by rw [HPLK.out]; exact g7
                      have h2 := HPX0.out
                      rw [Int.toNat_natCast, List.getD, List.getElem?_eq_getElem h1] at h2
                      rw [List.getElem?_eq_getElem h1, h2]
                      rfl
                    obtain ⟨pa, pv, rfl, hpc, hpv⟩ := HB.out.cell hXK
                    have hpv' := hpv
                    obtain ⟨xo, xc, rfl, _, _⟩ := hpv'.short
                    rw [HXN.out] at hpc hpv
                    have HPX := Lib.hid hpv
                    have HCX := Lib.hid (Chg.refl [] wr)
                    have hkc2 : kk < pc := by have := HPC.out; omega
                    clear hpv hpv' hXK g5 g6
                    go_wp2_with fail
                    all_goals go_meet
                    case rel => exact ⟨_, _, rfl, HPX, HCX⟩
                  · have g4 : s2 = 4 := by omega
                    subst g4
                    have HPX0 : Hid (X = match gotIx G k with | some k => (G.getD k ⟨0, none, [], 0⟩).xs | none => []) := Lib.hid (by rw [HSX.out]; rfl)
                    clear HSX
                    have hgl := HGC.out
                    have hgw : wrap64 ((gn : Int) - 1) = (gn : Int) - 1 := by unfold wrap64; omega
                    have HTOP : Hid (∃ (j : Nat) (ot : Option Nat), (gn : Int) - 1 = (j : Int) - 1 ∧ j ≤ gn ∧ IsFrom G k j ot ∧ Value.slice none 0 0 = gotVal G ot) := Lib.hid ⟨gn, none, rfl, Nat.le_refl _, fun t g ht hg => by
                      have := (List.getElem?_eq_some_iff.1 hg).1
                      rw [HGNN.out] at this
                      omega, rfl⟩
                    clear hgl
                    go_wp2_with fail
                    go_loopw [19, 20] (fun v19 v20 wl => ∃ z : Int, v20 = .int .i64 z ∧ wr = wl ∧ Hid (∃ (j : Nat) (ot : Option Nat), z = (j : Int) - 1 ∧ j ≤ gn ∧ IsFrom G k j ot ∧ v19 = gotVal G ot)) (fun _ v _ => (intOf v + 1).toNat)
                    case atStart => exact ⟨_, rfl, rfl, HTOP⟩
                    case round =>
                      clear hgw HTOP
                      obtain ⟨z, rfl, rfl, HJ⟩ := hrel
                      obtain ⟨jj, ot, hz, hjg, hfr, hv⟩ := HJ.out
                      clear HJ
                      subst hz hv
                      cases jj with
                      | zero =>
                        have hot : ot = gotIx G k := isFrom_zero hfr
                        have HPX : Hid (PV wr (forbR (.slice po k pc) (.slice oo ol oc) (.slice no nl nc)) (gotVal G ot) X) := Lib.hid (by
                          have h := HPX0.out
                          rw [← hot] at h
                          cases ot with
                          | none =>
                            subst h
                            exact PV.nil _ _
                          | some t =>
                            obtain ⟨gg, hgg, _⟩ := gotIx_lt hot.symm
                            have h : X = (G.getD t ⟨0, none, [], 0⟩).xs := h
                            rw [List.getD, hgg] at h
                            obtain ⟨_, _, _, _, hp⟩ := HGOT.out t gg hgg wr HCW.out
                            have hx : X = gg.xs := h
                            rw [hx]
                            show PV _ _ (match G[t]? with | some g => .slice g.ao g.xs.length g.cap | none => .slice none 0 0) _
                            rw [hgg]
                            exact (hp.grow (fun j hj => .inr (Nat.le_trans HC0.out.size (forbR_lt HB.out j hj).2))).chg HCW.out (by simp))
                        obtain ⟨xo, xc, hxe, _, _⟩ := HPX.out.short
                        rw [HXN.out] at hxe
                        rw [hxe] at HPX ⊢
                        have HCX := Lib.hid (Chg.refl [] wr)
                        have hz1 : ((0 : Nat) : Int) - 1 = -1 := rfl
                        rw [hz1]
                        clear hz1 hxe hot hfr hjg
                        go_wp2_with fail
                        all_goals go_meet
                        case rel => exact ⟨_, _, rfl, HPX, HCX⟩
                      | succ j =>
                        have hz1 : ((j + 1 : Nat) : Int) - 1 = (j : Int) := by omega
                        have hz2 : wrap64 ((j : Int) - 1) = (j : Int) - 1 := by unfold wrap64; have := HGC.out; omega
                        rw [hz1]
                        have hjg2 : j < gn := by omega
                        have e5 : (j : Int) < gn := by omega
                        have e6 : (0 : Int) ≤ j := Int.natCast_nonneg _
                        have hjc : j < gc := by have := HGC.out; omega
                        obtain ⟨gg, hgg⟩ := HGG.out j hjg2
                        obtain ⟨ga, rfl, d0, d1, _⟩ := HGOT.out j gg hgg wr HCW.out
                        obtain ⟨gb, hgb⟩ : ∃ gb, gg.block = gb := ⟨_, rfl⟩
                        rw [hgb] at d0
                        by_cases hb : gb = (k : Int)
                        · have HFR : Hid (IsFrom G k j (some j) ∧ Value.slice gg.ao gg.xs.length gg.cap = gotVal G (some j)) := Lib.hid ⟨⟨Nat.le_refl _, gg, hgg, by rw [hgb, hb], fun t x h1 h2 => by omega⟩, by
                            show _ = (match G[j]? with | some g => Value.slice g.ao g.xs.length g.cap | none => .slice none 0 0)
                            rw [hgg]⟩
                          have HJG := Lib.hid (Nat.le_of_lt hjg2)
                          subst hb
                          generalize gotVal G ot = v19 at *
                          clear hfr hjg hgb hz1
                          go_wp2_with fail
                          go_roundw
                          case rel => exact ⟨_, by first | rfl | trivial, by first | rfl | trivial, Lib.hid ⟨j, some j, by first | rfl | exact hz2, HJG.out, HFR.out.1, HFR.out.2⟩⟩
                          case measure => simp [intOf] <;> omega
                        · have HFR : Hid (IsFrom G k j ot) := Lib.hid (isFrom_miss hfr hgg (by rw [hgb]; exact hb))
                          have HJG := Lib.hid (Nat.le_of_lt hjg2)
                          have hb3 : (gb == (k : Int)) = false := by simpa using hb
                          obtain ⟨v19, hv19⟩ : ∃ v, gotVal G ot = v := ⟨_, rfl⟩
                          have HV19 := Lib.hid hv19
                          rw [hv19]
                          clear hfr hjg hgb hz1 hv19 hb
                          go_wp2_with fail
                          go_roundw
                          case rel => exact ⟨_, by first | rfl | trivial, by first | rfl | trivial, Lib.hid ⟨j, ot, by first | rfl | exact hz2, HJG.out, HFR.out, HV19.out.symm⟩⟩
                          case measure => simp [intOf] <;> omega
            case rest =>
            obtain ⟨xo, xc, rfl, HPX, HCX⟩ := hcut
            obtain ⟨vs, hrow, hvs⟩ := HB.out.row
            obtain ⟨i0, hi0, hz0, hz1, hz2⟩ := info_parts infoBytesU
            have CB := Chg.alloc [] wc (.cells #[.slice xo xn xc] 25)
            have CW := HCX.out.trans CB (by simp)
            have HROW := Lib.hid (ownsRow_chg hrow CW (by simp))
            have hown := HROW.out
            rw [HPLK.out] at hown
            have HBD := Lib.hid (HB.out.keep CW)
            have HVS := Lib.hid (fun (j : Nat) (x : List UInt8) (hx : (PS k)[j]? = some x) => by
              obtain ⟨pv, e, hp⟩ := hvs j x hx
              exact (⟨pv, e, hp.chg CW (by simp)⟩ : ∃ pv, vs[j]? = some pv ∧ PV (wc.alloc (.cells #[.slice xo xn xc] 25)) (forbR (.slice po k pc) (.slice oo ol oc) (.slice no nl nc)) pv x))
            have HPD := Lib.hid (HPX.out.chg CB (by simp))
            have hsrc := src_row wc #[.slice xo xn xc] 25 (0, 0)
            have HAB : Hid (k + 1 ≤ maxLen ∧ (k + 1) * 24 ≤ 140737488355328) := Lib.hid (by unfold maxLen; omega)
            have hsz1 : (wc.alloc (.cells #[.slice xo xn xc] 25)).heap.size = wc.heap.size + 1 := by simp
            have HCL1 := Lib.hid (HCL.out.trans CW (by simp))
            clear hrow hvs CB CW HPX HCX HB HCW HCL c4
            go_wp2_with (at_builtin; refine wpList_append_y (.tmp 148) (.tmp 150) 106 rfl rfl 25 i0 _ 1 24 Tryd.underlying106 hi0 hz0 hz1 hz2 rfl (by decide) (.slice po k pc) k vs hown (some ⟨wc.heap.size, 0, none⟩) 1 1 [.slice xo xn xc] rfl hsrc (fun h => by cases h) (by simp [Value.oneCell']) HAB.out.1 HAB.out.2 rfl rfl ?_)
            intro ao2 c3 w5 hown5 hgr hblk
            rw [← hsz1] at hblk
            have HB5 : Hid (RSt w1 w5 (PS (k + 1)) (PS k).flatten (badV r (PS k)) (.slice ao2 (k + 1) c3) (.slice oo ol oc) (.slice no nl nc)) := Lib.hid (by
              have := HBD.out.part_to HPD.out HVS.out HROW.out (m := k + 1) (c := c3) (ao := ao2) (by rw [List.length_append, HPLK.out]; rfl) hown5 hgr hblk
              rw [HSS.out]
              exact this)
            have HP5 := Lib.hid (RSt.part_pv HPD.out hgr hblk)
            have hldr := HLDR.out w5 HB5.out.C
            have HXP : Hid (Src w5 xo (bvs X) ∧ (xo = none → xc = 0) ∧ xn ≤ xc) := Lib.hid (by
              obtain ⟨_, _, e, h1, h2, h3, _⟩ := HP5.out
              cases e
              first | exact ⟨h1, h3, by rw [← HXN.out]; exact h2⟩ | exact ⟨h1, h2, by rw [← HXN.out]; exact h3⟩)
            have KRk := Lib.hid (by
              have := KR.out k hlt xo xc X w5 (HC0.out.trans HB5.out.C (by simp)) HXP.out.1 HXS.out HXP.out.2.1
              rw [HXN.out] at this
              exact this)
            obtain ⟨RB, hRB⟩ : ∃ RB, rightB r k X = RB := ⟨_, rfl⟩
            rw [hRB] at KRk
            have HXF : Hid ((PS (k + 1)).flatten = (PS k).flatten ++ X) := Lib.hid (by rw [HSS.out, List.flatten_append, List.flatten_cons, List.flatten_nil, List.append_nil])
            have HBN : Hid (badV r (PS (k + 1)) = badV r (PS k) ++ if RB = true then [] else [(k : Int)]) := Lib.hid (by rw [HSS.out, badV_next, HPLK.out, hRB])
            have HXB : Hid (ol + xn ≤ 32000000) := Lib.hid (by
              have h1 := (HSH.out (k + 1)).2
              rw [HXF.out, List.length_append, ← HOL.out, HXN.out] at h1
              have : (k + 1) * 1000000 ≤ 32 * 1000000 := Nat.mul_le_mul_right _ (by omega)
              omega)
            have HNB : Hid (nl ≤ 32) := Lib.hid (by
              have h1 := badV_len r (PS k)
              rw [HPLK.out, ← HNL.out] at h1
              omega)
            clear hRB hown5 hgr hblk hown hsrc hsz1 HBD HVS HPD HROW HAB hi0 hz0 hz1 hz2
            go_wp2_with (refine wpList_load_y 77 (.tmp 5) rfl (by go_simp) (.pointer (some ⟨q, 0, none⟩)) (.agg RC) hldr rfl ?_)
            refine KRk.out.mono ?_
            rintro e w6 ⟨rfl, C6⟩
            have HB6 := Lib.hid (HB5.out.keep C6)
            have HX6 := Lib.hid (HXP.out.1.chg C6 (by simp))
            have HP6 := Lib.hid (HP5.out.chg C6 (by simp))
            clear C6 hldr HB5 HP5 KRk
            go_upto_if 156 with (fail)
            go_cut [16] (fun v w' => ∃ (nl2 nc2 : Nat) (no2 : Option Addr), v = .slice no2 nl2 nc2 ∧ Hid (nl2 = (badV r (PS (k + 1))).length) ∧ Hid (RSt w1 w' (PS (k + 1)) (PS k).flatten (badV r (PS (k + 1))) (.slice ao2 (k + 1) c3) (.slice oo ol oc) (.slice no2 nl2 nc2)) ∧ Hid (Src w' xo (bvs X)))
            case first =>
              cases RB with
              | true =>
                go_wp2_with fail
                all_goals go_meet
                case rel => exact ⟨_, _, _, rfl, by rw [HBN.out]; simpa using HNL, by rw [HBN.out]; simpa using HB6, HX6⟩
              | false =>
                obtain ⟨i0, hi0, hz0, hz1, hz2⟩ := info_parts infoIntU
                have CB := Chg.alloc [] w6 (.cells #[.int .i64 (k : Int)] 3)
                have HBD := Lib.hid (HB6.out.keep CB)
                have hown : (w6.alloc (.cells #[.int .i64 (k : Int)] 3)).ownsRow 0 3 1 (.slice no nl nc) nl (nvs (badV r (PS k))) := by
                  have := HBD.out.bad
                  rw [← HNL.out] at this
                  exact this
                have hsrc := src_row w6 #[.int .i64 (k : Int)] 3 (0, 0)
                have hab := HNB.out
                have HAB : Hid (nl + 1 ≤ maxLen ∧ (nl + 1) * 8 ≤ 140737488355328) := Lib.hid (by unfold maxLen; omega)
                clear hab
                go_wp2_with (at_builtin; refine wpList_append_y (.tmp 157) (.tmp 159) 63 rfl rfl 3 i0 _ 1 8 Tryd.underlying63 hi0 hz0 hz1 hz2 rfl (by decide) (.slice no nl nc) nl (nvs (badV r (PS k))) hown (some ⟨w6.heap.size, 0, none⟩) 1 1 [.int .i64 (k : Int)] rfl hsrc (fun h => by cases h) (by simp [Value.oneCell']) HAB.out.1 HAB.out.2 rfl rfl ?_)
                intro ao3 c4 wg hown5 hgr hblk
                have CG := Chg.grown hgr (S := (Value.slice no nl nc).ownBlock.toList) (fun b hb => .inl (by simp [hb]))
                have HNL2 : Hid (nl + 1 = (badV r (PS (k + 1))).length) := Lib.hid (by rw [HBN.out, List.length_append, ← HNL.out]; rfl)
                have HB9 : Hid (RSt w1 wg (PS (k + 1)) (PS k).flatten (badV r (PS (k + 1))) (.slice ao2 (k + 1) c3) (.slice oo ol oc) (.slice ao3 (nl + 1) c4)) := Lib.hid (by
                  have := HBD.out.bad_to (b := (k : Int)) (m := nl + 1) (c := c4) (ao := ao3) (by rw [List.length_append, ← HNL.out]; rfl) hown5 hgr (by rw [show (w6.alloc (.cells #[.int .i64 (k : Int)] 3)).heap.size = w6.heap.size + 1 by simp]; exact hblk)
                  rw [HBN.out]
                  exact this)
                have HSX9 : Hid (Src wg xo (bvs X)) := Lib.hid (by
                  have h := (HP6.out.chg CB (by simp)).chg CG (fun b hb => .inl (by simp only [forbR, List.mem_append]; exact .inr (.inr hb)))
                  obtain ⟨_, _, e, h1, _⟩ := h
                  cases e
                  exact h1)
                clear hown5 hgr hblk hown hsrc CB CG HAB hi0 hz0 hz1 hz2
                go_wp2_with fail
                all_goals go_meet
                case rel => exact ⟨_, _, _, rfl, HNL2, HB9, HSX9⟩
            case rest =>
            obtain ⟨nl2, nc2, no2, rfl, HNL2, HBR, HSXR⟩ := hcut
            obtain ⟨i0, hi0, hz0, hz1, hz2⟩ := info_parts infoByteU
            have hown : wc.ownsRow 0 5 1 (.slice oo ol oc) ol (bvs (PS k).flatten) := by
              have := HBR.out.out
              rw [← HOL.out] at this
              exact this
            have hab := HXB.out
            have HAB : Hid (ol + xn ≤ maxLen ∧ (ol + xn) * 1 ≤ 140737488355328) := Lib.hid (by unfold maxLen; omega)
            clear hab
            go_wp2_with (at_builtin; refine wpList_append_y (.tmp 161) (.tmp 162) 25 rfl rfl 5 i0 _ 1 1 Tryd.underlying25 hi0 hz0 hz1 hz2 rfl (by decide) (.slice oo ol oc) ol (bvs (PS k).flatten) hown xo xn xc (bvs X) (by rw [bvs_length, HXN.out, Nat.mul_one]) HSXR.out HXP.out.2.1 (bvs_one X) HAB.out.1 HAB.out.2 rfl rfl ?_)
            intro ao4 c5 wg hown5 hgr hblk
            have HOL2 : Hid (ol + xn = (PS (k + 1)).flatten.length) := Lib.hid (by rw [HXF.out, List.length_append, ← HOL.out, HXN.out])
            have HB9 : Hid (RSt w1 wg (PS (k + 1)) (PS (k + 1)).flatten (badV r (PS (k + 1))) (.slice ao2 (k + 1) c3) (.slice ao4 (ol + xn) c5) (.slice no2 nl2 nc2)) := Lib.hid (by
              have := HBR.out.out_to (x := X) (m := ol + xn) (c := c5) (ao := ao4) (by rw [List.length_append, ← HOL.out, HXN.out]) hown5 hgr hblk
              rw [HXF.out]
              exact this)
            clear hown5 hgr hblk hown HAB hi0 hz0 hz1 hz2
            go_wp2_with fail
            go_roundw
            case rel => exact ⟨k + 1, ol + xn, nl2, c3, c5, nc2, ao2, ao4, no2, rfl, rfl, rfl, by go_num, hlt, HOL2, HNL2, HB9⟩
            case measure => simp [intOf] <;> omega
          · have e1 : ¬ (k : Int) < ln := fun h => hlt (Int.ofNat_lt.1 h)
            have hkn : k = ln := by omega
            have HOF : Hid (ol = (PS ln).flatten.length) := Lib.hid (by rw [← hkn]; exact HOL.out)
            have HNF : Hid (nl = (badV r (PS ln)).length) := Lib.hid (by rw [← hkn]; exact HNL.out)
            have HBF : Hid (RSt w1 wr (PS ln) (PS ln).flatten (badV r (PS ln)) (.slice po k pc) (.slice oo ol oc) (.slice no nl nc)) := Lib.hid (by
              have := HB.out
              rw [hkn] at this
              rw [hkn]
              exact this)
            have HCF : Hid (Chg [] w wr ∧ ∀ j, w1.heap.size ≤ j → w.heap.size ≤ j) := Lib.hid ⟨HC0.out.trans HB.out.C (by simp), fun j hj => Nat.le_trans HC0.out.size hj⟩
            clear HOL HNL HB hkn
            by_cases hnl : nl = 0
            · have HE : Hid (badV r (PS ln) = []) := Lib.hid (List.eq_nil_of_length_eq_zero (by rw [← HNF.out]; exact hnl))
              subst hnl
              go_wp2_with fail
              go_ret3
              rw [HBO.out HMB.out HE.out]
              refine ⟨HCF.out.1, oo, oc, none, 0, by rw [← HOF.out]; rfl, ?_, ?_, World.ownsRow_nil _ _ _ _, (fun k hk => by cases hk)⟩
              · have := HBF.out.out
                rw [← HOF.out] at this ⊢
                exact this
              · exact fun k hk => HCF.out.2 _ (HBF.out.outN k (by rw [HOF.out]; exact hk))
            · have HE : Hid (badV r (PS ln) ≠ []) := Lib.hid (fun h => hnl (by rw [HNF.out, h]; rfl))
              have e5 : (0 : Int) < (nl : Int) := by omega
              clear hnl
              go_wp2_with fail
              go_ret3
              rw [HBB.out HMB.out HE.out]
              refine ⟨HCF.out.1, none, 0, no, nc, by rw [← HNF.out]; rfl, World.ownsRow_nil _ _ _ _, (fun k hk => by cases hk), ?_, ?_⟩
              · have := HBF.out.bad
                rw [← HNF.out] at this ⊢
                exact this
              · exact fun k hk => HCF.out.2 _ (HBF.out.badN k (by rw [HNF.out]; exact hk))
  · have h1 : ¬ (ln : Int) = (n : Int) := by omega
    have h2 : ((ln : Int) == (n : Int)) = false := by simp; omega
    have HR : Hid (mayB l n = false) := Lib.hid (by
      cases h : mayB l n with
      | false => rfl
      | true => exact absurd (HLNN.out.symm.trans (mayB_true h).1) hnl)
    go_wp2_with fail
    go_ret3
    rw [HBV.out HR.out]
    exact BuiltTo.none _ _ _ (HC0.out.trans HC2.out (by simp))
end Go.Proofs.YtfdhpjflkimihaaDoor
/- The law's built, walked. No conditions beyond those that each statement types. -/
namespace Go.Proofs.YtfdhpjflkimihaaDoor
open Go.RowKit

/-- A row whose cells may be written, one by one. -/
theorem rowIs_ownsx {w : World} {e : TypeId} {g n c size : Nat} {xs : List Value} {f : Nat → Value} (h : w.rowIs g e (c * size) f) (hx : ∀ i u, xs[i]? = some u → f i = u) (hn : n ≤ c) (hc : c ≤ maxLen) (hl : xs.length = n * size) :
    w.ownsRow 0 e size (.slice (some ⟨g, 0, none⟩) n c) n xs := by
  obtain ⟨cc, hb, hs, hv⟩ := h
  have hle : n * size ≤ c * size := Nat.mul_le_mul_right _ hn
  refine ⟨hl, .inr ⟨g, c, cc, rfl, Nat.zero_le _, hb, hn, hc, hs, ?_⟩⟩
  apply List.ext_getElem?
  intro y
  rw [List.getElem?_take]
  by_cases hy : y < n * size
  · rw [if_pos hy, Array.getElem?_toList, hv y (by omega)]
    obtain ⟨u, hu⟩ : ∃ u, xs[y]? = some u := ⟨_, List.getElem?_eq_getElem (by omega)⟩
    rw [hu, hx y u hu]
  · rw [if_neg hy, List.getElem?_eq_none (by omega)]
theorem ownsRow_setx {w : World} {e : TypeId} {g n c : Nat} {xs : List Value} (h : w.ownsRow 0 e 1 (.slice (some ⟨g, 0, none⟩) n c) n xs) {k : Nat} (u : Value) :
    (w.setCell ⟨g, k, none⟩ u).ownsRow 0 e 1 (.slice (some ⟨g, 0, none⟩) n c) n (xs.set k u) := by
  obtain ⟨f, hr, hf, hn, hc, hl⟩ := ownsRow_rowIs h
  have := rowIs_setCells [u] k w f hr
  refine rowIs_ownsx (f := _) this (fun i v hv => ?_) hn hc (by rw [List.length_set]; exact hl)
  rw [List.getElem?_set] at hv
  show (if _ then _ else _) = v
  split at hv
  · rename_i e
    subst e
    split at hv
    · cases hv
      rw [if_pos ⟨Nat.le_refl _, by simp⟩]
      simp
    · cases hv
  · rename_i e
    rw [if_neg (by simp; omega)]
    exact hf i v hv
theorem bvs_setx (l : List UInt8) (k : Nat) (x : UInt8) : (bvs l).set k (bv x) = bvs (l.set k x) := by
  unfold bvs
  rw [List.map_set]
theorem xor255x (x : UInt8) : bits .xor .u8 (x.toNat : Int) 255 = ((x ^^^ 255).toNat : Int) := by
  have h := u8_xor_nat x.toNat 255 (UInt8.toNat_lt x) (by decide)
  rw [show (x ^^^ 255).toNat = x.toNat ^^^ 255 from UInt8.toNat_xor x 255]
  exact h
/-- BuiltTo, in plain words. -/
def BuiltN (w : World) (X : List UInt8) (n : Nat) (E : List Int) (m : Nat) (R : Int) (e : Ending) (w' : World) : Prop :=
  Chg [] w w' ∧ ∃ bo bc no nc, e = .returned (.tuple #[.slice bo n bc, .slice no m nc, .int .i64 R]) ∧
    w'.ownsRow 0 5 1 (.slice bo n bc) n (bvs X) ∧ (∀ k, (Value.slice bo n bc).ownBlock = some k → w.heap.size ≤ k) ∧
    w'.ownsRow 0 3 1 (.slice no m nc) m (nvs E) ∧ (∀ k, (Value.slice no m nc).ownBlock = some k → w.heap.size ≤ k)
theorem BuiltTo.plain {w : World} {x : BuiltV} {e : Ending} {w' : World} (h : BuiltTo w x e w') {n m : Nat} (hn : x.out.length = n) (hm : x.bad.length = m) : BuiltN w x.out n x.bad m x.err e w' := by
  subst hn hm
  exact h
def GotsN (w : World) (G : List GotV) (n : Nat) (e : Ending) (w' : World) : Prop :=
  ∃ po pc, e = .returned (.slice po n pc) ∧ w'.ownsRow 0 172 2 (.slice po n pc) n (gvs G) ∧ (∀ k, (Value.slice po n pc).ownBlock = some k → w.heap.size ≤ k) ∧ Chg [] w w'
theorem GotsTo.plain {w : World} {G : List GotV} {e : Ending} {w' : World} (h : GotsTo w G e w') {n : Nat} (hn : G.length = n) : GotsN w G n e w' := by
  subst hn
  exact h
theorem own_cap {w : World} {B : Nat} {e : TypeId} {size : Nat} {ao : Option Addr} {n c : Nat} {xs : List Value} (h : w.ownsRow B e size (.slice ao n c) n xs) : n ≤ c := by
  obtain ⟨_, _, hv, h1, _⟩ := ownsRow_slice h
  cases hv
  exact h1
set_option maxRecDepth 100000 in
set_option maxHeartbeats 8000000 in
theorem law_built (RC : Array Value) (hRC : RC.size = 27) (l : List StepV) (so : Option Addr) (sc : Nat) (p p2 ta : Option Addr) (tn tc : Nat) (G : List GotV) (go : Option Addr) (gc : Nat) (BU : BuiltV) (w : World)
    (K1 : ∀ w', Chg [] w w' → Calls Tryd.prog 54 #[.agg RC, .slice so l.length sc, .pointer p, .slice ta tn tc, .slice go G.length gc] w' (BuiltTo w' BU))
    (K2 : ∀ (so2 : Option Addr) (sc2 : Nat) (go2 : Option Addr) (gc2 : Nat) w', Chg [] w w' → Src w' so2 (svs l) → l.length ≤ sc2 → GotsAt w' go2 gc2 G → Calls Tryd.prog 84 #[.agg RC, .slice so2 l.length sc2, .pointer p2, .slice ta tn tc, .slice go2 G.length gc2] w' (BuiltTo w' BU))
    (hB1 : BU.out.length ≤ 1000000000) (hB2 : BU.bad.length ≤ 1000000)
    (hl : Src w so (svs l)) (hlc : l.length ≤ sc) (hl6 : l.length ≤ 50) (hG : GotsAt w go gc G) (hG6 : G.length ≤ 50) :
    Calls Tryd.prog 51 #[.agg RC, .slice so l.length sc, .pointer p, .pointer p2, .slice ta tn tc, .slice go G.length gc] w (Holds w) := by
  have hx0 := heap_alloc_new w (.cells RC 77)
  have C0 := Chg.alloc [] w (.cells RC 77)
  obtain ⟨X, E, R⟩ := BU
  obtain ⟨n, hn⟩ : ∃ n, X.length = n := ⟨_, rfl⟩
  obtain ⟨m, hm⟩ : ∃ m, E.length = m := ⟨_, rfl⟩
  have HK1 := Lib.hid (fun w' (C : Chg [] w w') => (K1 w' C).mono (fun e w2 h => show BuiltN w' X n E m R e w2 from h.plain hn hm))
  have HK2 := Lib.hid (fun (so2 : Option Addr) (sc2 : Nat) (go2 : Option Addr) (gc2 : Nat) w' (C : Chg [] w w') (h1 : Src w' so2 (svs l)) (h2 : l.length ≤ sc2) (h3 : GotsAt w' go2 gc2 G) => (K2 so2 sc2 go2 gc2 w' C h1 h2 h3).mono (fun e w2 h => show BuiltN w' X n E m R e w2 from h.plain hn hm))
  obtain ⟨Gn, hGn⟩ : ∃ Gn, G.length = Gn := ⟨_, rfl⟩
  have K3 := Lib.hid (fun w' (C : Chg [] w w') => (law_gots G go gc w' (hG.chg C).src hG.cap (by omega)).mono (fun e w2 h => h.plain hGn))
  have K4 := Lib.hid (fun (k : Nat) (s : StepV) (h : l[k]? = some s) => lw_step s)
  have K5 := Lib.hid (fun (ao : Option Addr) (ac : Nat) (bo : Option Addr) (bc : Nat) w' (h1 : Src w' ao (nvs E)) (h2 : Src w' bo (nvs E)) (h3 : m ≤ ac) (h4 : m ≤ bc) => show Calls Tryd.prog 49 #[.slice ao m ac, .slice bo m bc] w' (fun e w2 => e = .returned (.bool true) ∧ Chg [] w' w2) from by
    have := same_ints E E ao bo ac bc w' h1 h2 (by rw [hm]; exact h3) (by rw [hm]; exact h4) hB2
    rw [hm, decide_eq_true rfl] at this
    exact this)
  have HGT := Lib.hid (fun (go2 : Option Addr) (gc2 : Nat) w' (C : Chg [] w w') (h1 : Src w' go2 (gvs G)) (h2 : G.length ≤ gc2) (h3 : go2 = none → gc2 = 0) => show GotsAt w' go2 gc2 G from ⟨h1, h2, h3, (hG.chg C).at_⟩)
  have HGE := Lib.hid (fun k (hk : k < l.length) => show ∃ s, l[k]? = some s from ⟨_, List.getElem?_eq_getElem hk⟩)
  have HST := Lib.hid (fun (k : Nat) (s : StepV) (h : l[k]? = some s) (wr : World) (C : Chg [] w wr) => show ∃ a, so = some a ∧ (Instr.loadAt 85 (.pointer (some (a.add (k * 5))))).run Tryd.prog wr = .ok (.agg s.cells) wr from by
    obtain ⟨a, rfl, _⟩ := hl.lt (by
      have h1 := (List.getElem?_eq_some_iff.1 h).1
      rw [show (svs l).length = l.length * 5 from flat_length (enc := fun s : StepV => s.cells.toList) (size := 5) (fun _ => rfl) l]
      omega)
    exact ⟨a, rfl, load_step (hl.chg C (by simp)) h⟩)
  have hn9 : n ≤ 1000000000 := by rw [← hn]; exact hB1
  have HXN := Lib.hid hn
  obtain ⟨ln, hln⟩ : ∃ ln, l.length = ln := ⟨_, rfl⟩
  have HNX := Lib.hid (fun (k : Nat) (s : StepV) (h : l[k]? = some s) => show svs (l.take (k + 1)) = svs (l.take k) ++ s.cells.toList from by
    rw [List.take_add_one, h, svs_append]
    simp [svs])
  have HLA : Hid (l.take l.length = l) := Lib.hid (List.take_of_length_le (Nat.le_refl _))
  rw [hln] at HGE hlc hl6 HK1 HK2 HLA ⊢
  rw [hGn] at HK1 HK2 K3 HGT hG6 ⊢
  have HRC := Lib.hid hRC
  clear K1 K2 hl hG hB1 hB2 hGn hRC hln hn hm
  go_enter Tryd.func51, Tryd.ntmps51
  go_upto_region 1 with (fail)
  obtain ⟨q0, hq0⟩ : ∃ q0, w.heap.size = q0 := ⟨_, rfl⟩
  have HQ0 : Hid (w.heap.size ≤ q0) := Lib.hid (Nat.le_of_eq hq0)
  rw [hq0] at hx0 ⊢
  generalize hw1 : w.alloc (.cells RC 77) = w1 at *
  have HX1 := Lib.hid hx0
  have HC0 := Lib.hid C0
  clear hx0 C0 hq0 hw1
  go_wp2_with fail
  go_loopw [13, 14] (fun v3 v4 wr => ∃ (k c' : Nat) (ao' : Option Addr), v3 = .slice ao' k c' ∧ v4 = .int .i64 (k : Int) ∧ k ≤ ln ∧ Hid (wr.ownsRow 0 93 5 (.slice ao' k c') k (svs (l.take k))) ∧ Hid (∀ b, (Value.slice ao' k c').ownBlock = some b → w1.heap.size ≤ b) ∧ Hid (Chg [] w1 wr)) (fun _ v _ => ln - (intOf v).toNat)
  case atStart => exact ⟨0, 0, none, rfl, rfl, Nat.zero_le _, Lib.hid (World.ownsRow_nil _ _ _ _), Lib.hid (fun b hb => by cases hb), Lib.hid (Chg.refl _ _)⟩
  case round =>
    obtain ⟨k, c', ao', rfl, rfl, hk, HO, HNW, HC⟩ := hrel
    by_cases hlt : k < ln
    · have e1 : (k : Int) < ln := Int.ofNat_lt.2 hlt
      have e0 : (0 : Int) ≤ k := Int.natCast_nonneg _
      have hkc : k < sc := by omega
      obtain ⟨s, hsk⟩ := HGE.out k hlt
      have HCW := Lib.hid (HC0.out.trans HC.out (by simp))
      obtain ⟨a, rfl, hld⟩ := HST.out k s hsk wr HCW.out
      have HNXk := Lib.hid (HNX.out k s hsk)
      have K4k := Lib.hid (lw_step s wr)
      obtain ⟨s1, s2, s3, s4, s5⟩ := s
      simp only [StepV.cells] at hld HNXk K4k
      clear hsk
      go_wp2_with (refine wpList_load_y 85 (.tmp 34) rfl (by go_simp) (.pointer (some (a.add (k * 5)))) (.agg #[.int .i64 s1, .int .i64 s2, .string s3, .int .i64 s4, .int .i64 s5]) hld rfl ?_)
      refine K4k.out.mono ?_
      rintro e w2 ⟨rfl, C2⟩
      obtain ⟨i0, hi0, hz0, hz1, hz2⟩ := info_parts infoStepRU
      have CB := Chg.alloc [] w2 (.cells #[.int .i64 s1, .int .i64 s2, .string s3, .int .i64 s4, .int .i64 s5] 93)
      have hown := ownsRow_chg (ownsRow_chg HO.out C2 (by simp)) CB (by simp)
      have hsrc := src_row w2 #[.int .i64 s1, .int .i64 s2, .string s3, .int .i64 s4, .int .i64 s5] 93 (0, 0)
      have HAB : Hid (k + 1 ≤ maxLen ∧ (k + 1) * 48 ≤ 140737488355328) := Lib.hid (by unfold maxLen; omega)
      have HCB := Lib.hid ((HC.out.trans C2 (by simp)).trans CB (by simp))
      go_wp2_with (at_builtin; go_loud (refine wpList_append_y (.tmp 31) (.tmp 37) 88 rfl rfl 93 i0 _ 5 48 Tryd.underlying88 hi0 hz0 hz1 hz2 rfl (by decide) (.slice ao' k c') k (svs (l.take k)) hown (some ⟨w2.heap.size, 0, none⟩) 1 1 [.int .i64 s1, .int .i64 s2, .string s3, .int .i64 s4, .int .i64 s5] rfl hsrc (fun h => by cases h) (by simp [Value.oneCell']) HAB.out.1 HAB.out.2 rfl rfl ?_))
      intro ao2 c2 w5 hown5 hgr hblk
      have CG := Chg.grown hgr (S := (Value.slice ao' k c').ownBlock.toList) (fun b hb => .inl (by simp [hb]))
      have HC5 : Hid (Chg [] w1 w5) := Lib.hid (HCB.out.trans CG (fun b hb => .inr (HNW.out b (by simpa using hb))))
      have HN5 : Hid (∀ b, (Value.slice ao2 (k + 1) c2).ownBlock = some b → w1.heap.size ≤ b) := Lib.hid (fun b hb => by
        rcases hblk with h | h <;> rw [h] at hb
        · exact HNW.out b hb
        · simp at hb
          have h1 := (HC.out.trans C2 (by simp)).size
          omega)
      have HO5 : Hid (w5.ownsRow 0 93 5 (.slice ao2 (k + 1) c2) (k + 1) (svs (l.take (k + 1)))) := Lib.hid (by rw [HNXk.out]; exact hown5)
      clear hown5 hgr hblk hown hsrc hi0 hz0 hz1 hz2 CG C2 CB hld HCB HNXk HNW HO HC
      go_wp2_with fail
      go_roundw
      case rel => exact ⟨k + 1, c2, ao2, rfl, by go_num, hlt, HO5, HN5, HC5⟩
      case measure => simp [intOf] <;> omega
    · have e1 : ¬ (k : Int) < ln := fun h => hlt (Int.ofNat_lt.1 h)
      have hkl : k = ln := by omega
      subst hkl
      have HO3 : Hid (wr.ownsRow 0 93 5 (.slice ao' k c') k (svs l)) := Lib.hid (by rw [← HLA.out]; exact HO.out)
      have HLC := Lib.hid (own_cap HO.out)
      have HCW3 := Lib.hid (HC0.out.trans HC.out (by simp))
      have HX3 := Lib.hid ((HC.out.block q0 (lt_of_block HX1.out) (by simp)).trans HX1.out)
      have hldr := run_loadAt_rec wr q0 RC _ HX3.out HRC.out
      have KB := Lib.hid (HK1.out wr HCW3.out)
      clear HO HNW hk HST HNX K4 HGE
      go_wp2_with (refine wpList_load_y 77 (.tmp 6) rfl (by go_simp) (.pointer (some ⟨q0, 0, none⟩)) (.agg RC) hldr rfl ?_)
      refine KB.out.mono ?_
      rintro e w4 ⟨C4, bo, bc, no, nc, rfl, hO, hON, hD, _⟩
      have HCW4 := Lib.hid (HCW3.out.trans C4 (by simp))
      have HC34 := Lib.hid C4
      have HX4 := Lib.hid ((C4.block q0 (lt_of_block HX3.out) (by simp)).trans HX3.out)
      have HO4 := Lib.hid hO
      have HON := Lib.hid hON
      have HD4 := Lib.hid hD
      clear C4 hO hON hD hldr KB HC
      go_upto_region 7 with (fail)
      refine wp_region_held_drew (S := fun w' => Chg [] w4 w') (by kernel_rfl) ((Chg.drewN [] w4 1)) (fun H0 => ?_)
      refine' tkH (i := 0) (v := .agg RC) rfl (Or.inl ⟨by rfl, ?hya0⟩) H0 ?resta0
      case hya0 =>
        intro w' hSw
        have s1 := hSw
        have hl := run_loadAt_rec w' q0 RC _ ((s1.block q0 (lt_of_block HX4.out) (by simp)).trans HX4.out) HRC.out
        simp [execOp, Act.eval, hl, Result.andThen]
      (try simp only [Act.put, List.getElem_toArray, List.getElem_cons_zero, List.setIfInBounds_toArray, List.set_cons_zero, List.set_cons_succ])
      refine' tkH (i := 1) (v := _) rfl (Or.inl ⟨by rfl, ?hya1⟩) H0 ?resta1
      case hya1 =>
        intro w' hSw
        have s1 := hSw
        go_simp
        try with_reducible rfl
      (try simp only [Act.put, List.getElem_toArray, List.getElem_cons_succ, List.getElem_cons_zero, List.setIfInBounds_toArray, List.set_cons_zero, List.set_cons_succ])
      refine' tkH (i := 2) (v := _) rfl (Or.inl ⟨by rfl, ?hya2⟩) H0 ?resta2
      case hya2 =>
        intro w' hSw
        have s1 := hSw
        go_simp
        try with_reducible rfl
      (try simp only [Act.put, List.getElem_toArray, List.getElem_cons_succ, List.getElem_cons_zero, List.setIfInBounds_toArray, List.set_cons_zero, List.set_cons_succ])
      refine' tkH (i := 3) (v := _) rfl (Or.inl ⟨by rfl, ?hya3⟩) H0 ?resta3
      case hya3 =>
        intro w' hSw
        have s1 := hSw
        go_simp
        try with_reducible rfl
      (try simp only [Act.put, List.getElem_toArray, List.getElem_cons_succ, List.getElem_cons_zero, List.setIfInBounds_toArray, List.set_cons_zero, List.set_cons_succ])
      refine' tkH (i := 4) (v := _) rfl (Or.inl ⟨by rfl, ?hya4⟩) H0 ?resta4
      case hya4 =>
        intro w' hSw
        have s1 := hSw
        go_simp
        try with_reducible rfl
      (try simp only [Act.put, List.getElem_toArray, List.getElem_cons_succ, List.getElem_cons_zero, List.setIfInBounds_toArray, List.set_cons_zero, List.set_cons_succ])
      refine wpAnyH_ready (rs := [5]) (by kernel_rfl) (by simp) (AllReadyH.cons rfl (fun K hK => ?_) AllReadyH.nil)
      go_simp
      refine (K3.out _ (HCW4.out.trans H0 (by simp))).mono ?_
      rintro e w5 ⟨go2, gc2, rfl, hOG, hNG, C5⟩
      have HC5 := Lib.hid (H0.trans C5 (by simp))
      have HG5 := Lib.hid (by
        obtain ⟨_, _, hv, hcp, hnl⟩ := ownsRow_slice hOG
        cases hv
        exact HGT.out go2 gc2 w5 (HCW4.out.trans HC5.out (by simp)) (ownsRow_src_any hOG) hcp (fun h => (hnl h).2))
      go_simp
      refine hK.out _ _ HC5.out (fun H1 => ?_)
      clear hK K hOG hNG C5
      refine wpAnyH_ready (rs := [6]) (by kernel_rfl) (by simp) (AllReadyH.cons rfl (fun K hK => ?_) AllReadyH.nil)
      go_simp
      refine (HK2.out ao' c' go2 gc2 _ (HCW4.out.trans H1 (by simp)) (ownsRow_src_any (ownsRow_chg HO3.out (HC34.out.trans H1 (by simp)) (by simp))) HLC.out HG5.out).mono ?_
      rintro e w6 ⟨C6, wo, wc, eo, ec, rfl, hP, hPN, hP2, hPN2⟩
      have HC6 := Lib.hid (H1.trans C6 (by simp))
      have HP := Lib.hid hP
      have HPN := Lib.hid hPN
      have HP2 := Lib.hid hP2
      go_simp
      refine hK.out _ _ HC6.out (fun H2 => ?_)
      clear hK K hP hPN hP2 hPN2 C6
      refine' tkH (i := 7) (v := _) rfl (Or.inl ⟨by rfl, ?hya7⟩) H2 ?resta7
      case hya7 =>
        intro w' hSw
        have s1 := hSw
        go_simp
        try with_reducible rfl
      (try simp only [Act.put, List.getElem_toArray, List.getElem_cons_succ, List.getElem_cons_zero, List.setIfInBounds_toArray, List.set_cons_zero, List.set_cons_succ])
      refine' tkH (i := 8) (v := _) rfl (Or.inl ⟨by rfl, ?hya8⟩) H2 ?resta8
      case hya8 =>
        intro w' hSw
        have s1 := hSw
        go_simp
        try with_reducible rfl
      (try simp only [Act.put, List.getElem_toArray, List.getElem_cons_succ, List.getElem_cons_zero, List.setIfInBounds_toArray, List.set_cons_zero, List.set_cons_succ])
      refine' tkH (i := 9) (v := _) rfl (Or.inl ⟨by rfl, ?hya9⟩) H2 ?resta9
      case hya9 =>
        intro w' hSw
        have s1 := hSw
        go_simp
        try with_reducible rfl
      (try simp only [Act.put, List.getElem_toArray, List.getElem_cons_succ, List.getElem_cons_zero, List.setIfInBounds_toArray, List.set_cons_zero, List.set_cons_succ])
      refine' tkH (i := 10) (v := _) rfl (Or.inl ⟨by rfl, ?hya10⟩) H2 ?resta10
      case hya10 =>
        intro w' hSw
        have s1 := hSw
        go_simp
        try with_reducible rfl
      (try simp only [Act.put, List.getElem_toArray, List.getElem_cons_succ, List.getElem_cons_zero, List.setIfInBounds_toArray, List.set_cons_zero, List.set_cons_succ])
      refine' tkH (i := 11) (v := _) rfl (Or.inl ⟨by rfl, ?hya11⟩) H2 ?resta11
      case hya11 =>
        intro w' hSw
        have s1 := hSw
        go_simp
        try with_reducible rfl
      (try simp only [Act.put, List.getElem_toArray, List.getElem_cons_succ, List.getElem_cons_zero, List.setIfInBounds_toArray, List.set_cons_zero, List.set_cons_succ])
      refine' tkH (i := 12) (v := _) rfl (Or.inl ⟨by rfl, ?hya12⟩) H2 ?resta12
      case hya12 =>
        intro w' hSw
        have s1 := hSw
        go_simp
        try with_reducible rfl
      (try simp only [Act.put, List.getElem_toArray, List.getElem_cons_succ, List.getElem_cons_zero, List.setIfInBounds_toArray, List.set_cons_zero, List.set_cons_succ])
      refine' tkH (i := 13) (v := _) rfl (Or.inl ⟨by rfl, ?hya13⟩) H2 ?resta13
      case hya13 =>
        intro w' hSw
        have s1 := hSw
        go_simp
        try with_reducible rfl
      (try simp only [Act.put, List.getElem_toArray, List.getElem_cons_succ, List.getElem_cons_zero, List.setIfInBounds_toArray, List.set_cons_zero, List.set_cons_succ])
      refine wpAnyH_done (by kernel_rfl) ?_ _
      have HO6 := Lib.hid (ownsRow_chg HO4.out HC6.out (by simp))
      have HD6 := Lib.hid (ownsRow_chg HD4.out HC6.out (by simp))
      have HCW6 := Lib.hid (HCW4.out.trans HC6.out (by simp))
      clear H0 H1 H2 HG5
      have s1 := ownsRow_src HO6.out
      have s2 := ownsRow_src HP.out
      have l1 : (⟨X.toArray⟩ : ByteArray).data.toList.length = n := HXN.out
      have KSI := Lib.hid (K5.out no nc eo ec w6 (ownsRow_src HD6.out) (ownsRow_src HP2.out) (own_cap HD6.out) (own_cap HP2.out))
      go_wp2_with (first | (refine wpList_str_of_bytes _ (by first | rfl | go_simp) 25 9 (.tmp 60) rfl 5 Tryd.underlying25 Tryd.underlying5 Tryd.underlying9 bo n bc rfl ⟨X.toArray⟩ l1 s1 ?_) | (refine wpList_str_of_bytes _ (by first | rfl | go_simp) 25 9 (.tmp 62) rfl 5 Tryd.underlying25 Tryd.underlying5 Tryd.underlying9 wo n wc rfl ⟨X.toArray⟩ l1 s2 ?_))
      refine KSI.out.mono ?_
      rintro e w7 ⟨rfl, C7⟩
      have HC7 := Lib.hid (HCW6.out.trans C7 (by simp))
      have HC47 := Lib.hid (HC6.out.trans C7 (by simp))
      have HO7 := Lib.hid (ownsRow_chg HO6.out C7 (by simp))
      have HP7 := Lib.hid (ownsRow_chg HP.out C7 (by simp))
      have HX7 := Lib.hid ((HC47.out.block q0 (lt_of_block HX4.out) (by simp)).trans HX4.out)
      have HQB := Lib.hid (show ∀ x, (Value.slice bo n bc).ownBlock = some x → w.heap.size ≤ x ∧ x ≠ q0 ∧ ∀ y, (Value.slice wo n wc).ownBlock = some y → y ≠ x from fun x hx => by
        have h1 := HON.out x hx
        have h2 := lt_of_block HX3.out
        have h3 := ownsRow_lt HO4.out x hx
        have h4 := HCW3.out.size
        refine ⟨by omega, by omega, fun y hy => ?_⟩
        have h5 := HPN.out y hy
        have h6 := HC5.out.size
        omega)
      clear C7 s1 s2 HO6 HD6 HP2 KSI HPN
      go_wp2_with fail
      go_loopw [21] (fun v wr => ∃ (k : Nat) (ys : List UInt8), v = .int .i64 (k : Int) ∧ k ≤ n ∧ Hid (wr.ownsRow 0 5 1 (.slice bo n bc) n (bvs ys)) ∧ Hid (Chg (Value.slice bo n bc).ownBlock.toList w7 wr)) (fun v _ => n - (intOf v).toNat)
      case atStart => exact ⟨0, X, rfl, Nat.zero_le _, HO7, Lib.hid (Chg.refl _ _)⟩
      case round =>
        obtain ⟨k, ys, rfl, hk, HO, HC⟩ := hrel
        by_cases hlt : k < n
        · have e1 : (k : Int) < n := Int.ofNat_lt.2 hlt
          have e0 : (0 : Int) ≤ k := Int.natCast_nonneg _
          obtain ⟨g, rfl⟩ := ownsRow_head HO.out (by omega)
          have hkc : k < bc := by obtain ⟨_, _, e, h, _⟩ := ownsRow_slice HO.out; cases e; omega
          obtain ⟨y, hy⟩ : ∃ y, ys[k]? = some y := ⟨_, List.getElem?_eq_getElem (by have := HO.out.1; rw [bvs_length] at this; omega)⟩
          have hyc : (bvs ys)[k]? = some (bv y) := by unfold bvs; rw [List.getElem?_map, hy]; rfl
          obtain ⟨hc0, hf1⟩ := ownsRow_cell1 HO.out hyc
          have hc1 : wr.cell? ⟨g, k, none⟩ = some (.int .u8 (y.toNat : Int)) := hc0
          clear hc0
          have hxr := xor255x y
          have ho2 := ownsRow_setx HO.out (k := k) (bv (y ^^^ 255))
          rw [bvs_setx] at ho2
          have HO2 := Lib.hid ho2
          have HC2 : Hid (Chg (Value.slice (some ⟨g, 0, none⟩) n bc).ownBlock.toList w7 (wr.setCell ⟨g, k, none⟩ (bv (y ^^^ 255)))) := Lib.hid (HC.out.trans (Chg.setCell (S := (Value.slice (some ⟨g, 0, none⟩) n bc).ownBlock.toList) wr ⟨g, k, none⟩ (bv (y ^^^ 255)) (.inl (by simp [Value.ownBlock]))) (fun x hx => .inl hx))
          clear ho2 hyc hy
          go_wp2_with fail
          go_roundw
          case rel => exact ⟨k + 1, ys.set k (y ^^^ 255), by go_num, hlt, HO2, HC2⟩
          case measure => simp [intOf] <;> omega
        · have e1 : ¬ (k : Int) < n := fun h => hlt (Int.ofNat_lt.1 h)
          have HCR := Lib.hid (show Chg [] w wr from HC7.out.trans HC.out (fun x hx => .inr (HQB.out x (by simpa using hx)).1))
          have HXR := Lib.hid ((HC.out.block q0 (lt_of_block HX7.out) (fun hm => (HQB.out q0 (by simpa using hm)).2.1 rfl)).trans HX7.out)
          have HPR := Lib.hid (ownsRow_chg HP7.out HC.out (fun x hx hm => (HQB.out x (by simpa using hm)).2.2 x hx rfl))
          have hldr := run_loadAt_rec wr q0 RC _ HXR.out HRC.out
          have KB2 := Lib.hid (HK1.out wr HCR.out)
          clear hk
          go_wp2_with (refine wpList_load_y 77 (.tmp 6) rfl (by go_simp) (.pointer (some ⟨q0, 0, none⟩)) (.agg RC) hldr rfl ?_)
          refine KB2.out.mono ?_
          rintro e w9 ⟨C9, b2, b2c, n2, n2c, rfl, hO9, _, _, _⟩
          have s1 := ownsRow_src hO9
          have s2 := ownsRow_src (ownsRow_chg HPR.out C9 (by simp))
          have HC9 := Lib.hid (HCR.out.trans C9 (by simp))
          clear C9 hO9 hldr KB2
          go_wp2_with (first | (refine wpList_str_of_bytes _ (by first | rfl | go_simp) 25 9 (.tmp 100) rfl 5 Tryd.underlying25 Tryd.underlying5 Tryd.underlying9 b2 n b2c rfl ⟨X.toArray⟩ l1 s1 ?_) | (refine wpList_str_of_bytes _ (by first | rfl | go_simp) 25 9 (.tmp 102) rfl 5 Tryd.underlying25 Tryd.underlying5 Tryd.underlying9 wo n wc rfl ⟨X.toArray⟩ l1 s2 ?_))
          go_ret
          exact ⟨rfl, HC9.out⟩
end Go.Proofs.YtfdhpjflkimihaaDoor
/- The law's awake, walked. No conditions beyond those that each statement types. -/
namespace Go.Proofs.YtfdhpjflkimihaaDoor
open Go.RowKit

theorem fill_gots (a b : Int) (a1 : Option Addr) (n1 k1 : Nat) (a2 : Option Addr) (n2 k2 : Nat) : Instr.fill (fun i => some (i * 2, 2)) ((Array.range (2 * 2)).map fun j => (Value.agg #[.int .i64 0, .slice none 0 0]).cells[j % (Value.agg #[.int .i64 0, .slice none 0 0]).cells.size]!) [(0, .agg #[.int .i64 a, .slice a1 n1 k1]), (1, .agg #[.int .i64 b, .slice a2 n2 k2])] = some #[.int .i64 a, .slice a1 n1 k1, .int .i64 b, .slice a2 n2 k2] := by kernel_rfl
theorem infoGotU : (Tryd.prog.info? 104).map (fun i => (i.zero, i.size, i.bytes)) = some (some (.agg #[.int .i64 0, .slice none 0 0]), 2, 32) := by kernel_rfl
theorem run_two_gots (a b : Int) (a1 : Option Addr) (n1 k1 : Nat) (a2 : Option Addr) (n2 k2 : Nat) (w : World) : (Instr.buildSlice 87 2 #[(0, .agg #[.int .i64 a, .slice a1 n1 k1]), (1, .agg #[.int .i64 b, .slice a2 n2 k2])]).run Tryd.prog w = .ok (.slice (some ⟨w.heap.size, 0, none⟩) 2 2) (w.alloc (.cells #[.int .i64 a, .slice a1 n1 k1, .int .i64 b, .slice a2 n2 k2] 104)) := by
  kernel_rfl
theorem gots_two {w : World} {g1 c1 g2 c2 : Nat} (h1 : PV w [] (.slice (some ⟨g1, 0, none⟩) 16 c1) m_x16) (h2 : PV w [] (.slice (some ⟨g2, 0, none⟩) 8 c2) m_y8) :
    GotsAt (w.alloc (.cells #[.int .i64 0, .slice (some ⟨g1, 0, none⟩) 16 c1, .int .i64 2, .slice (some ⟨g2, 0, none⟩) 8 c2] 104)) (some ⟨w.heap.size, 0, none⟩) 2 (gotG (some ⟨g1, 0, none⟩) c1 (some ⟨g2, 0, none⟩) c2) := by
  have C := Chg.alloc [] w (.cells #[.int .i64 0, .slice (some ⟨g1, 0, none⟩) 16 c1, .int .i64 2, .slice (some ⟨g2, 0, none⟩) 8 c2] 104)
  refine ⟨src_row w #[.int .i64 0, .slice (some ⟨g1, 0, none⟩) 16 c1, .int .i64 2, .slice (some ⟨g2, 0, none⟩) 8 c2] _ (0, 0), Nat.le_refl _, (fun h => by cases h), ?_⟩
  intro k g hk
  match k, hk with
  | 0, hk => cases hk; exact h1.chg C (by simp)
  | 1, hk => cases hk; exact h2.chg C (by simp)
set_option maxRecDepth 100000 in
set_option maxHeartbeats 8000000 in
theorem law_awake21 (w : World) (hL : Laid w) : Calls Tryd.prog 41 #[] w (Holds w) := by
  have KG := Lib.hid (fun w => law_given w)
  have KT := Lib.hid (fun (c : UInt8) (n : Nat) (hn : n ≤ 1000) w => law_times c n hn w)
  have HL := Lib.hid hL
  clear hL
  go_enter Tryd.func41, Tryd.ntmps41
  go_wp2_with fail
  refine (KG.out _).mono ?_
  rintro e w1 ⟨g, c, rfl, hc, hs, hg, hg2, C1⟩
  have KW := Lib.hid (law_wanted m_given (some ⟨g, 0, none⟩) c w1 (HL.out.chg C1 (by simp)) hs (by decide) hc)
  have HC1 := Lib.hid C1
  clear C1 hc hs hg hg2
  go_wp2_with fail
  refine KW.out.mono ?_
  rintro e w2 ⟨C2, RC, ao, rc, rfl, HR, hao, hone⟩
  have hx := heap_alloc_new w2 (.cells recZ 77)
  have CA := Chg.alloc [] w2 (.cells recZ 77)
  have hsz : (w2.alloc (.cells recZ 77)).heap.size = w2.heap.size + 1 := by simp
  obtain ⟨Z, hZ⟩ : ∃ Z, recZ = Z := ⟨_, rfl⟩
  have hzr := zero_rec w2
  have hzs : Z.size = 27 := by rw [← hZ]; rfl
  rw [hZ] at hzr hx CA hsz
  obtain ⟨hst, hh, hcg⟩ := setRow_one (V := RC) hx (by rw [HR.size]; exact infoRec) (by rw [hzs, HR.size]) hone
  have C3 := hcg w2 CA (Nat.le_refl _)
  go_upto_region 2 with (first | (refine wpList_alloc_x rfl 77 rfl (.agg Z) hzr ?_) | (refine wpList_store_y 77 (.tmp 1) (.tmp 8) rfl (by first | rfl | go_simp) (.pointer (some ⟨w2.heap.size, 0, none⟩)) (.agg RC) _ hst rfl rfl ?_))
  obtain ⟨q, hq⟩ : ∃ q, w2.heap.size = q := ⟨_, rfl⟩
  rw [hq] at hh C3 ⊢
  generalize (w2.alloc (.cells Z 77)).setRow q RC = w3 at *
  have HC3 := Lib.hid ((HC1.out.trans C2 (by simp)).trans C3 (by simp))
  have HX3 := Lib.hid hh
  have HRI := Lib.hid (HR.chg0 C3)
  have HRS := Lib.hid HR.size
  have hldr := run_loadAt_rec w3 q RC _ hh HR.size
  have KP := Lib.hid (by
    have := cp_plan RC (recV m_given) ao rc 40 given_good none (fun _ => none) none 0 [] w3 (HL.out.chg HC3.out (by simp)) HRI.out (finds_none (noFinder_nil w3)) (fun _ => by simp [fX]) (Src.empty _ _) (by simp) (by simp) (fun _ => rfl)
    rewrite [given_cnt, given_plan] at this
    exact this)
  clear C2 hx CA hsz hzr hzs hst hh hcg C3 HR hao hone hq hZ KW
  go_wp2_with (refine wpList_load_y 77 (.tmp 1) rfl (by go_simp) (.pointer (some ⟨q, 0, none⟩)) (.agg RC) hldr rfl ?_)
  refine KP.out.mono ?_
  rintro e w4 ⟨C4, po, pc, rfl, hown, hnew⟩
  have HC4 := Lib.hid (HC3.out.trans C4 (by simp))
  have HX4 := Lib.hid ((C4.block q (lt_of_block HX3.out) (by simp)).trans HX3.out)
  have HPL := Lib.hid (ownsRow_src_any hown)
  obtain ⟨_, _, hv, hpc, _⟩ := ownsRow_slice hown
  cases hv
  have HPC := Lib.hid hpc
  have HRW := Lib.hid (fun w' (C : Chg [] w w') (C2 : Chg [] w4 w') => (HRI.out.chg0 C4).chg0 C2)
  have KB := Lib.hid (fun (a1 : Option Addr) (c1 : Nat) (a2 : Option Addr) (c2 qg : Nat) (w' : World) (C : Chg [] w w') (C2 : Chg [] w4 w') (hp : Src w' po (svs planG)) (hG : GotsAt w' (some ⟨qg, 0, none⟩) 2 (gotG a1 c1 a2 c2)) => by
    have := cp_build RC (recV m_given) ao rc 40 given_good planG po pc none (fun _ => none) none 0 [] (gotG a1 c1 a2 c2) (some ⟨qg, 0, none⟩) 2 w' (HL.out.chg C (by simp)) (HRW.out w' C C2) (finds_none (noFinder_nil w')) (fun _ => by simp [fX]) (Src.empty _ _) (by simp) (by simp) (fun _ => rfl) hp HPC.out (Nat.le_of_ble_eq_true rfl) hG (Nat.le_of_ble_eq_true rfl) (by
      intro k g hk
      match k, hk with
      | 0, hk => cases hk; exact Nat.le_of_ble_eq_true rfl
      | 1, hk => cases hk; exact Nat.le_of_ble_eq_true rfl)
    rewrite [given_build] at this
    exact this)
  have KF := Lib.hid (fun (w' : World) (_ : Chg [] w w') (hp : Src w' po (svs planG)) => by
    have := law_from planG po pc w' hp (by exact hpc) (Nat.le_of_ble_eq_true rfl) (by
      intro k s hk
      match k, hk with
      | 0, hk => cases hk; decide
      | 1, hk => cases hk; decide
      | 2, hk => cases hk; decide)
    rewrite [given_from] at this
    exact this)
  have KL := Lib.hid (fun (w' : World) (C : Chg [] w w') (C2 : Chg [] w4 w') => by
    have := cp_length RC (recV m_given) ao rc 2 w' (HRW.out w' C C2)
    rewrite [given_len2] at this
    exact this)
  clear hown hnew hpc HRI HX3 C4 hldr KP HC1 HC3
  go_upto_region 3 with (fail)
  refine wp_region_held_drew (S := fun w' => Chg [] w4 w') (by kernel_rfl) (Chg.drewN [] w4 1) (fun H0 => ?_)
  refine' tkH (i := 0) (v := .agg RC) rfl (Or.inl ⟨by rfl, ?hyu10⟩) H0 ?restu10
  case hyu10 =>
    intro w' hSw
    have s1 := hSw
    have hl := run_loadAt_rec w' q RC _ ((s1.block q (lt_of_block HX4.out) (by simp)).trans HX4.out) HRS.out
    simp [execOp, Act.eval, hl, Result.andThen]
  (try simp only [Act.put, List.getElem_toArray, List.getElem_cons_zero, List.setIfInBounds_toArray, List.set_cons_zero, List.set_cons_succ])
  refine' tkH (i := 1) (v := _) rfl (Or.inl ⟨by rfl, ?hyu21⟩) H0 ?restu21
  case hyu21 =>
    intro w' hSw
    have s1 := hSw
    go_simp
    try with_reducible rfl
  (try simp only [Act.put, List.getElem_toArray, List.getElem_cons_succ, List.getElem_cons_zero, List.setIfInBounds_toArray, List.set_cons_zero, List.set_cons_succ])
  refine wpAnyH_ready (rs := [2]) (by kernel_rfl) (by simp) (AllReadyH.cons rfl (fun K hK => ?_) AllReadyH.nil)
  go_simp
  refine (KT.out 120 16 (by decide) _).mono ?_
  rintro e y2 ⟨rfl, Cy2⟩
  go_simp
  refine hK.out _ _ (H0.trans Cy2 (by simp)) (fun HN1 => ?_)
  clear hK K
  refine wpAnyH_ready (rs := [3, 5]) (by kernel_rfl) (by simp) (AllReadyH.cons rfl (fun K hK => ?_) (AllReadyH.cons rfl (fun K hK => ?_) AllReadyH.nil))
  · obtain ⟨g3, c3, x3, hr3, hc3, M3⟩ := run_bytes_of_str (P := Tryd.prog) y2 9 25 5 (many 120 16) Tryd.underlying9 Tryd.underlying25 Tryd.underlying5
    rw [show (many 120 16).size = 16 from rfl] at hr3 hc3
    have HS3 := Lib.hid (show PV x3 [] (.slice (some ⟨g3, 0, none⟩) 16 c3) m_x16 from ⟨_, _, rfl, M3.src, hc3, (fun h => by cases h), fun _ a ha => by
      cases ha
      exact ⟨List.not_mem_nil, M3.new.2⟩⟩)
    have HM3 := Lib.hid M3.chg
    clear M3
    go_simp
    refine hK.out _ _ (HN1.trans HM3.out (by simp)) (fun HN2 => ?_)
    clear hK K hr3
    refine' tkH (i := 4) (v := _) rfl (Or.inl ⟨by rfl, ?hyu34⟩) HN2 ?restu34
    case hyu34 =>
      intro w' hSw
      have s1 := hSw
      go_simp
      try with_reducible rfl
    (try simp only [Act.put, List.getElem_toArray, List.getElem_cons_succ, List.getElem_cons_zero, List.setIfInBounds_toArray, List.set_cons_zero, List.set_cons_succ])
    refine wpAnyH_ready (rs := [5]) (by kernel_rfl) (by simp) (AllReadyH.cons rfl (fun K hK => ?_) AllReadyH.nil)
    go_simp
    refine (KT.out 121 8 (by decide) _).mono ?_
    rintro e y5 ⟨rfl, Cy5⟩
    go_simp
    refine hK.out _ _ (HN2.trans Cy5 (by simp)) (fun HN3 => ?_)
    clear hK K
    refine wpAnyH_ready (rs := [6]) (by kernel_rfl) (by simp) (AllReadyH.cons rfl (fun K hK => ?_) AllReadyH.nil)
    obtain ⟨g6, c6, x6, hr6, hc6, M6⟩ := run_bytes_of_str (P := Tryd.prog) y5 9 25 5 (many 121 8) Tryd.underlying9 Tryd.underlying25 Tryd.underlying5
    rw [show (many 121 8).size = 8 from rfl] at hr6 hc6
    have HS6 := Lib.hid (show PV x6 [] (.slice (some ⟨g6, 0, none⟩) 8 c6) m_y8 from ⟨_, _, rfl, M6.src, hc6, (fun h => by cases h), fun _ a ha => by
      cases ha
      exact ⟨List.not_mem_nil, M6.new.2⟩⟩)
    have HM6 := Lib.hid M6.chg
    clear M6
    go_simp
    refine hK.out _ _ (HN3.trans HM6.out (by simp)) (fun HN4 => ?_)
    clear hK K hr6
    refine' tkH (i := 7) (v := _) rfl (Or.inl ⟨by rfl, ?hyu47⟩) HN4 ?restu47
    case hyu47 =>
      intro w' hSw
      have s1 := hSw
      go_simp
      try with_reducible rfl
    (try simp only [Act.put, List.getElem_toArray, List.getElem_cons_succ, List.getElem_cons_zero, List.setIfInBounds_toArray, List.set_cons_zero, List.set_cons_succ])
    have hb2 := run_two_gots 0 2 (some ⟨g3, 0, none⟩) 16 c3 (some ⟨g6, 0, none⟩) 8 c6 x6
    have HP3 := Lib.hid (HS3.out.chg (show Chg [] x3 x6 from Cy5.trans HM6.out (by simp)) (by simp))
    have HP6 := Lib.hid (HS6.out.chg (show Chg [] x6 x6 from Chg.refl _ _) (by simp))
    have hxg := heap_alloc_new x6 (.cells #[.int .i64 0, .slice (some ⟨g3, 0, none⟩) 16 c3, .int .i64 2, .slice (some ⟨g6, 0, none⟩) 8 c6] 104)
    have CG := Chg.alloc [] x6 (.cells #[.int .i64 0, .slice (some ⟨g3, 0, none⟩) 16 c3, .int .i64 2, .slice (some ⟨g6, 0, none⟩) 8 c6] 104)
    have HGA := Lib.hid (gots_two HP3.out HP6.out)
    refine wpAnyH_ready (rs := [8]) (by kernel_rfl) (by simp) (AllReadyH.cons rfl (fun K hK => ?_) AllReadyH.nil)
    go_simp
    refine hK.out _ _ (HN4.trans CG (by simp)) (fun HG => ?_)
    clear hK K hb2
    obtain ⟨qg, hqg⟩ : ∃ qg, x6.heap.size = qg := ⟨_, rfl⟩
    rw [hqg] at HGA ⊢
    generalize x6.alloc (.cells #[.int .i64 0, .slice (some ⟨g3, 0, none⟩) 16 c3, .int .i64 2, .slice (some ⟨g6, 0, none⟩) 8 c6] 104) = xg at *
    clear hxg CG hqg HP3 HP6 HS3 HS6
    refine wpAnyH_ready (rs := [9]) (by kernel_rfl) (by simp) (AllReadyH.cons rfl (fun K hK => ?_) AllReadyH.nil)
    have KBB := Lib.hid (KB.out (some ⟨g3, 0, none⟩) c3 (some ⟨g6, 0, none⟩) c6 qg xg (HC4.out.trans HG (by simp)) HG (HPL.out.chg HG (by simp)) HGA.out)
    go_simp
    refine KBB.out.mono ?_
    rintro e xf ⟨Cf, bo, bc, no, nc, rfl, hbo, _, _, _⟩
    have HBO := Lib.hid hbo
    go_simp
    refine hK.out _ _ (HG.trans Cf (by simp)) (fun HF => ?_)
    clear hK K Cf hbo KBB HGA
    refine' tkH (i := 10) (v := _) rfl (Or.inl ⟨by rfl, ?hyu510⟩) HF ?restu510
    case hyu510 =>
      intro w' hSw
      have s1 := hSw
      go_simp
      try with_reducible rfl
    (try simp only [Act.put, List.getElem_toArray, List.getElem_cons_succ, List.getElem_cons_zero, List.setIfInBounds_toArray, List.set_cons_zero, List.set_cons_succ])
    refine' tkH (i := 11) (v := _) rfl (Or.inl ⟨by rfl, ?hyu511⟩) HF ?restu511
    case hyu511 =>
      intro w' hSw
      have s1 := hSw
      go_simp
      try with_reducible rfl
    (try simp only [Act.put, List.getElem_toArray, List.getElem_cons_succ, List.getElem_cons_zero, List.setIfInBounds_toArray, List.set_cons_zero, List.set_cons_succ])
    refine' tkH (i := 12) (v := _) rfl (Or.inl ⟨by rfl, ?hyu512⟩) HF ?restu512
    case hyu512 =>
      intro w' hSw
      have s1 := hSw
      go_simp
      try with_reducible rfl
    (try simp only [Act.put, List.getElem_toArray, List.getElem_cons_succ, List.getElem_cons_zero, List.setIfInBounds_toArray, List.set_cons_zero, List.set_cons_succ])
    refine' tkH (i := 13) (v := _) rfl (Or.inl ⟨by rfl, ?hyu513⟩) HF ?restu513
    case hyu513 =>
      intro w' hSw
      have s1 := hSw
      go_simp
      try with_reducible rfl
    (try simp only [Act.put, List.getElem_toArray, List.getElem_cons_succ, List.getElem_cons_zero, List.setIfInBounds_toArray, List.set_cons_zero, List.set_cons_succ])
    refine' tkH (i := 14) (v := _) rfl (Or.inl ⟨by rfl, ?hyu514⟩) HF ?restu514
    case hyu514 =>
      intro w' hSw
      have s1 := hSw
      go_simp
      try with_reducible rfl
    (try simp only [Act.put, List.getElem_toArray, List.getElem_cons_succ, List.getElem_cons_zero, List.setIfInBounds_toArray, List.set_cons_zero, List.set_cons_succ])
    refine' tkH (i := 15) (v := _) rfl (Or.inl ⟨by rfl, ?hyu515⟩) HF ?restu515
    case hyu515 =>
      intro w' hSw
      have s1 := hSw
      go_simp
      try with_reducible rfl
    (try simp only [Act.put, List.getElem_toArray, List.getElem_cons_succ, List.getElem_cons_zero, List.setIfInBounds_toArray, List.set_cons_zero, List.set_cons_succ])
    refine' tkH (i := 16) (v := _) rfl (Or.inl ⟨by rfl, ?hyu516⟩) HF ?restu516
    case hyu516 =>
      intro w' hSw
      have s1 := hSw
      go_simp
      try with_reducible rfl
    (try simp only [Act.put, List.getElem_toArray, List.getElem_cons_succ, List.getElem_cons_zero, List.setIfInBounds_toArray, List.set_cons_zero, List.set_cons_succ])
    refine wpAnyH_done (by kernel_rfl) ?_ _
    have HC5 := Lib.hid (HC4.out.trans HF (by simp))
    have HFX := Lib.hid HF
    have HX5 := Lib.hid ((HF.block q (lt_of_block HX4.out) (by simp)).trans HX4.out)
    have HP5 := Lib.hid (HPL.out.chg HF (by simp))
    have HBS := Lib.hid (ownsRow_src HBO.out)
    go_upto_region 4 with (fail)
    refine wp_region_held_drew (S := fun w' => Chg [] xf w') (by kernel_rfl) (Chg.drewN [] xf 1) (fun Q0 => ?_)
    refine' tkH (i := 0) (v := _) rfl (Or.inl ⟨by rfl, ?hyu60⟩) Q0 ?restu60
    case hyu60 =>
      intro w' hSw
      have s1 := hSw
      go_simp
      try with_reducible rfl
    (try simp only [Act.put, List.getElem_toArray, List.getElem_cons_zero, List.setIfInBounds_toArray, List.set_cons_zero, List.set_cons_succ])
    refine' tkH (i := 1) (v := _) rfl (Or.inl ⟨by rfl, ?hyu61⟩) Q0 ?restu61
    case hyu61 =>
      intro w' hSw
      have s1 := hSw
      go_simp
      try with_reducible rfl
    (try simp only [Act.put, List.getElem_toArray, List.getElem_cons_succ, List.getElem_cons_zero, List.setIfInBounds_toArray, List.set_cons_zero, List.set_cons_succ])
    refine' tkH (i := 2) (v := _) rfl (Or.inl ⟨by rfl, ?hyu62⟩) Q0 ?restu62
    case hyu62 =>
      intro w' hSw
      have s1 := hSw
      go_simp
      try with_reducible rfl
    (try simp only [Act.put, List.getElem_toArray, List.getElem_cons_succ, List.getElem_cons_zero, List.setIfInBounds_toArray, List.set_cons_zero, List.set_cons_succ])
    refine' tkH (i := 3) (v := _) rfl (Or.inl ⟨by rfl, ?hyu63⟩) Q0 ?restu63
    case hyu63 =>
      intro w' hSw
      have s1 := hSw
      go_simp
      try with_reducible rfl
    (try simp only [Act.put, List.getElem_toArray, List.getElem_cons_succ, List.getElem_cons_zero, List.setIfInBounds_toArray, List.set_cons_zero, List.set_cons_succ])
    refine wpAnyH_ready (rs := [4]) (by kernel_rfl) (by simp) (AllReadyH.cons rfl (fun K hK => ?_) AllReadyH.nil)
    go_simp
    refine (KF.out _ (HC5.out.trans Q0 (by simp)) (HP5.out.chg Q0 (by simp))).mono ?_
    rintro e y4 ⟨rfl, Cy4⟩
    go_simp
    refine hK.out _ _ (Q0.trans Cy4 (by simp)) (fun HN1 => ?_)
    clear hK K
    refine' tkH (i := 5) (v := .bool true) rfl (Or.inl ⟨by rfl, ?hyu75⟩) HN1 ?restu75
    case hyu75 =>
      intro w' hSw
      have s1 := hSw
      go_simp
      try rfl
    (try simp only [Act.put, List.getElem_toArray, List.getElem_cons_succ, List.getElem_cons_zero, List.setIfInBounds_toArray, List.set_cons_zero, List.set_cons_succ])
    refine' tkH (i := 6) (v := _) rfl (Or.inl ⟨by rfl, ?hyu86⟩) HN1 ?restu86
    case hyu86 =>
      intro w' hSw
      have s1 := hSw
      go_simp
      try with_reducible rfl
    (try simp only [Act.put, List.getElem_toArray, List.getElem_cons_succ, List.getElem_cons_zero, List.setIfInBounds_toArray, List.set_cons_zero, List.set_cons_succ])
    refine' tkH (i := 7) (v := _) rfl (Or.inl ⟨by rfl, ?hyu87⟩) HN1 ?restu87
    case hyu87 =>
      intro w' hSw
      have s1 := hSw
      go_simp
      try with_reducible rfl
    (try simp only [Act.put, List.getElem_toArray, List.getElem_cons_succ, List.getElem_cons_zero, List.setIfInBounds_toArray, List.set_cons_zero, List.set_cons_succ])
    refine' tkH (i := 8) (v := _) rfl (Or.inl ⟨by rfl, ?hyu88⟩) HN1 ?restu88
    case hyu88 =>
      intro w' hSw
      have s1 := hSw
      go_simp
      try with_reducible rfl
    (try simp only [Act.put, List.getElem_toArray, List.getElem_cons_succ, List.getElem_cons_zero, List.setIfInBounds_toArray, List.set_cons_zero, List.set_cons_succ])
    refine' tkH (i := 9) (v := _) rfl (Or.inl ⟨by rfl, ?hyu89⟩) HN1 ?restu89
    case hyu89 =>
      intro w' hSw
      have s1 := hSw
      go_simp
      try with_reducible rfl
    (try simp only [Act.put, List.getElem_toArray, List.getElem_cons_succ, List.getElem_cons_zero, List.setIfInBounds_toArray, List.set_cons_zero, List.set_cons_succ])
    refine' tkH (i := 10) (v := _) rfl (Or.inl ⟨by rfl, ?hyu810⟩) HN1 ?restu810
    case hyu810 =>
      intro w' hSw
      have s1 := hSw
      go_simp
      try with_reducible rfl
    (try simp only [Act.put, List.getElem_toArray, List.getElem_cons_succ, List.getElem_cons_zero, List.setIfInBounds_toArray, List.set_cons_zero, List.set_cons_succ])
    refine' tkH (i := 11) (v := _) rfl (Or.inl ⟨by rfl, ?hyu811⟩) HN1 ?restu811
    case hyu811 =>
      intro w' hSw
      have s1 := hSw
      go_simp
      try with_reducible rfl
    (try simp only [Act.put, List.getElem_toArray, List.getElem_cons_succ, List.getElem_cons_zero, List.setIfInBounds_toArray, List.set_cons_zero, List.set_cons_succ])
    refine' tkH (i := 12) (v := _) rfl (Or.inl ⟨by rfl, ?hyu812⟩) HN1 ?restu812
    case hyu812 =>
      intro w' hSw
      have s1 := hSw
      go_simp
      try with_reducible rfl
    (try simp only [Act.put, List.getElem_toArray, List.getElem_cons_succ, List.getElem_cons_zero, List.setIfInBounds_toArray, List.set_cons_zero, List.set_cons_succ])
    refine' tkH (i := 13) (v := _) rfl (Or.inl ⟨by rfl, ?hyu813⟩) HN1 ?restu813
    case hyu813 =>
      intro w' hSw
      have s1 := hSw
      go_simp
      try with_reducible rfl
    (try simp only [Act.put, List.getElem_toArray, List.getElem_cons_succ, List.getElem_cons_zero, List.setIfInBounds_toArray, List.set_cons_zero, List.set_cons_succ])
    refine' tkH (i := 14) (v := _) rfl (Or.inl ⟨by rfl, ?hyu814⟩) HN1 ?restu814
    case hyu814 =>
      intro w' hSw
      have s1 := hSw
      go_simp
      try with_reducible rfl
    (try simp only [Act.put, List.getElem_toArray, List.getElem_cons_succ, List.getElem_cons_zero, List.setIfInBounds_toArray, List.set_cons_zero, List.set_cons_succ])
    refine' tkH (i := 15) (v := _) rfl (Or.inl ⟨by rfl, ?hyu815⟩) HN1 ?restu815
    case hyu815 =>
      intro w' hSw
      have s1 := hSw
      go_simp
      try with_reducible rfl
    (try simp only [Act.put, List.getElem_toArray, List.getElem_cons_succ, List.getElem_cons_zero, List.setIfInBounds_toArray, List.set_cons_zero, List.set_cons_succ])
    refine' tkH (i := 16) (v := _) rfl (Or.inl ⟨by rfl, ?hyu816⟩) HN1 ?restu816
    case hyu816 =>
      intro w' hSw
      have s1 := hSw
      go_simp
      try with_reducible rfl
    (try simp only [Act.put, List.getElem_toArray, List.getElem_cons_succ, List.getElem_cons_zero, List.setIfInBounds_toArray, List.set_cons_zero, List.set_cons_succ])
    refine' tkH (i := 17) (v := _) rfl (Or.inl ⟨by rfl, ?hyu817⟩) HN1 ?restu817
    case hyu817 =>
      intro w' hSw
      have s1 := hSw
      go_simp
      try with_reducible rfl
    (try simp only [Act.put, List.getElem_toArray, List.getElem_cons_succ, List.getElem_cons_zero, List.setIfInBounds_toArray, List.set_cons_zero, List.set_cons_succ])
    refine' tkH (i := 18) (v := .string ⟨m_given.toArray⟩) rfl (Or.inl ⟨by rfl, ?hyu918⟩) HN1 ?restu918
    case hyu918 =>
      intro w' hSw
      have s1 := hSw
      have hl := run_str_of_bytes (P := Tryd.prog) w' 25 9 5 Tryd.underlying25 Tryd.underlying5 Tryd.underlying9 bo m_given.length bc m_given rfl (HBS.out.chg s1 (by simp))
      simp [execOp, Act.eval, hl, Result.andThen]
    (try simp only [Act.put, List.getElem_toArray, List.getElem_cons_succ, List.getElem_cons_zero, List.setIfInBounds_toArray, List.set_cons_zero, List.set_cons_succ])
    refine wpAnyH_ready (rs := [19]) (by kernel_rfl) (by simp) (AllReadyH.cons rfl (fun K hK => ?_) AllReadyH.nil)
    go_simp
    refine (KG.out _).mono ?_
    rintro e y5 ⟨gg, cg, rfl, _, hsg, _, _, C5⟩
    have HSG := Lib.hid hsg
    go_simp
    refine hK.out _ _ (HN1.trans C5 (by simp)) (fun HN5 => ?_)
    clear hK K hsg
    have HSG2 : Hid (∀ w', Chg [] y5 w' → Src w' (some ⟨gg, 0, none⟩) (bvs m_given)) := Lib.hid (fun w' C => HSG.out.chg C (by simp))
    refine wpAnyH_ready (rs := [20]) (by kernel_rfl) (by simp) (AllReadyH.cons rfl (fun K hK => ?_) AllReadyH.nil)
    have hl := run_str_of_bytes (P := Tryd.prog) y5 25 9 5 Tryd.underlying25 Tryd.underlying5 Tryd.underlying9 (some ⟨gg, 0, none⟩) m_given.length cg m_given rfl HSG.out
    go_simp
    refine hK.out _ _ HN5 (fun HN6 => ?_)
    clear hK K hl
    refine' tkH (i := 21) (v := .bool true) rfl (Or.inl ⟨by rfl, ?hyu1021⟩) HN6 ?restu1021
    case hyu1021 =>
      intro w' hSw
      have s1 := hSw
      go_simp
      try rfl
    (try simp only [Act.put, List.getElem_toArray, List.getElem_cons_succ, List.getElem_cons_zero, List.setIfInBounds_toArray, List.set_cons_zero, List.set_cons_succ])
    refine' tkH (i := 22) (v := _) rfl (Or.inl ⟨by rfl, ?hyu1122⟩) HN6 ?restu1122
    case hyu1122 =>
      intro w' hSw
      have s1 := hSw
      go_simp
      try with_reducible rfl
    (try simp only [Act.put, List.getElem_toArray, List.getElem_cons_succ, List.getElem_cons_zero, List.setIfInBounds_toArray, List.set_cons_zero, List.set_cons_succ])
    refine' tkH (i := 23) (v := _) rfl (Or.inl ⟨by rfl, ?hyu1123⟩) HN6 ?restu1123
    case hyu1123 =>
      intro w' hSw
      have s1 := hSw
      go_simp
      try with_reducible rfl
    (try simp only [Act.put, List.getElem_toArray, List.getElem_cons_succ, List.getElem_cons_zero, List.setIfInBounds_toArray, List.set_cons_zero, List.set_cons_succ])
    refine' tkH (i := 24) (v := .agg RC) rfl (Or.inl ⟨by rfl, ?hyu1224⟩) HN6 ?restu1224
    case hyu1224 =>
      intro w' hSw
      have s1 := hSw
      have hl := run_loadAt_rec w' q RC _ ((s1.block q (lt_of_block HX5.out) (by simp)).trans HX5.out) HRS.out
      simp [execOp, Act.eval, hl, Result.andThen]
    (try simp only [Act.put, List.getElem_toArray, List.getElem_cons_succ, List.getElem_cons_zero, List.setIfInBounds_toArray, List.set_cons_zero, List.set_cons_succ])
    refine wpAnyH_ready (rs := [25]) (by kernel_rfl) (by simp) (AllReadyH.cons rfl (fun K hK => ?_) AllReadyH.nil)
    go_simp
    refine (KL.out _ (HC5.out.trans HN6 (by simp)) (HFX.out.trans HN6 (by simp))).mono ?_
    rintro e y6 ⟨rfl, Cy6⟩
    go_simp
    refine hK.out _ _ (HN6.trans Cy6 (by simp)) (fun HN2 => ?_)
    clear hK K
    refine' tkH (i := 26) (v := _) rfl (Or.inl ⟨by rfl, ?hyu1326⟩) HN2 ?restu1326
    case hyu1326 =>
      intro w' hSw
      have s1 := hSw
      go_simp
      try with_reducible rfl
    (try simp only [Act.put, List.getElem_toArray, List.getElem_cons_succ, List.getElem_cons_zero, List.setIfInBounds_toArray, List.set_cons_zero, List.set_cons_succ])
    refine' tkH (i := 27) (v := _) rfl (Or.inl ⟨by rfl, ?hyu1327⟩) HN2 ?restu1327
    case hyu1327 =>
      intro w' hSw
      have s1 := hSw
      go_simp
      try with_reducible rfl
    (try simp only [Act.put, List.getElem_toArray, List.getElem_cons_succ, List.getElem_cons_zero, List.setIfInBounds_toArray, List.set_cons_zero, List.set_cons_succ])
    refine' tkH (i := 28) (v := _) rfl (Or.inl ⟨by rfl, ?hyu1428⟩) HN2 ?restu1428
    case hyu1428 =>
      intro w' hSw
      have s1 := hSw
      go_simp
      try with_reducible rfl
    refine wpAnyH_done (by kernel_rfl) ?_ _
    have HCF := Lib.hid (HC5.out.trans HN2 (by simp))
    go_wp2_with fail
    go_ret
    exact ⟨rfl, HCF.out⟩
  · go_simp
    refine (KT.out 121 8 (by decide) _).mono ?_
    rintro e y5 ⟨rfl, Cy5⟩
    go_simp
    refine hK.out _ _ (HN1.trans Cy5 (by simp)) (fun HN2 => ?_)
    clear hK K
    refine wpAnyH_ready (rs := [3, 6]) (by kernel_rfl) (by simp) (AllReadyH.cons rfl (fun K hK => ?_) (AllReadyH.cons rfl (fun K hK => ?_) AllReadyH.nil))
    · obtain ⟨g3, c3, x3, hr3, hc3, M3⟩ := run_bytes_of_str (P := Tryd.prog) y5 9 25 5 (many 120 16) Tryd.underlying9 Tryd.underlying25 Tryd.underlying5
      rw [show (many 120 16).size = 16 from rfl] at hr3 hc3
      have HS3 := Lib.hid (show PV x3 [] (.slice (some ⟨g3, 0, none⟩) 16 c3) m_x16 from ⟨_, _, rfl, M3.src, hc3, (fun h => by cases h), fun _ a ha => by
        cases ha
        exact ⟨List.not_mem_nil, M3.new.2⟩⟩)
      have HM3 := Lib.hid M3.chg
      clear M3
      go_simp
      refine hK.out _ _ (HN2.trans HM3.out (by simp)) (fun HN3 => ?_)
      clear hK K hr3
      refine' tkH (i := 4) (v := _) rfl (Or.inl ⟨by rfl, ?hyu154⟩) HN3 ?restu154
      case hyu154 =>
        intro w' hSw
        have s1 := hSw
        go_simp
        try with_reducible rfl
      (try simp only [Act.put, List.getElem_toArray, List.getElem_cons_succ, List.getElem_cons_zero, List.setIfInBounds_toArray, List.set_cons_zero, List.set_cons_succ])
      refine wpAnyH_ready (rs := [6]) (by kernel_rfl) (by simp) (AllReadyH.cons rfl (fun K hK => ?_) AllReadyH.nil)
      obtain ⟨g6, c6, x6, hr6, hc6, M6⟩ := run_bytes_of_str (P := Tryd.prog) x3 9 25 5 (many 121 8) Tryd.underlying9 Tryd.underlying25 Tryd.underlying5
      rw [show (many 121 8).size = 8 from rfl] at hr6 hc6
      have HS6 := Lib.hid (show PV x6 [] (.slice (some ⟨g6, 0, none⟩) 8 c6) m_y8 from ⟨_, _, rfl, M6.src, hc6, (fun h => by cases h), fun _ a ha => by
        cases ha
        exact ⟨List.not_mem_nil, M6.new.2⟩⟩)
      have HM6 := Lib.hid M6.chg
      clear M6
      go_simp
      refine hK.out _ _ (HN3.trans HM6.out (by simp)) (fun HN4 => ?_)
      clear hK K hr6
      refine' tkH (i := 7) (v := _) rfl (Or.inl ⟨by rfl, ?hyu167⟩) HN4 ?restu167
      case hyu167 =>
        intro w' hSw
        have s1 := hSw
        go_simp
        try with_reducible rfl
      (try simp only [Act.put, List.getElem_toArray, List.getElem_cons_succ, List.getElem_cons_zero, List.setIfInBounds_toArray, List.set_cons_zero, List.set_cons_succ])
      have hb2 := run_two_gots 0 2 (some ⟨g3, 0, none⟩) 16 c3 (some ⟨g6, 0, none⟩) 8 c6 x6
      have HP3 := Lib.hid (HS3.out.chg (show Chg [] x3 x6 from HM6.out) (by simp))
      have HP6 := Lib.hid (HS6.out.chg (show Chg [] x6 x6 from Chg.refl _ _) (by simp))
      have hxg := heap_alloc_new x6 (.cells #[.int .i64 0, .slice (some ⟨g3, 0, none⟩) 16 c3, .int .i64 2, .slice (some ⟨g6, 0, none⟩) 8 c6] 104)
      have CG := Chg.alloc [] x6 (.cells #[.int .i64 0, .slice (some ⟨g3, 0, none⟩) 16 c3, .int .i64 2, .slice (some ⟨g6, 0, none⟩) 8 c6] 104)
      have HGA := Lib.hid (gots_two HP3.out HP6.out)
      refine wpAnyH_ready (rs := [8]) (by kernel_rfl) (by simp) (AllReadyH.cons rfl (fun K hK => ?_) AllReadyH.nil)
      go_simp
      refine hK.out _ _ (HN4.trans CG (by simp)) (fun HG => ?_)
      clear hK K hb2
      obtain ⟨qg, hqg⟩ : ∃ qg, x6.heap.size = qg := ⟨_, rfl⟩
      rw [hqg] at HGA ⊢
      generalize x6.alloc (.cells #[.int .i64 0, .slice (some ⟨g3, 0, none⟩) 16 c3, .int .i64 2, .slice (some ⟨g6, 0, none⟩) 8 c6] 104) = xg at *
      clear hxg CG hqg HP3 HP6 HS3 HS6
      refine wpAnyH_ready (rs := [9]) (by kernel_rfl) (by simp) (AllReadyH.cons rfl (fun K hK => ?_) AllReadyH.nil)
      have KBB := Lib.hid (KB.out (some ⟨g3, 0, none⟩) c3 (some ⟨g6, 0, none⟩) c6 qg xg (HC4.out.trans HG (by simp)) HG (HPL.out.chg HG (by simp)) HGA.out)
      go_simp
      refine KBB.out.mono ?_
      rintro e xf ⟨Cf, bo, bc, no, nc, rfl, hbo, _, _, _⟩
      have HBO := Lib.hid hbo
      go_simp
      refine hK.out _ _ (HG.trans Cf (by simp)) (fun HF => ?_)
      clear hK K Cf hbo KBB HGA
      refine' tkH (i := 10) (v := _) rfl (Or.inl ⟨by rfl, ?hyu1710⟩) HF ?restu1710
      case hyu1710 =>
        intro w' hSw
        have s1 := hSw
        go_simp
        try with_reducible rfl
      (try simp only [Act.put, List.getElem_toArray, List.getElem_cons_succ, List.getElem_cons_zero, List.setIfInBounds_toArray, List.set_cons_zero, List.set_cons_succ])
      refine' tkH (i := 11) (v := _) rfl (Or.inl ⟨by rfl, ?hyu1711⟩) HF ?restu1711
      case hyu1711 =>
        intro w' hSw
        have s1 := hSw
        go_simp
        try with_reducible rfl
      (try simp only [Act.put, List.getElem_toArray, List.getElem_cons_succ, List.getElem_cons_zero, List.setIfInBounds_toArray, List.set_cons_zero, List.set_cons_succ])
      refine' tkH (i := 12) (v := _) rfl (Or.inl ⟨by rfl, ?hyu1712⟩) HF ?restu1712
      case hyu1712 =>
        intro w' hSw
        have s1 := hSw
        go_simp
        try with_reducible rfl
      (try simp only [Act.put, List.getElem_toArray, List.getElem_cons_succ, List.getElem_cons_zero, List.setIfInBounds_toArray, List.set_cons_zero, List.set_cons_succ])
      refine' tkH (i := 13) (v := _) rfl (Or.inl ⟨by rfl, ?hyu1713⟩) HF ?restu1713
      case hyu1713 =>
        intro w' hSw
        have s1 := hSw
        go_simp
        try with_reducible rfl
      (try simp only [Act.put, List.getElem_toArray, List.getElem_cons_succ, List.getElem_cons_zero, List.setIfInBounds_toArray, List.set_cons_zero, List.set_cons_succ])
      refine' tkH (i := 14) (v := _) rfl (Or.inl ⟨by rfl, ?hyu1714⟩) HF ?restu1714
      case hyu1714 =>
        intro w' hSw
        have s1 := hSw
        go_simp
        try with_reducible rfl
      (try simp only [Act.put, List.getElem_toArray, List.getElem_cons_succ, List.getElem_cons_zero, List.setIfInBounds_toArray, List.set_cons_zero, List.set_cons_succ])
      refine' tkH (i := 15) (v := _) rfl (Or.inl ⟨by rfl, ?hyu1715⟩) HF ?restu1715
      case hyu1715 =>
        intro w' hSw
        have s1 := hSw
        go_simp
        try with_reducible rfl
      (try simp only [Act.put, List.getElem_toArray, List.getElem_cons_succ, List.getElem_cons_zero, List.setIfInBounds_toArray, List.set_cons_zero, List.set_cons_succ])
      refine' tkH (i := 16) (v := _) rfl (Or.inl ⟨by rfl, ?hyu1716⟩) HF ?restu1716
      case hyu1716 =>
        intro w' hSw
        have s1 := hSw
        go_simp
        try with_reducible rfl
      (try simp only [Act.put, List.getElem_toArray, List.getElem_cons_succ, List.getElem_cons_zero, List.setIfInBounds_toArray, List.set_cons_zero, List.set_cons_succ])
      refine wpAnyH_done (by kernel_rfl) ?_ _
      have HC5 := Lib.hid (HC4.out.trans HF (by simp))
      have HFX := Lib.hid HF
      have HX5 := Lib.hid ((HF.block q (lt_of_block HX4.out) (by simp)).trans HX4.out)
      have HP5 := Lib.hid (HPL.out.chg HF (by simp))
      have HBS := Lib.hid (ownsRow_src HBO.out)
      go_upto_region 4 with (fail)
      refine wp_region_held_drew (S := fun w' => Chg [] xf w') (by kernel_rfl) (Chg.drewN [] xf 1) (fun Q0 => ?_)
      refine' tkH (i := 0) (v := _) rfl (Or.inl ⟨by rfl, ?hyu180⟩) Q0 ?restu180
      case hyu180 =>
        intro w' hSw
        have s1 := hSw
        go_simp
        try with_reducible rfl
      (try simp only [Act.put, List.getElem_toArray, List.getElem_cons_zero, List.setIfInBounds_toArray, List.set_cons_zero, List.set_cons_succ])
      refine' tkH (i := 1) (v := _) rfl (Or.inl ⟨by rfl, ?hyu181⟩) Q0 ?restu181
      case hyu181 =>
        intro w' hSw
        have s1 := hSw
        go_simp
        try with_reducible rfl
      (try simp only [Act.put, List.getElem_toArray, List.getElem_cons_succ, List.getElem_cons_zero, List.setIfInBounds_toArray, List.set_cons_zero, List.set_cons_succ])
      refine' tkH (i := 2) (v := _) rfl (Or.inl ⟨by rfl, ?hyu182⟩) Q0 ?restu182
      case hyu182 =>
        intro w' hSw
        have s1 := hSw
        go_simp
        try with_reducible rfl
      (try simp only [Act.put, List.getElem_toArray, List.getElem_cons_succ, List.getElem_cons_zero, List.setIfInBounds_toArray, List.set_cons_zero, List.set_cons_succ])
      refine' tkH (i := 3) (v := _) rfl (Or.inl ⟨by rfl, ?hyu183⟩) Q0 ?restu183
      case hyu183 =>
        intro w' hSw
        have s1 := hSw
        go_simp
        try with_reducible rfl
      (try simp only [Act.put, List.getElem_toArray, List.getElem_cons_succ, List.getElem_cons_zero, List.setIfInBounds_toArray, List.set_cons_zero, List.set_cons_succ])
      refine wpAnyH_ready (rs := [4]) (by kernel_rfl) (by simp) (AllReadyH.cons rfl (fun K hK => ?_) AllReadyH.nil)
      go_simp
      refine (KF.out _ (HC5.out.trans Q0 (by simp)) (HP5.out.chg Q0 (by simp))).mono ?_
      rintro e y4 ⟨rfl, Cy4⟩
      go_simp
      refine hK.out _ _ (Q0.trans Cy4 (by simp)) (fun HN1 => ?_)
      clear hK K
      refine' tkH (i := 5) (v := .bool true) rfl (Or.inl ⟨by rfl, ?hyu195⟩) HN1 ?restu195
      case hyu195 =>
        intro w' hSw
        have s1 := hSw
        go_simp
        try rfl
      (try simp only [Act.put, List.getElem_toArray, List.getElem_cons_succ, List.getElem_cons_zero, List.setIfInBounds_toArray, List.set_cons_zero, List.set_cons_succ])
      refine' tkH (i := 6) (v := _) rfl (Or.inl ⟨by rfl, ?hyu206⟩) HN1 ?restu206
      case hyu206 =>
        intro w' hSw
        have s1 := hSw
        go_simp
        try with_reducible rfl
      (try simp only [Act.put, List.getElem_toArray, List.getElem_cons_succ, List.getElem_cons_zero, List.setIfInBounds_toArray, List.set_cons_zero, List.set_cons_succ])
      refine' tkH (i := 7) (v := _) rfl (Or.inl ⟨by rfl, ?hyu207⟩) HN1 ?restu207
      case hyu207 =>
        intro w' hSw
        have s1 := hSw
        go_simp
        try with_reducible rfl
      (try simp only [Act.put, List.getElem_toArray, List.getElem_cons_succ, List.getElem_cons_zero, List.setIfInBounds_toArray, List.set_cons_zero, List.set_cons_succ])
      refine' tkH (i := 8) (v := _) rfl (Or.inl ⟨by rfl, ?hyu208⟩) HN1 ?restu208
      case hyu208 =>
        intro w' hSw
        have s1 := hSw
        go_simp
        try with_reducible rfl
      (try simp only [Act.put, List.getElem_toArray, List.getElem_cons_succ, List.getElem_cons_zero, List.setIfInBounds_toArray, List.set_cons_zero, List.set_cons_succ])
      refine' tkH (i := 9) (v := _) rfl (Or.inl ⟨by rfl, ?hyu209⟩) HN1 ?restu209
      case hyu209 =>
        intro w' hSw
        have s1 := hSw
        go_simp
        try with_reducible rfl
      (try simp only [Act.put, List.getElem_toArray, List.getElem_cons_succ, List.getElem_cons_zero, List.setIfInBounds_toArray, List.set_cons_zero, List.set_cons_succ])
      refine' tkH (i := 10) (v := _) rfl (Or.inl ⟨by rfl, ?hyu2010⟩) HN1 ?restu2010
      case hyu2010 =>
        intro w' hSw
        have s1 := hSw
        go_simp
        try with_reducible rfl
      (try simp only [Act.put, List.getElem_toArray, List.getElem_cons_succ, List.getElem_cons_zero, List.setIfInBounds_toArray, List.set_cons_zero, List.set_cons_succ])
      refine' tkH (i := 11) (v := _) rfl (Or.inl ⟨by rfl, ?hyu2011⟩) HN1 ?restu2011
      case hyu2011 =>
        intro w' hSw
        have s1 := hSw
        go_simp
        try with_reducible rfl
      (try simp only [Act.put, List.getElem_toArray, List.getElem_cons_succ, List.getElem_cons_zero, List.setIfInBounds_toArray, List.set_cons_zero, List.set_cons_succ])
      refine' tkH (i := 12) (v := _) rfl (Or.inl ⟨by rfl, ?hyu2012⟩) HN1 ?restu2012
      case hyu2012 =>
        intro w' hSw
        have s1 := hSw
        go_simp
        try with_reducible rfl
      (try simp only [Act.put, List.getElem_toArray, List.getElem_cons_succ, List.getElem_cons_zero, List.setIfInBounds_toArray, List.set_cons_zero, List.set_cons_succ])
      refine' tkH (i := 13) (v := _) rfl (Or.inl ⟨by rfl, ?hyu2013⟩) HN1 ?restu2013
      case hyu2013 =>
        intro w' hSw
        have s1 := hSw
        go_simp
        try with_reducible rfl
      (try simp only [Act.put, List.getElem_toArray, List.getElem_cons_succ, List.getElem_cons_zero, List.setIfInBounds_toArray, List.set_cons_zero, List.set_cons_succ])
      refine' tkH (i := 14) (v := _) rfl (Or.inl ⟨by rfl, ?hyu2014⟩) HN1 ?restu2014
      case hyu2014 =>
        intro w' hSw
        have s1 := hSw
        go_simp
        try with_reducible rfl
      (try simp only [Act.put, List.getElem_toArray, List.getElem_cons_succ, List.getElem_cons_zero, List.setIfInBounds_toArray, List.set_cons_zero, List.set_cons_succ])
      refine' tkH (i := 15) (v := _) rfl (Or.inl ⟨by rfl, ?hyu2015⟩) HN1 ?restu2015
      case hyu2015 =>
        intro w' hSw
        have s1 := hSw
        go_simp
        try with_reducible rfl
      (try simp only [Act.put, List.getElem_toArray, List.getElem_cons_succ, List.getElem_cons_zero, List.setIfInBounds_toArray, List.set_cons_zero, List.set_cons_succ])
      refine' tkH (i := 16) (v := _) rfl (Or.inl ⟨by rfl, ?hyu2016⟩) HN1 ?restu2016
      case hyu2016 =>
        intro w' hSw
        have s1 := hSw
        go_simp
        try with_reducible rfl
      (try simp only [Act.put, List.getElem_toArray, List.getElem_cons_succ, List.getElem_cons_zero, List.setIfInBounds_toArray, List.set_cons_zero, List.set_cons_succ])
      refine' tkH (i := 17) (v := _) rfl (Or.inl ⟨by rfl, ?hyu2017⟩) HN1 ?restu2017
      case hyu2017 =>
        intro w' hSw
        have s1 := hSw
        go_simp
        try with_reducible rfl
      (try simp only [Act.put, List.getElem_toArray, List.getElem_cons_succ, List.getElem_cons_zero, List.setIfInBounds_toArray, List.set_cons_zero, List.set_cons_succ])
      refine' tkH (i := 18) (v := .string ⟨m_given.toArray⟩) rfl (Or.inl ⟨by rfl, ?hyu2118⟩) HN1 ?restu2118
      case hyu2118 =>
        intro w' hSw
        have s1 := hSw
        have hl := run_str_of_bytes (P := Tryd.prog) w' 25 9 5 Tryd.underlying25 Tryd.underlying5 Tryd.underlying9 bo m_given.length bc m_given rfl (HBS.out.chg s1 (by simp))
        simp [execOp, Act.eval, hl, Result.andThen]
      (try simp only [Act.put, List.getElem_toArray, List.getElem_cons_succ, List.getElem_cons_zero, List.setIfInBounds_toArray, List.set_cons_zero, List.set_cons_succ])
      refine wpAnyH_ready (rs := [19]) (by kernel_rfl) (by simp) (AllReadyH.cons rfl (fun K hK => ?_) AllReadyH.nil)
      go_simp
      refine (KG.out _).mono ?_
      rintro e y5 ⟨gg, cg, rfl, _, hsg, _, _, C5⟩
      have HSG := Lib.hid hsg
      go_simp
      refine hK.out _ _ (HN1.trans C5 (by simp)) (fun HN5 => ?_)
      clear hK K hsg
      have HSG2 : Hid (∀ w', Chg [] y5 w' → Src w' (some ⟨gg, 0, none⟩) (bvs m_given)) := Lib.hid (fun w' C => HSG.out.chg C (by simp))
      refine wpAnyH_ready (rs := [20]) (by kernel_rfl) (by simp) (AllReadyH.cons rfl (fun K hK => ?_) AllReadyH.nil)
      have hl := run_str_of_bytes (P := Tryd.prog) y5 25 9 5 Tryd.underlying25 Tryd.underlying5 Tryd.underlying9 (some ⟨gg, 0, none⟩) m_given.length cg m_given rfl HSG.out
      go_simp
      refine hK.out _ _ HN5 (fun HN6 => ?_)
      clear hK K hl
      refine' tkH (i := 21) (v := .bool true) rfl (Or.inl ⟨by rfl, ?hyu2221⟩) HN6 ?restu2221
      case hyu2221 =>
        intro w' hSw
        have s1 := hSw
        go_simp
        try rfl
      (try simp only [Act.put, List.getElem_toArray, List.getElem_cons_succ, List.getElem_cons_zero, List.setIfInBounds_toArray, List.set_cons_zero, List.set_cons_succ])
      refine' tkH (i := 22) (v := _) rfl (Or.inl ⟨by rfl, ?hyu2322⟩) HN6 ?restu2322
      case hyu2322 =>
        intro w' hSw
        have s1 := hSw
        go_simp
        try with_reducible rfl
      (try simp only [Act.put, List.getElem_toArray, List.getElem_cons_succ, List.getElem_cons_zero, List.setIfInBounds_toArray, List.set_cons_zero, List.set_cons_succ])
      refine' tkH (i := 23) (v := _) rfl (Or.inl ⟨by rfl, ?hyu2323⟩) HN6 ?restu2323
      case hyu2323 =>
        intro w' hSw
        have s1 := hSw
        go_simp
        try with_reducible rfl
      (try simp only [Act.put, List.getElem_toArray, List.getElem_cons_succ, List.getElem_cons_zero, List.setIfInBounds_toArray, List.set_cons_zero, List.set_cons_succ])
      refine' tkH (i := 24) (v := .agg RC) rfl (Or.inl ⟨by rfl, ?hyu2424⟩) HN6 ?restu2424
      case hyu2424 =>
        intro w' hSw
        have s1 := hSw
        have hl := run_loadAt_rec w' q RC _ ((s1.block q (lt_of_block HX5.out) (by simp)).trans HX5.out) HRS.out
        simp [execOp, Act.eval, hl, Result.andThen]
      (try simp only [Act.put, List.getElem_toArray, List.getElem_cons_succ, List.getElem_cons_zero, List.setIfInBounds_toArray, List.set_cons_zero, List.set_cons_succ])
      refine wpAnyH_ready (rs := [25]) (by kernel_rfl) (by simp) (AllReadyH.cons rfl (fun K hK => ?_) AllReadyH.nil)
      go_simp
      refine (KL.out _ (HC5.out.trans HN6 (by simp)) (HFX.out.trans HN6 (by simp))).mono ?_
      rintro e y6 ⟨rfl, Cy6⟩
      go_simp
      refine hK.out _ _ (HN6.trans Cy6 (by simp)) (fun HN2 => ?_)
      clear hK K
      refine' tkH (i := 26) (v := _) rfl (Or.inl ⟨by rfl, ?hyu2526⟩) HN2 ?restu2526
      case hyu2526 =>
        intro w' hSw
        have s1 := hSw
        go_simp
        try with_reducible rfl
      (try simp only [Act.put, List.getElem_toArray, List.getElem_cons_succ, List.getElem_cons_zero, List.setIfInBounds_toArray, List.set_cons_zero, List.set_cons_succ])
      refine' tkH (i := 27) (v := _) rfl (Or.inl ⟨by rfl, ?hyu2527⟩) HN2 ?restu2527
      case hyu2527 =>
        intro w' hSw
        have s1 := hSw
        go_simp
        try with_reducible rfl
      (try simp only [Act.put, List.getElem_toArray, List.getElem_cons_succ, List.getElem_cons_zero, List.setIfInBounds_toArray, List.set_cons_zero, List.set_cons_succ])
      refine' tkH (i := 28) (v := _) rfl (Or.inl ⟨by rfl, ?hyu2628⟩) HN2 ?restu2628
      case hyu2628 =>
        intro w' hSw
        have s1 := hSw
        go_simp
        try with_reducible rfl
      refine wpAnyH_done (by kernel_rfl) ?_ _
      have HCF := Lib.hid (HC5.out.trans HN2 (by simp))
      go_wp2_with fail
      go_ret
      exact ⟨rfl, HCF.out⟩
    · obtain ⟨g6, c6, x6, hr6, hc6, M6⟩ := run_bytes_of_str (P := Tryd.prog) y5 9 25 5 (many 121 8) Tryd.underlying9 Tryd.underlying25 Tryd.underlying5
      rw [show (many 121 8).size = 8 from rfl] at hr6 hc6
      have HS6 := Lib.hid (show PV x6 [] (.slice (some ⟨g6, 0, none⟩) 8 c6) m_y8 from ⟨_, _, rfl, M6.src, hc6, (fun h => by cases h), fun _ a ha => by
        cases ha
        exact ⟨List.not_mem_nil, M6.new.2⟩⟩)
      have HM6 := Lib.hid M6.chg
      clear M6
      go_simp
      refine hK.out _ _ (HN2.trans HM6.out (by simp)) (fun HN3 => ?_)
      clear hK K hr6
      refine' tkH (i := 7) (v := _) rfl (Or.inl ⟨by rfl, ?hyu277⟩) HN3 ?restu277
      case hyu277 =>
        intro w' hSw
        have s1 := hSw
        go_simp
        try with_reducible rfl
      (try simp only [Act.put, List.getElem_toArray, List.getElem_cons_succ, List.getElem_cons_zero, List.setIfInBounds_toArray, List.set_cons_zero, List.set_cons_succ])
      refine wpAnyH_ready (rs := [3]) (by kernel_rfl) (by simp) (AllReadyH.cons rfl (fun K hK => ?_) AllReadyH.nil)
      obtain ⟨g3, c3, x3, hr3, hc3, M3⟩ := run_bytes_of_str (P := Tryd.prog) x6 9 25 5 (many 120 16) Tryd.underlying9 Tryd.underlying25 Tryd.underlying5
      rw [show (many 120 16).size = 16 from rfl] at hr3 hc3
      have HS3 := Lib.hid (show PV x3 [] (.slice (some ⟨g3, 0, none⟩) 16 c3) m_x16 from ⟨_, _, rfl, M3.src, hc3, (fun h => by cases h), fun _ a ha => by
        cases ha
        exact ⟨List.not_mem_nil, M3.new.2⟩⟩)
      have HM3 := Lib.hid M3.chg
      clear M3
      go_simp
      refine hK.out _ _ (HN3.trans HM3.out (by simp)) (fun HN4 => ?_)
      clear hK K hr3
      refine' tkH (i := 4) (v := _) rfl (Or.inl ⟨by rfl, ?hyu284⟩) HN4 ?restu284
      case hyu284 =>
        intro w' hSw
        have s1 := hSw
        go_simp
        try with_reducible rfl
      (try simp only [Act.put, List.getElem_toArray, List.getElem_cons_succ, List.getElem_cons_zero, List.setIfInBounds_toArray, List.set_cons_zero, List.set_cons_succ])
      have hb2 := run_two_gots 0 2 (some ⟨g3, 0, none⟩) 16 c3 (some ⟨g6, 0, none⟩) 8 c6 x3
      have HP3 := Lib.hid (HS3.out.chg (show Chg [] x3 x3 from Chg.refl _ _) (by simp))
      have HP6 := Lib.hid (HS6.out.chg (show Chg [] x6 x3 from HM3.out) (by simp))
      have hxg := heap_alloc_new x3 (.cells #[.int .i64 0, .slice (some ⟨g3, 0, none⟩) 16 c3, .int .i64 2, .slice (some ⟨g6, 0, none⟩) 8 c6] 104)
      have CG := Chg.alloc [] x3 (.cells #[.int .i64 0, .slice (some ⟨g3, 0, none⟩) 16 c3, .int .i64 2, .slice (some ⟨g6, 0, none⟩) 8 c6] 104)
      have HGA := Lib.hid (gots_two HP3.out HP6.out)
      refine wpAnyH_ready (rs := [8]) (by kernel_rfl) (by simp) (AllReadyH.cons rfl (fun K hK => ?_) AllReadyH.nil)
      go_simp
      refine hK.out _ _ (HN4.trans CG (by simp)) (fun HG => ?_)
      clear hK K hb2
      obtain ⟨qg, hqg⟩ : ∃ qg, x3.heap.size = qg := ⟨_, rfl⟩
      rw [hqg] at HGA ⊢
      generalize x3.alloc (.cells #[.int .i64 0, .slice (some ⟨g3, 0, none⟩) 16 c3, .int .i64 2, .slice (some ⟨g6, 0, none⟩) 8 c6] 104) = xg at *
      clear hxg CG hqg HP3 HP6 HS3 HS6
      refine wpAnyH_ready (rs := [9]) (by kernel_rfl) (by simp) (AllReadyH.cons rfl (fun K hK => ?_) AllReadyH.nil)
      have KBB := Lib.hid (KB.out (some ⟨g3, 0, none⟩) c3 (some ⟨g6, 0, none⟩) c6 qg xg (HC4.out.trans HG (by simp)) HG (HPL.out.chg HG (by simp)) HGA.out)
      go_simp
      refine KBB.out.mono ?_
      rintro e xf ⟨Cf, bo, bc, no, nc, rfl, hbo, _, _, _⟩
      have HBO := Lib.hid hbo
      go_simp
      refine hK.out _ _ (HG.trans Cf (by simp)) (fun HF => ?_)
      clear hK K Cf hbo KBB HGA
      refine' tkH (i := 10) (v := _) rfl (Or.inl ⟨by rfl, ?hyu2910⟩) HF ?restu2910
      case hyu2910 =>
        intro w' hSw
        have s1 := hSw
        go_simp
        try with_reducible rfl
      (try simp only [Act.put, List.getElem_toArray, List.getElem_cons_succ, List.getElem_cons_zero, List.setIfInBounds_toArray, List.set_cons_zero, List.set_cons_succ])
      refine' tkH (i := 11) (v := _) rfl (Or.inl ⟨by rfl, ?hyu2911⟩) HF ?restu2911
      case hyu2911 =>
        intro w' hSw
        have s1 := hSw
        go_simp
        try with_reducible rfl
      (try simp only [Act.put, List.getElem_toArray, List.getElem_cons_succ, List.getElem_cons_zero, List.setIfInBounds_toArray, List.set_cons_zero, List.set_cons_succ])
      refine' tkH (i := 12) (v := _) rfl (Or.inl ⟨by rfl, ?hyu2912⟩) HF ?restu2912
      case hyu2912 =>
        intro w' hSw
        have s1 := hSw
        go_simp
        try with_reducible rfl
      (try simp only [Act.put, List.getElem_toArray, List.getElem_cons_succ, List.getElem_cons_zero, List.setIfInBounds_toArray, List.set_cons_zero, List.set_cons_succ])
      refine' tkH (i := 13) (v := _) rfl (Or.inl ⟨by rfl, ?hyu2913⟩) HF ?restu2913
      case hyu2913 =>
        intro w' hSw
        have s1 := hSw
        go_simp
        try with_reducible rfl
      (try simp only [Act.put, List.getElem_toArray, List.getElem_cons_succ, List.getElem_cons_zero, List.setIfInBounds_toArray, List.set_cons_zero, List.set_cons_succ])
      refine' tkH (i := 14) (v := _) rfl (Or.inl ⟨by rfl, ?hyu2914⟩) HF ?restu2914
      case hyu2914 =>
        intro w' hSw
        have s1 := hSw
        go_simp
        try with_reducible rfl
      (try simp only [Act.put, List.getElem_toArray, List.getElem_cons_succ, List.getElem_cons_zero, List.setIfInBounds_toArray, List.set_cons_zero, List.set_cons_succ])
      refine' tkH (i := 15) (v := _) rfl (Or.inl ⟨by rfl, ?hyu2915⟩) HF ?restu2915
      case hyu2915 =>
        intro w' hSw
        have s1 := hSw
        go_simp
        try with_reducible rfl
      (try simp only [Act.put, List.getElem_toArray, List.getElem_cons_succ, List.getElem_cons_zero, List.setIfInBounds_toArray, List.set_cons_zero, List.set_cons_succ])
      refine' tkH (i := 16) (v := _) rfl (Or.inl ⟨by rfl, ?hyu2916⟩) HF ?restu2916
      case hyu2916 =>
        intro w' hSw
        have s1 := hSw
        go_simp
        try with_reducible rfl
      (try simp only [Act.put, List.getElem_toArray, List.getElem_cons_succ, List.getElem_cons_zero, List.setIfInBounds_toArray, List.set_cons_zero, List.set_cons_succ])
      refine wpAnyH_done (by kernel_rfl) ?_ _
      have HC5 := Lib.hid (HC4.out.trans HF (by simp))
      have HFX := Lib.hid HF
      have HX5 := Lib.hid ((HF.block q (lt_of_block HX4.out) (by simp)).trans HX4.out)
      have HP5 := Lib.hid (HPL.out.chg HF (by simp))
      have HBS := Lib.hid (ownsRow_src HBO.out)
      go_upto_region 4 with (fail)
      refine wp_region_held_drew (S := fun w' => Chg [] xf w') (by kernel_rfl) (Chg.drewN [] xf 1) (fun Q0 => ?_)
      refine' tkH (i := 0) (v := _) rfl (Or.inl ⟨by rfl, ?hyu300⟩) Q0 ?restu300
      case hyu300 =>
        intro w' hSw
        have s1 := hSw
        go_simp
        try with_reducible rfl
      (try simp only [Act.put, List.getElem_toArray, List.getElem_cons_zero, List.setIfInBounds_toArray, List.set_cons_zero, List.set_cons_succ])
      refine' tkH (i := 1) (v := _) rfl (Or.inl ⟨by rfl, ?hyu301⟩) Q0 ?restu301
      case hyu301 =>
        intro w' hSw
        have s1 := hSw
        go_simp
        try with_reducible rfl
      (try simp only [Act.put, List.getElem_toArray, List.getElem_cons_succ, List.getElem_cons_zero, List.setIfInBounds_toArray, List.set_cons_zero, List.set_cons_succ])
      refine' tkH (i := 2) (v := _) rfl (Or.inl ⟨by rfl, ?hyu302⟩) Q0 ?restu302
      case hyu302 =>
        intro w' hSw
        have s1 := hSw
        go_simp
        try with_reducible rfl
      (try simp only [Act.put, List.getElem_toArray, List.getElem_cons_succ, List.getElem_cons_zero, List.setIfInBounds_toArray, List.set_cons_zero, List.set_cons_succ])
      refine' tkH (i := 3) (v := _) rfl (Or.inl ⟨by rfl, ?hyu303⟩) Q0 ?restu303
      case hyu303 =>
        intro w' hSw
        have s1 := hSw
        go_simp
        try with_reducible rfl
      (try simp only [Act.put, List.getElem_toArray, List.getElem_cons_succ, List.getElem_cons_zero, List.setIfInBounds_toArray, List.set_cons_zero, List.set_cons_succ])
      refine wpAnyH_ready (rs := [4]) (by kernel_rfl) (by simp) (AllReadyH.cons rfl (fun K hK => ?_) AllReadyH.nil)
      go_simp
      refine (KF.out _ (HC5.out.trans Q0 (by simp)) (HP5.out.chg Q0 (by simp))).mono ?_
      rintro e y4 ⟨rfl, Cy4⟩
      go_simp
      refine hK.out _ _ (Q0.trans Cy4 (by simp)) (fun HN1 => ?_)
      clear hK K
      refine' tkH (i := 5) (v := .bool true) rfl (Or.inl ⟨by rfl, ?hyu315⟩) HN1 ?restu315
      case hyu315 =>
        intro w' hSw
        have s1 := hSw
        go_simp
        try rfl
      (try simp only [Act.put, List.getElem_toArray, List.getElem_cons_succ, List.getElem_cons_zero, List.setIfInBounds_toArray, List.set_cons_zero, List.set_cons_succ])
      refine' tkH (i := 6) (v := _) rfl (Or.inl ⟨by rfl, ?hyu326⟩) HN1 ?restu326
      case hyu326 =>
        intro w' hSw
        have s1 := hSw
        go_simp
        try with_reducible rfl
      (try simp only [Act.put, List.getElem_toArray, List.getElem_cons_succ, List.getElem_cons_zero, List.setIfInBounds_toArray, List.set_cons_zero, List.set_cons_succ])
      refine' tkH (i := 7) (v := _) rfl (Or.inl ⟨by rfl, ?hyu327⟩) HN1 ?restu327
      case hyu327 =>
        intro w' hSw
        have s1 := hSw
        go_simp
        try with_reducible rfl
      (try simp only [Act.put, List.getElem_toArray, List.getElem_cons_succ, List.getElem_cons_zero, List.setIfInBounds_toArray, List.set_cons_zero, List.set_cons_succ])
      refine' tkH (i := 8) (v := _) rfl (Or.inl ⟨by rfl, ?hyu328⟩) HN1 ?restu328
      case hyu328 =>
        intro w' hSw
        have s1 := hSw
        go_simp
        try with_reducible rfl
      (try simp only [Act.put, List.getElem_toArray, List.getElem_cons_succ, List.getElem_cons_zero, List.setIfInBounds_toArray, List.set_cons_zero, List.set_cons_succ])
      refine' tkH (i := 9) (v := _) rfl (Or.inl ⟨by rfl, ?hyu329⟩) HN1 ?restu329
      case hyu329 =>
        intro w' hSw
        have s1 := hSw
        go_simp
        try with_reducible rfl
      (try simp only [Act.put, List.getElem_toArray, List.getElem_cons_succ, List.getElem_cons_zero, List.setIfInBounds_toArray, List.set_cons_zero, List.set_cons_succ])
      refine' tkH (i := 10) (v := _) rfl (Or.inl ⟨by rfl, ?hyu3210⟩) HN1 ?restu3210
      case hyu3210 =>
        intro w' hSw
        have s1 := hSw
        go_simp
        try with_reducible rfl
      (try simp only [Act.put, List.getElem_toArray, List.getElem_cons_succ, List.getElem_cons_zero, List.setIfInBounds_toArray, List.set_cons_zero, List.set_cons_succ])
      refine' tkH (i := 11) (v := _) rfl (Or.inl ⟨by rfl, ?hyu3211⟩) HN1 ?restu3211
      case hyu3211 =>
        intro w' hSw
        have s1 := hSw
        go_simp
        try with_reducible rfl
      (try simp only [Act.put, List.getElem_toArray, List.getElem_cons_succ, List.getElem_cons_zero, List.setIfInBounds_toArray, List.set_cons_zero, List.set_cons_succ])
      refine' tkH (i := 12) (v := _) rfl (Or.inl ⟨by rfl, ?hyu3212⟩) HN1 ?restu3212
      case hyu3212 =>
        intro w' hSw
        have s1 := hSw
        go_simp
        try with_reducible rfl
      (try simp only [Act.put, List.getElem_toArray, List.getElem_cons_succ, List.getElem_cons_zero, List.setIfInBounds_toArray, List.set_cons_zero, List.set_cons_succ])
      refine' tkH (i := 13) (v := _) rfl (Or.inl ⟨by rfl, ?hyu3213⟩) HN1 ?restu3213
      case hyu3213 =>
        intro w' hSw
        have s1 := hSw
        go_simp
        try with_reducible rfl
      (try simp only [Act.put, List.getElem_toArray, List.getElem_cons_succ, List.getElem_cons_zero, List.setIfInBounds_toArray, List.set_cons_zero, List.set_cons_succ])
      refine' tkH (i := 14) (v := _) rfl (Or.inl ⟨by rfl, ?hyu3214⟩) HN1 ?restu3214
      case hyu3214 =>
        intro w' hSw
        have s1 := hSw
        go_simp
        try with_reducible rfl
      (try simp only [Act.put, List.getElem_toArray, List.getElem_cons_succ, List.getElem_cons_zero, List.setIfInBounds_toArray, List.set_cons_zero, List.set_cons_succ])
      refine' tkH (i := 15) (v := _) rfl (Or.inl ⟨by rfl, ?hyu3215⟩) HN1 ?restu3215
      case hyu3215 =>
        intro w' hSw
        have s1 := hSw
        go_simp
        try with_reducible rfl
      (try simp only [Act.put, List.getElem_toArray, List.getElem_cons_succ, List.getElem_cons_zero, List.setIfInBounds_toArray, List.set_cons_zero, List.set_cons_succ])
      refine' tkH (i := 16) (v := _) rfl (Or.inl ⟨by rfl, ?hyu3216⟩) HN1 ?restu3216
      case hyu3216 =>
        intro w' hSw
        have s1 := hSw
        go_simp
        try with_reducible rfl
      (try simp only [Act.put, List.getElem_toArray, List.getElem_cons_succ, List.getElem_cons_zero, List.setIfInBounds_toArray, List.set_cons_zero, List.set_cons_succ])
      refine' tkH (i := 17) (v := _) rfl (Or.inl ⟨by rfl, ?hyu3217⟩) HN1 ?restu3217
      case hyu3217 =>
        intro w' hSw
        have s1 := hSw
        go_simp
        try with_reducible rfl
      (try simp only [Act.put, List.getElem_toArray, List.getElem_cons_succ, List.getElem_cons_zero, List.setIfInBounds_toArray, List.set_cons_zero, List.set_cons_succ])
      refine' tkH (i := 18) (v := .string ⟨m_given.toArray⟩) rfl (Or.inl ⟨by rfl, ?hyu3318⟩) HN1 ?restu3318
      case hyu3318 =>
        intro w' hSw
        have s1 := hSw
        have hl := run_str_of_bytes (P := Tryd.prog) w' 25 9 5 Tryd.underlying25 Tryd.underlying5 Tryd.underlying9 bo m_given.length bc m_given rfl (HBS.out.chg s1 (by simp))
        simp [execOp, Act.eval, hl, Result.andThen]
      (try simp only [Act.put, List.getElem_toArray, List.getElem_cons_succ, List.getElem_cons_zero, List.setIfInBounds_toArray, List.set_cons_zero, List.set_cons_succ])
      refine wpAnyH_ready (rs := [19]) (by kernel_rfl) (by simp) (AllReadyH.cons rfl (fun K hK => ?_) AllReadyH.nil)
      go_simp
      refine (KG.out _).mono ?_
      rintro e y5 ⟨gg, cg, rfl, _, hsg, _, _, C5⟩
      have HSG := Lib.hid hsg
      go_simp
      refine hK.out _ _ (HN1.trans C5 (by simp)) (fun HN5 => ?_)
      clear hK K hsg
      have HSG2 : Hid (∀ w', Chg [] y5 w' → Src w' (some ⟨gg, 0, none⟩) (bvs m_given)) := Lib.hid (fun w' C => HSG.out.chg C (by simp))
      refine wpAnyH_ready (rs := [20]) (by kernel_rfl) (by simp) (AllReadyH.cons rfl (fun K hK => ?_) AllReadyH.nil)
      have hl := run_str_of_bytes (P := Tryd.prog) y5 25 9 5 Tryd.underlying25 Tryd.underlying5 Tryd.underlying9 (some ⟨gg, 0, none⟩) m_given.length cg m_given rfl HSG.out
      go_simp
      refine hK.out _ _ HN5 (fun HN6 => ?_)
      clear hK K hl
      refine' tkH (i := 21) (v := .bool true) rfl (Or.inl ⟨by rfl, ?hyu3421⟩) HN6 ?restu3421
      case hyu3421 =>
        intro w' hSw
        have s1 := hSw
        go_simp
        try rfl
      (try simp only [Act.put, List.getElem_toArray, List.getElem_cons_succ, List.getElem_cons_zero, List.setIfInBounds_toArray, List.set_cons_zero, List.set_cons_succ])
      refine' tkH (i := 22) (v := _) rfl (Or.inl ⟨by rfl, ?hyu3522⟩) HN6 ?restu3522
      case hyu3522 =>
        intro w' hSw
        have s1 := hSw
        go_simp
        try with_reducible rfl
      (try simp only [Act.put, List.getElem_toArray, List.getElem_cons_succ, List.getElem_cons_zero, List.setIfInBounds_toArray, List.set_cons_zero, List.set_cons_succ])
      refine' tkH (i := 23) (v := _) rfl (Or.inl ⟨by rfl, ?hyu3523⟩) HN6 ?restu3523
      case hyu3523 =>
        intro w' hSw
        have s1 := hSw
        go_simp
        try with_reducible rfl
      (try simp only [Act.put, List.getElem_toArray, List.getElem_cons_succ, List.getElem_cons_zero, List.setIfInBounds_toArray, List.set_cons_zero, List.set_cons_succ])
      refine' tkH (i := 24) (v := .agg RC) rfl (Or.inl ⟨by rfl, ?hyu3624⟩) HN6 ?restu3624
      case hyu3624 =>
        intro w' hSw
        have s1 := hSw
        have hl := run_loadAt_rec w' q RC _ ((s1.block q (lt_of_block HX5.out) (by simp)).trans HX5.out) HRS.out
        simp [execOp, Act.eval, hl, Result.andThen]
      (try simp only [Act.put, List.getElem_toArray, List.getElem_cons_succ, List.getElem_cons_zero, List.setIfInBounds_toArray, List.set_cons_zero, List.set_cons_succ])
      refine wpAnyH_ready (rs := [25]) (by kernel_rfl) (by simp) (AllReadyH.cons rfl (fun K hK => ?_) AllReadyH.nil)
      go_simp
      refine (KL.out _ (HC5.out.trans HN6 (by simp)) (HFX.out.trans HN6 (by simp))).mono ?_
      rintro e y6 ⟨rfl, Cy6⟩
      go_simp
      refine hK.out _ _ (HN6.trans Cy6 (by simp)) (fun HN2 => ?_)
      clear hK K
      refine' tkH (i := 26) (v := _) rfl (Or.inl ⟨by rfl, ?hyu3726⟩) HN2 ?restu3726
      case hyu3726 =>
        intro w' hSw
        have s1 := hSw
        go_simp
        try with_reducible rfl
      (try simp only [Act.put, List.getElem_toArray, List.getElem_cons_succ, List.getElem_cons_zero, List.setIfInBounds_toArray, List.set_cons_zero, List.set_cons_succ])
      refine' tkH (i := 27) (v := _) rfl (Or.inl ⟨by rfl, ?hyu3727⟩) HN2 ?restu3727
      case hyu3727 =>
        intro w' hSw
        have s1 := hSw
        go_simp
        try with_reducible rfl
      (try simp only [Act.put, List.getElem_toArray, List.getElem_cons_succ, List.getElem_cons_zero, List.setIfInBounds_toArray, List.set_cons_zero, List.set_cons_succ])
      refine' tkH (i := 28) (v := _) rfl (Or.inl ⟨by rfl, ?hyu3828⟩) HN2 ?restu3828
      case hyu3828 =>
        intro w' hSw
        have s1 := hSw
        go_simp
        try with_reducible rfl
      refine wpAnyH_done (by kernel_rfl) ?_ _
      have HCF := Lib.hid (HC5.out.trans HN2 (by simp))
      go_wp2_with fail
      go_ret
      exact ⟨rfl, HCF.out⟩
end Go.Proofs.YtfdhpjflkimihaaDoor
/- The law's finders, walked. No conditions beyond those that each statement types. -/
namespace Go.Proofs.YtfdhpjflkimihaaDoor
open Go.RowKit

/-- A file of the law's. -/
structure FileV where
  name : ByteArray
  ao : Option Addr
  xs : List UInt8
  cap : Nat
def FileV.cells (f : FileV) : Array Value := #[.string f.name, .slice f.ao f.xs.length f.cap]
def fvs (l : List FileV) : List Value := l.flatMap fun f => f.cells.toList
theorem fvs_len (l : List FileV) : (fvs l).length = l.length * 2 := flat_length (enc := fun f : FileV => f.cells.toList) (size := 2) (fun _ => rfl) l
structure FilesAt (w : World) (so : Option Addr) (c : Nat) (L : List FileV) : Prop where
  src : Src w so (fvs L)
  cap : L.length ≤ c
  at_ : ∀ (k : Nat) (f : FileV), L[k]? = some f → PV w [] (.slice f.ao f.xs.length f.cap) f.xs ∧ f.xs.length ≤ 9223372036854775807
theorem FilesAt.chg {w w' : World} {so : Option Addr} {c : Nat} {L : List FileV} (h : FilesAt w so c L) (C : Chg [] w w') : FilesAt w' so c L :=
  ⟨h.src.chg C (by simp), h.cap, fun k f hf => ⟨(h.at_ k f hf).1.chg C (by simp), (h.at_ k f hf).2⟩⟩
def PutTo21 (w : World) (b : Nat) (F' : Files) (S : List Nat) (e : Ending) (w' : World) : Prop :=
  (∃ r, e = .returned (.int .i64 r)) ∧ ∃ S', FinderAt w' b F' S' ∧ Chg S w w' ∧ ∀ k ∈ S', k ∈ S ∨ w.heap.size ≤ k
def putF (F : Files) (f : FileV) : Files := if f.xs.length ≤ 4096 then Fadd F f.name f.xs else F
def putR (R : Files) (f : FileV) : Files := if f.xs.length ≤ 4096 then insF (Fdel R f.name) (f.name, f.xs) else R
def filesF (L : List FileV) : Files := L.foldl putF []
def filesR (L : List FileV) : Files := L.foldl putR []
theorem filesF_next {L : List FileV} {k : Nat} {f : FileV} (h : L[k]? = some f) : filesF (L.take (k + 1)) = putF (filesF (L.take k)) f := by unfold filesF; rw [take_nextE h, List.foldl_append]; rfl
theorem filesR_next {L : List FileV} {k : Nat} {f : FileV} (h : L[k]? = some f) : filesR (L.take (k + 1)) = putR (filesR (L.take k)) f := by unfold filesR; rw [take_nextE h, List.foldl_append]; rfl
theorem putF_same {F R : Files} (f : FileV) (h : SameF F R) : SameF (putF F f) (putR R f) := by
  unfold putF putR
  split
  · exact h.add _ _
  · exact h
theorem putF_len (F : Files) (f : FileV) : (putF F f).length ≤ F.length + 1 := by
  unfold putF
  split
  · exact Fadd_len _ _ _
  · exact Nat.le_succ _
theorem filesF_len (L : List FileV) : ∀ k, (filesF (L.take k)).length ≤ k := by
  intro k
  induction k with
  | zero => exact Nat.le_refl _
  | succ k ih =>
    cases h : L[k]? with
    | none =>
      have hl := List.getElem?_eq_none_iff.1 h
      rw [List.take_of_length_le (by omega)] at ih ⊢
      omega
    | some f =>
      rw [filesF_next h]
      exact Nat.le_trans (putF_len _ _) (Nat.succ_le_succ ih)
/-- A file is put into each finder. -/
theorem blk_file (b : Nat) (F : Files) (S : List Nat) (f : FileV) (w : World) (hL : Laid w) (H : FinderAt w b F S) (hFl : F.length ≤ 29000) (hp : PV w S (.slice f.ao f.xs.length f.cap) f.xs) :
    Calls Tryd.prog 31 #[.pointer (some ⟨b, 0, none⟩), .string f.name, .slice f.ao f.xs.length f.cap] w (PutTo21 w b (putF F f) S) := by
  obtain ⟨po, pc, e, h1, h2, h3, h4⟩ := hp
  cases e
  by_cases h : f.xs.length ≤ 4096
  · have hp : putF F f = Fadd F f.name f.xs := by unfold putF; rw [if_pos h]
    rw [hp]
    exact (blk_addN b F S f.name f.xs f.ao f.cap w hL H hFl h1 h2 h3 (fun hp a ha => (h4 hp a ha).1) h).mono fun e w' ⟨he, hr⟩ => ⟨⟨_, he⟩, hr⟩
  · have hp : putF F f = F := by unfold putF; rw [if_neg h]
    rw [hp]
    exact (blk_add_long b F S f.name f.xs f.ao f.cap w hL H h1 h2 (by omega)).mono fun e w' ⟨he, hr⟩ => ⟨⟨_, he⟩, hr⟩
def PutToR (w : World) (b : Nat) (R' : Files) (T : List Nat) (e : Ending) (w' : World) : Prop := (∃ r, e = .returned (.int .i64 r)) ∧ RefTo w b R' T w'
theorem ref_file (b : Nat) (R : Files) (T : List Nat) (f : FileV) (w : World) (H : RefIs w b R T) (hl : R.length ≤ 999) (hp : PV w [b] (.slice f.ao f.xs.length f.cap) f.xs) (hm : f.xs.length ≤ 9223372036854775807) :
    Calls Tryd.prog 32 #[.pointer (some ⟨b, 0, none⟩), .string f.name, .slice f.ao f.xs.length f.cap] w (PutToR w b (putR R f) T) := by
  obtain ⟨po, pc, e, h1, h2, h3, h4⟩ := hp
  cases e
  by_cases h : f.xs.length ≤ 4096
  · have hp : putR R f = insF (Fdel R f.name) (f.name, f.xs) := by unfold putR; rw [if_pos h]
    rw [hp]
    exact (ref_addN b R f.name f.xs f.ao f.cap T w H h1 h2 h3 h hl (fun hp a ha hb => (h4 hp a ha).1 (by rw [hb]; exact List.mem_cons_self))).mono fun e w' ⟨he, hr⟩ => ⟨⟨_, he⟩, hr⟩
  · have hp : putR R f = R := by unfold putR; rw [if_neg h]
    rw [hp]
    exact (ref_add_long b R f.name f.xs f.ao f.cap T w H h1 h2 (by omega) hm).mono fun e w' ⟨he, hr, C⟩ => ⟨⟨_, he⟩, T, hr, C.mono (by simp), fun k hk => .inl hk⟩
/-- The two finders. -/
def Finders (w : World) (L : List FileV) (e : Ending) (w' : World) : Prop :=
  ∃ b bg S T, e = .returned (.tuple #[.pointer (some ⟨b, 0, none⟩), .pointer (some ⟨bg, 0, none⟩)]) ∧ FindSt w w' b bg (filesF L) (filesR L) S T
set_option maxRecDepth 100000 in
set_option maxHeartbeats 4000000 in
theorem law_finders21 (L : List FileV) (so : Option Addr) (c : Nat) (w : World) (hL : Laid w) (H : FilesAt w so c L) (hl : L.length ≤ 10) :
    Calls Tryd.prog 43 #[.slice so L.length c] w (Finders w L) := by
  have HST := Lib.hid (fun (k : Nat) (f : FileV) (h : L[k]? = some f) (wr : World) (C : Chg [] w wr) => show ∃ a, so = some a ∧ wr.cell? (a.add (k * 2)) = some (.string f.name) ∧ wr.cell? ⟨(a.add (k * 2)).block, (a.add (k * 2)).off + 1, none⟩ = some (.slice f.ao f.xs.length f.cap) from by
    have h1 := (List.getElem?_eq_some_iff.1 h).1
    obtain ⟨a, rfl, _⟩ := H.src.lt (by rw [fvs_len]; omega)
    have hc0 := src_flat (w := wr) (a := a) (cells := fun s : FileV => s.cells.toList) (size := 2) (fun _ => rfl) ((H.src.chg C (by simp)).cell a rfl) h 0 (.string f.name) rfl
    have hc1 := src_flat (w := wr) (a := a) (cells := fun s : FileV => s.cells.toList) (size := 2) (fun _ => rfl) ((H.src.chg C (by simp)).cell a rfl) h 1 (.slice f.ao f.xs.length f.cap) rfl
    exact ⟨a, rfl, hc0, hc1⟩)
  have HPV := Lib.hid (fun (k : Nat) (f : FileV) (h : L[k]? = some f) (wr : World) (C : Chg [] w wr) (X : List Nat) (hX : ∀ j ∈ X, w.heap.size ≤ j) => show PV wr X (.slice f.ao f.xs.length f.cap) f.xs from ((H.at_ k f h).1.grow (fun j hj => .inr (hX j hj))).chg C (by simp))
  have HMX := Lib.hid (fun (k : Nat) (f : FileV) (h : L[k]? = some f) => (H.at_ k f h).2)
  have HGE := Lib.hid (fun k (hk : k < L.length) => show ∃ s, L[k]? = some s from ⟨_, List.getElem?_eq_getElem hk⟩)
  have HTA : Hid (L.take L.length = L) := Lib.hid List.take_length
  have HFL := Lib.hid (filesF_len L)
  have HL := Lib.hid hL
  have hlc := H.cap
  obtain ⟨n, hn⟩ : ∃ n, L.length = n := ⟨_, rfl⟩
  rw [hn] at hl hlc HGE HTA ⊢
  clear H hL hn
  go_enter Tryd.func43, Tryd.ntmps43
  go_wp2_with fail
  refine (blk_new w).mono ?_
  rintro e w1 ⟨b, S, rfl, H1, hS, C1⟩
  have HR := ref_new w1
  have CA := Chg.alloc [] w1 (.cells #[.slice none 0 0] 48)
  have HF0 : Hid (FindSt w (w1.alloc (.cells #[.slice none 0 0] 48)) b w1.heap.size [] [] S [w1.heap.size]) := Lib.hid ⟨H1.chg CA (by simp), HR, sameF_nil, fun k hk hm => by
    have h1 := H1.ltS k hk
    rw [List.mem_singleton] at hm
    omega, hS, fun k hk => by rw [List.mem_singleton.1 hk]; exact C1.size, C1.trans CA (by simp)⟩
  clear HR CA H1 hS C1
  go_upto_region 2 with (fail)
  obtain ⟨bg, hbg⟩ : ∃ bg, w1.heap.size = bg := ⟨_, rfl⟩
  rw [hbg] at HF0 ⊢
  generalize w1.alloc (.cells #[.slice none 0 0] 48) = w2 at *
  clear hbg
  have HF0' : Hid (FindSt w w2 b bg (filesF (L.take 0)) (filesR (L.take 0)) S [bg]) := HF0
  clear HF0
  go_wp2_with fail
  go_loopw [6] (fun v6 wr => ∃ (k : Nat) (S T : List Nat), v6 = .int .i64 (k : Int) ∧ k ≤ n ∧ Hid (FindSt w wr b bg (filesF (L.take k)) (filesR (L.take k)) S T)) (fun v _ => n - (intOf v).toNat)
  case atStart => exact ⟨0, S, [bg], rfl, Nat.zero_le _, HF0'⟩
  case round =>
    obtain ⟨k, S, T, rfl, hk, HF⟩ := hrel
    clear HF0'
    by_cases hlt : k < n
    · have e1 : (k : Int) < n := Int.ofNat_lt.2 hlt
      have e0 : (0 : Int) ≤ k := Int.natCast_nonneg _
      have hkc : k < c := by omega
      obtain ⟨f, hf⟩ := HGE.out k hlt
      obtain ⟨a, rfl, _, _⟩ := HST.out k f hf wr HF.out.chg
      have HNF := Lib.hid (filesF_next hf)
      have HNR := Lib.hid (filesR_next hf)
      have HCS : Hid (∀ w', Chg S wr w' → Chg [] w w') := Lib.hid (fun w' C => HF.out.chg.trans C (fun j hj => .inr (HF.out.newS j hj)))
      have HCN : Hid (∀ w', Chg S wr w' → w'.cell? (a.add (k * 2)) = some (.string f.name)) := Lib.hid (fun w' C => by
        obtain ⟨a2, h1, h2, _⟩ := HST.out k f hf w' (HCS.out w' C)
        cases h1
        exact h2)
      have HCD : Hid (∀ w', Chg S wr w' → w'.cell? ⟨(a.add (k * 2)).block, (a.add (k * 2)).off + 1, none⟩ = some (.slice f.ao f.xs.length f.cap)) := Lib.hid (fun w' C => by
        obtain ⟨a2, h1, _, h2⟩ := HST.out k f hf w' (HCS.out w' C)
        cases h1
        exact h2)
      have HSB : Hid (∀ j ∈ [bg], w.heap.size ≤ j) := Lib.hid (fun j hj => by rw [List.mem_singleton.1 hj]; exact HF.out.newT _ HF.out.ref.own)
      have HCN3 : Hid (∀ w', Chg [] w w' → w'.cell? (a.add (k * 2)) = some (.string f.name)) := Lib.hid (fun w' C => by
        obtain ⟨a2, h1, h2, _⟩ := HST.out k f hf w' C
        cases h1
        exact h2)
      have HCD3 : Hid (∀ w', Chg [] w w' → w'.cell? ⟨(a.add (k * 2)).block, (a.add (k * 2)).off + 1, none⟩ = some (.slice f.ao f.xs.length f.cap)) := Lib.hid (fun w' C => by
        obtain ⟨a2, h1, _, h2⟩ := HST.out k f hf w' C
        cases h1
        exact h2)
      have hlen := HFL.out k
      have K1 := Lib.hid (blk_file b (filesF (L.take k)) S f wr.drew (HL.out.chg (HF.out.chg.trans (Chg.drewN [] wr 1) (by simp)) (by simp)) (HF.out.fin.chg (Chg.drewN [] wr 1) (by simp)) (by omega) (HPV.out k f hf wr.drew (HF.out.chg.trans (Chg.drewN [] wr 1) (by simp)) S HF.out.newS))
      have K2 := Lib.hid (fun (w' : World) (T' : List Nat) (R : Files) (hR : RefIs w' bg R T') (hl : R.length ≤ 999) (C : Chg [] w w') => ref_file bg R T' f w' hR hl (HPV.out k f hf w' C [bg] (fun j hj => by rw [List.mem_singleton.1 hj]; exact HF.out.newT _ HF.out.ref.own)) (HMX.out k f hf))
      have HRL : Hid ((filesR (L.take k)).length ≤ 999) := Lib.hid (by have := HF.out.same.length; omega)
      have HSM := Lib.hid (putF_same f HF.out.same)
      generalize f.xs.length = fl at *
      generalize f.ao = fa at *
      generalize f.cap = fc at *
      generalize f.name = fn at *
      clear hlen
      go_upto_region 5 with (fail)
      refine wp_region_held_drew (S := fun w' => Chg S wr w') (by kernel_rfl) ((Chg.drewN S wr 1)) (fun H0 => ?_)
      refine' tkH (i := 0) (v := _) rfl (Or.inl ⟨by rfl, ?hya0⟩) H0 ?resta0
      case hya0 =>
        intro w' hSw
        have s1 := hSw
        go_simp
        try with_reducible rfl
      (try simp only [Act.put, List.getElem_toArray, List.getElem_cons_zero, List.setIfInBounds_toArray, List.set_cons_zero, List.set_cons_succ])
      refine' tkH (i := 1) (v := _) rfl (Or.inl ⟨by rfl, ?hya1⟩) H0 ?resta1
      case hya1 =>
        intro w' hSw
        have s1 := hSw
        go_simp
        try with_reducible rfl
      (try simp only [Act.put, List.getElem_toArray, List.getElem_cons_succ, List.getElem_cons_zero, List.setIfInBounds_toArray, List.set_cons_zero, List.set_cons_succ])
      refine' tkH (i := 2) (v := _) rfl (Or.inl ⟨by rfl, ?hya2⟩) H0 ?resta2
      case hya2 =>
        intro w' hSw
        have s1 := hSw
        go_simp
        try with_reducible rfl
      (try simp only [Act.put, List.getElem_toArray, List.getElem_cons_succ, List.getElem_cons_zero, List.setIfInBounds_toArray, List.set_cons_zero, List.set_cons_succ])
      refine' tkH (i := 3) (v := _) rfl (Or.inl ⟨by rfl, ?hya3⟩) H0 ?resta3
      case hya3 =>
        intro w' hSw
        have s1 := hSw
        go_simp
        try with_reducible rfl
      (try simp only [Act.put, List.getElem_toArray, List.getElem_cons_succ, List.getElem_cons_zero, List.setIfInBounds_toArray, List.set_cons_zero, List.set_cons_succ])
      refine' tkH (i := 4) (v := _) rfl (Or.inl ⟨by rfl, ?hya4⟩) H0 ?resta4
      case hya4 =>
        intro w' hSw
        have s1 := hSw
        go_simp
        try with_reducible rfl
      (try simp only [Act.put, List.getElem_toArray, List.getElem_cons_succ, List.getElem_cons_zero, List.setIfInBounds_toArray, List.set_cons_zero, List.set_cons_succ])
      refine' tkH (i := 5) (v := _) rfl (Or.inl ⟨by rfl, ?hya5⟩) H0 ?resta5
      case hya5 =>
        intro w' hSw
        have s1 := hSw
        have hc := (show w'.cell? (a.add (k * 2)) = some (.string fn) from HCN.out w' s1)
        go_simp
        try with_reducible rfl
      (try simp only [Act.put, List.getElem_toArray, List.getElem_cons_succ, List.getElem_cons_zero, List.setIfInBounds_toArray, List.set_cons_zero, List.set_cons_succ])
      refine' tkH (i := 6) (v := _) rfl (Or.inl ⟨by rfl, ?hya6⟩) H0 ?resta6
      case hya6 =>
        intro w' hSw
        have s1 := hSw
        go_simp
        try with_reducible rfl
      (try simp only [Act.put, List.getElem_toArray, List.getElem_cons_succ, List.getElem_cons_zero, List.setIfInBounds_toArray, List.set_cons_zero, List.set_cons_succ])
      refine' tkH (i := 7) (v := _) rfl (Or.inl ⟨by rfl, ?hya7⟩) H0 ?resta7
      case hya7 =>
        intro w' hSw
        have s1 := hSw
        go_simp
        try with_reducible rfl
      (try simp only [Act.put, List.getElem_toArray, List.getElem_cons_succ, List.getElem_cons_zero, List.setIfInBounds_toArray, List.set_cons_zero, List.set_cons_succ])
      refine' tkH (i := 8) (v := _) rfl (Or.inl ⟨by rfl, ?hya8⟩) H0 ?resta8
      case hya8 =>
        intro w' hSw
        have s1 := hSw
        go_simp
        try with_reducible rfl
      (try simp only [Act.put, List.getElem_toArray, List.getElem_cons_succ, List.getElem_cons_zero, List.setIfInBounds_toArray, List.set_cons_zero, List.set_cons_succ])
      refine' tkH (i := 9) (v := _) rfl (Or.inl ⟨by rfl, ?hya9⟩) H0 ?resta9
      case hya9 =>
        intro w' hSw
        have s1 := hSw
        go_simp
        try with_reducible rfl
      (try simp only [Act.put, List.getElem_toArray, List.getElem_cons_succ, List.getElem_cons_zero, List.setIfInBounds_toArray, List.set_cons_zero, List.set_cons_succ])
      refine' tkH (i := 10) (v := _) rfl (Or.inl ⟨by rfl, ?hya10⟩) H0 ?resta10
      case hya10 =>
        intro w' hSw
        have s1 := hSw
        have hc := (show w'.cell? ⟨(a.add (k * 2)).block, (a.add (k * 2)).off + 1, none⟩ = some (.slice fa fl fc) from HCD.out w' s1)
        go_simp
        try with_reducible rfl
      (try simp only [Act.put, List.getElem_toArray, List.getElem_cons_succ, List.getElem_cons_zero, List.setIfInBounds_toArray, List.set_cons_zero, List.set_cons_succ])
      refine wpAnyH_ready (rs := [11]) (by kernel_rfl) (by simp) (AllReadyH.cons rfl (fun K hK => ?_) AllReadyH.nil)
      go_simp
      refine K1.out.mono ?_
      rintro e w5 ⟨⟨rv, rfl⟩, S5, hF5, C5, g5⟩
      have HF5 := Lib.hid hF5
      have HC5 := Lib.hid (show Chg S wr w5 from (Chg.drewN S wr 1).trans C5 (fun j hj => .inl hj))
      have HG5 := Lib.hid (show ∀ j ∈ S5, j ∈ S ∨ wr.heap.size ≤ j from g5)
      go_simp
      refine hK.out _ _ HC5.out (fun H1 => ?_)
      clear hK K hF5 C5 g5
      refine wpAnyH_done (by kernel_rfl) ?_ _
      have HWS := Lib.hid (HCS.out w5 HC5.out)
      have HCN2 := Lib.hid (fun (w' : World) (C : Chg [bg] w5 w') => HCN3.out w' (HWS.out.trans C (fun j hj => .inr (HSB.out j hj))))
      have HCD2 := Lib.hid (fun (w' : World) (C : Chg [bg] w5 w') => HCD3.out w' (HWS.out.trans C (fun j hj => .inr (HSB.out j hj))))
      have K3 := Lib.hid (K2.out w5.drew T (filesR (L.take k)) ((HF.out.ref.chg HC5.out (fun j hj hm => HF.out.apart j hm hj)).chg (Chg.drewN [] w5 1) (by simp)) HRL.out (HWS.out.trans (Chg.drewN [] w5 1) (by simp)))
      clear H0 H1 K1 K2 HCN HCD HCN3 HCD3 HRL
      go_upto_region 6 with (fail)
      refine wp_region_held_drew (S := fun w' => Chg [bg] w5 w') (by kernel_rfl) ((Chg.drewN [bg] w5 1)) (fun H0 => ?_)
      refine' tkH (i := 0) (v := _) rfl (Or.inl ⟨by rfl, ?hyb0⟩) H0 ?restb0
      case hyb0 =>
        intro w' hSw
        have s1 := hSw
        go_simp
        try with_reducible rfl
      (try simp only [Act.put, List.getElem_toArray, List.getElem_cons_zero, List.setIfInBounds_toArray, List.set_cons_zero, List.set_cons_succ])
      refine' tkH (i := 1) (v := _) rfl (Or.inl ⟨by rfl, ?hyb1⟩) H0 ?restb1
      case hyb1 =>
        intro w' hSw
        have s1 := hSw
        go_simp
        try with_reducible rfl
      (try simp only [Act.put, List.getElem_toArray, List.getElem_cons_succ, List.getElem_cons_zero, List.setIfInBounds_toArray, List.set_cons_zero, List.set_cons_succ])
      refine' tkH (i := 2) (v := _) rfl (Or.inl ⟨by rfl, ?hyb2⟩) H0 ?restb2
      case hyb2 =>
        intro w' hSw
        have s1 := hSw
        go_simp
        try with_reducible rfl
      (try simp only [Act.put, List.getElem_toArray, List.getElem_cons_succ, List.getElem_cons_zero, List.setIfInBounds_toArray, List.set_cons_zero, List.set_cons_succ])
      refine' tkH (i := 3) (v := _) rfl (Or.inl ⟨by rfl, ?hyb3⟩) H0 ?restb3
      case hyb3 =>
        intro w' hSw
        have s1 := hSw
        go_simp
        try with_reducible rfl
      (try simp only [Act.put, List.getElem_toArray, List.getElem_cons_succ, List.getElem_cons_zero, List.setIfInBounds_toArray, List.set_cons_zero, List.set_cons_succ])
      refine' tkH (i := 4) (v := _) rfl (Or.inl ⟨by rfl, ?hyb4⟩) H0 ?restb4
      case hyb4 =>
        intro w' hSw
        have s1 := hSw
        go_simp
        try with_reducible rfl
      (try simp only [Act.put, List.getElem_toArray, List.getElem_cons_succ, List.getElem_cons_zero, List.setIfInBounds_toArray, List.set_cons_zero, List.set_cons_succ])
      refine' tkH (i := 5) (v := _) rfl (Or.inl ⟨by rfl, ?hyb5⟩) H0 ?restb5
      case hyb5 =>
        intro w' hSw
        have s1 := hSw
        have hc := (show w'.cell? (a.add (k * 2)) = some (.string fn) from HCN2.out w' s1)
        go_simp
        try with_reducible rfl
      (try simp only [Act.put, List.getElem_toArray, List.getElem_cons_succ, List.getElem_cons_zero, List.setIfInBounds_toArray, List.set_cons_zero, List.set_cons_succ])
      refine' tkH (i := 6) (v := _) rfl (Or.inl ⟨by rfl, ?hyb6⟩) H0 ?restb6
      case hyb6 =>
        intro w' hSw
        have s1 := hSw
        go_simp
        try with_reducible rfl
      (try simp only [Act.put, List.getElem_toArray, List.getElem_cons_succ, List.getElem_cons_zero, List.setIfInBounds_toArray, List.set_cons_zero, List.set_cons_succ])
      refine' tkH (i := 7) (v := _) rfl (Or.inl ⟨by rfl, ?hyb7⟩) H0 ?restb7
      case hyb7 =>
        intro w' hSw
        have s1 := hSw
        go_simp
        try with_reducible rfl
      (try simp only [Act.put, List.getElem_toArray, List.getElem_cons_succ, List.getElem_cons_zero, List.setIfInBounds_toArray, List.set_cons_zero, List.set_cons_succ])
      refine' tkH (i := 8) (v := _) rfl (Or.inl ⟨by rfl, ?hyb8⟩) H0 ?restb8
      case hyb8 =>
        intro w' hSw
        have s1 := hSw
        go_simp
        try with_reducible rfl
      (try simp only [Act.put, List.getElem_toArray, List.getElem_cons_succ, List.getElem_cons_zero, List.setIfInBounds_toArray, List.set_cons_zero, List.set_cons_succ])
      refine' tkH (i := 9) (v := _) rfl (Or.inl ⟨by rfl, ?hyb9⟩) H0 ?restb9
      case hyb9 =>
        intro w' hSw
        have s1 := hSw
        go_simp
        try with_reducible rfl
      (try simp only [Act.put, List.getElem_toArray, List.getElem_cons_succ, List.getElem_cons_zero, List.setIfInBounds_toArray, List.set_cons_zero, List.set_cons_succ])
      refine' tkH (i := 10) (v := _) rfl (Or.inl ⟨by rfl, ?hyb10⟩) H0 ?restb10
      case hyb10 =>
        intro w' hSw
        have s1 := hSw
        have hc := (show w'.cell? ⟨(a.add (k * 2)).block, (a.add (k * 2)).off + 1, none⟩ = some (.slice fa fl fc) from HCD2.out w' s1)
        go_simp
        try with_reducible rfl
      (try simp only [Act.put, List.getElem_toArray, List.getElem_cons_succ, List.getElem_cons_zero, List.setIfInBounds_toArray, List.set_cons_zero, List.set_cons_succ])
      refine wpAnyH_ready (rs := [11]) (by kernel_rfl) (by simp) (AllReadyH.cons rfl (fun K hK => ?_) AllReadyH.nil)
      go_simp
      refine K3.out.mono ?_
      rintro e w6 ⟨⟨rv6, rfl⟩, hT6⟩
      have HT6 := Lib.hid hT6
      have HC6 := Lib.hid (show Chg [bg] w5 w6 by
        obtain ⟨_, _, C, _⟩ := hT6
        exact (Chg.drewN [bg] w5 1).trans C (fun j hj => .inl hj))
      go_simp
      refine hK.out _ _ HC6.out (fun H1 => ?_)
      clear hK K hT6
      refine wpAnyH_done (by kernel_rfl) ?_ _
      obtain ⟨T', hFS, _⟩ := HF.out.both (HF5.out.chg (Chg.drewN [] w5 1) (by simp)) (HC5.out.trans (Chg.drewN [] w5 1) (by simp)) HG5.out HT6.out HSM.out
      have HFN : Hid (FindSt w w6 b bg (filesF (L.take (k + 1))) (filesR (L.take (k + 1))) S5 T') := Lib.hid (by rw [HNF.out, HNR.out]; exact hFS)
      clear H0 H1 hFS HF HF5 HC5 HG5 HT6 HSM HC6 HCN2 HCD2 K3
      go_wp2_with fail
      go_roundw
      case rel => exact ⟨k + 1, S5, T', by go_num, hlt, HFN⟩
      case measure => simp [intOf] <;> omega
    · have e1 : ¬ (k : Int) < n := fun h => hlt (Int.ofNat_lt.1 h)
      have hkn : k = n := by omega
      have HFE : Hid (FindSt w wr b bg (filesF L) (filesR L) S T) := Lib.hid (by
        have := HF.out
        rw [hkn, HTA.out] at this
        exact this)
      clear HF hkn
      go_wp2_with fail
      go_ret2
      exact ⟨b, bg, S, T, rfl, HFE.out⟩
end Go.Proofs.YtfdhpjflkimihaaDoor
/- The law's large, walked. No conditions beyond those that each statement types. -/
namespace Go.Proofs.YtfdhpjflkimihaaDoor
open Go.RowKit

theorem iw (x : Int) : IntKind.i64.wrap x = wrap64 x := by rw [IntKind.wrap_i64]; unfold wrap64; omega
def sumF (z : Int) (L : List FileV) : Nat → Int
  | 0 => z
  | k + 1 => match L[k]? with
    | some f => wrap64 (wrap64 (sumF z L k + (f.xs.length : Int)) + (f.name.size : Int))
    | none => sumF z L k
def sumG (z : Int) (G : List GotV) : Nat → Int
  | 0 => z
  | k + 1 => match G[k]? with
    | some g => wrap64 (sumG z G k + (g.xs.length : Int))
    | none => sumG z G k
theorem sumF_next {z : Int} {L : List FileV} {k : Nat} {f : FileV} (h : L[k]? = some f) : sumF z L (k + 1) = wrap64 (wrap64 (sumF z L k + (f.xs.length : Int)) + (f.name.size : Int)) := by rw [sumF, h]
theorem sumG_next {z : Int} {G : List GotV} {k : Nat} {g : GotV} (h : G[k]? = some g) : sumG z G (k + 1) = wrap64 (sumG z G k + (g.xs.length : Int)) := by rw [sumG, h]
/-- What large answers. -/
def largeB (nb tn ln : Nat) (L : List FileV) (G : List GotV) : Bool :=
  decide (10 < L.length) || decide (20000 < sumG (sumF tn L (min L.length 20)) G (min G.length 60)) || decide (50 < nb) || decide (50 < ln) || decide (50 < G.length)
theorem largeB_no {nb tn ln : Nat} {L : List FileV} {G : List GotV} (h : largeB nb tn ln L G = false) : L.length ≤ 10 ∧ sumG (sumF tn L (min L.length 20)) G (min G.length 60) ≤ 20000 ∧ nb ≤ 50 ∧ ln ≤ 50 ∧ G.length ≤ 50 := by
  unfold largeB at h
  simp only [Bool.or_eq_false_iff, decide_eq_false_iff_not] at h
  omega
set_option maxRecDepth 100000 in
set_option maxHeartbeats 4000000 in
theorem law_large21 (RC : Array Value) (r : RecV) (ao : Option Addr) (rc : Nat) (L : List FileV) (so : Option Addr) (c : Nat) (ta : Option Addr) (tn tc : Nat) (lo : Option Addr) (ln lc : Nat) (G : List GotV) (go : Option Addr) (gc : Nat) (w : World)
    (H : RecIs w RC r ao rc) (HL : Src w so (fvs L)) (hLc : L.length ≤ c) (HG : Src w go (gvs G)) (hGc : G.length ≤ gc) :
    Calls Tryd.prog 40 #[.agg RC, .slice so L.length c, .slice ta tn tc, .slice lo ln lc, .slice go G.length gc] w fun e w' => e = .returned (.bool (largeB r.L.length tn ln L G)) ∧ Chg [] w w' := by
  have hx0 := heap_alloc_new w (.cells RC 77)
  have C0 := Chg.alloc [] w (.cells RC 77)
  have HST := Lib.hid (fun (k : Nat) (f : FileV) (h : L[k]? = some f) (wr : World) (C : Chg [] w wr) => show ∃ a, so = some a ∧ wr.cell? (a.add (k * 2)) = some (.string f.name) ∧ wr.cell? ⟨(a.add (k * 2)).block, (a.add (k * 2)).off + 1, none⟩ = some (.slice f.ao f.xs.length f.cap) from by
    have h1 := (List.getElem?_eq_some_iff.1 h).1
    obtain ⟨a, rfl, _⟩ := HL.lt (by rw [fvs_len]; omega)
    have hc0 := src_flat (w := wr) (a := a) (cells := fun s : FileV => s.cells.toList) (size := 2) (fun _ => rfl) ((HL.chg C (by simp)).cell a rfl) h 0 (.string f.name) rfl
    have hc1 := src_flat (w := wr) (a := a) (cells := fun s : FileV => s.cells.toList) (size := 2) (fun _ => rfl) ((HL.chg C (by simp)).cell a rfl) h 1 (.slice f.ao f.xs.length f.cap) rfl
    exact ⟨a, rfl, hc0, hc1⟩)
  have HSG := Lib.hid (fun (k : Nat) (g : GotV) (h : G[k]? = some g) (wr : World) (C : Chg [] w wr) => show ∃ a, go = some a ∧ wr.cell? ⟨(a.add (k * 2)).block, (a.add (k * 2)).off + 1, none⟩ = some (.slice g.ao g.xs.length g.cap) from by
    have h1 := (List.getElem?_eq_some_iff.1 h).1
    obtain ⟨a, rfl, _⟩ := HG.lt (by rw [gvs_len]; omega)
    have hc1 := src_flat (w := wr) (a := a) (cells := fun s : GotV => s.cells.toList) (size := 2) (fun _ => rfl) ((HG.chg C (by simp)).cell a rfl) h 1 (.slice g.ao g.xs.length g.cap) rfl
    exact ⟨a, rfl, hc1⟩)
  have HGE := Lib.hid (fun k (hk : k < L.length) => show ∃ s, L[k]? = some s from ⟨_, List.getElem?_eq_getElem hk⟩)
  have HGG := Lib.hid (fun k (hk : k < G.length) => show ∃ s, G[k]? = some s from ⟨_, List.getElem?_eq_getElem hk⟩)
  have HLB : Hid (largeB r.L.length tn ln L G = (decide (10 < L.length) || decide (20000 < sumG (sumF tn L (min L.length 20)) G (min G.length 60)) || decide (50 < r.L.length) || decide (50 < ln) || decide (50 < G.length))) := Lib.hid rfl
  have hbl := H.bl
  obtain ⟨n, hn⟩ : ∃ n, L.length = n := ⟨_, rfl⟩
  obtain ⟨gn, hgn⟩ : ∃ gn, G.length = gn := ⟨_, rfl⟩
  obtain ⟨nb, hnb⟩ : ∃ nb, r.L.length = nb := ⟨_, rfl⟩
  rw [hn, hgn, hnb] at HLB
  rw [hnb] at hbl ⊢
  rw [hn] at HGE hLc ⊢
  rw [hgn] at HGG hGc ⊢
  have HBL := Lib.hid hbl
  generalize largeB nb tn ln L G = LB at *
  clear H HL HG hn hgn hnb hbl
  go_enter Tryd.func40, Tryd.ntmps40
  go_upto_region 1 with (fail)
  obtain ⟨q, hq⟩ : ∃ q, w.heap.size = q := ⟨_, rfl⟩
  rw [hq] at hx0 ⊢
  generalize w.alloc (.cells RC 77) = w1 at *
  have HC0 := Lib.hid C0
  have HX0 := Lib.hid hx0
  clear hq hx0 C0
  have HZ0 : Hid ((tn : Int) = sumF tn L 0) := Lib.hid rfl
  go_wp2_with fail
  go_loopw [11, 12] (fun v11 v12 wr => ∃ (k : Nat) (z : Int), v11 = .int .i64 z ∧ v12 = .int .i64 (k : Int) ∧ k ≤ n ∧ k ≤ 20 ∧ Hid (z = sumF tn L k) ∧ Hid (Chg [] w1 wr)) (fun _ v _ => n - (intOf v).toNat)
  case atStart => exact ⟨0, tn, rfl, rfl, Nat.zero_le _, Nat.zero_le _, HZ0, Lib.hid (Chg.refl _ _)⟩
  case round =>
    obtain ⟨k, z, rfl, rfl, hk, hk2, HZ, HC⟩ := hrel
    clear HZ0
    by_cases hlt : k < n
    · have e1 : (k : Int) < n := Int.ofNat_lt.2 hlt
      by_cases h20 : k < 20
      · have e2 : (k : Int) < 20 := by omega
        have e0 : (0 : Int) ≤ k := Int.natCast_nonneg _
        have hkc : k < c := by omega
        obtain ⟨f, hf⟩ := HGE.out k hlt
        obtain ⟨a, rfl, _, _⟩ := HST.out k f hf wr (HC0.out.trans HC.out (by simp))
        have HNX := Lib.hid (sumF_next (z := tn) hf)
        have HCN : Hid (∀ w', Chg [] wr w' → w'.cell? (a.add (k * 2)) = some (.string f.name)) := Lib.hid (fun w' C => by
          obtain ⟨a2, h1, h2, _⟩ := HST.out k f hf w' ((HC0.out.trans HC.out (by simp)).trans C (by simp))
          cases h1
          exact h2)
        have HCD : Hid (∀ w', Chg [] wr w' → w'.cell? ⟨(a.add (k * 2)).block, (a.add (k * 2)).off + 1, none⟩ = some (.slice f.ao f.xs.length f.cap)) := Lib.hid (fun w' C => by
          obtain ⟨a2, h1, _, h2⟩ := HST.out k f hf w' ((HC0.out.trans HC.out (by simp)).trans C (by simp))
          cases h1
          exact h2)
        rw [← HZ.out] at HNX
        generalize f.xs.length = fl at *
        generalize f.ao = fa at *
        generalize f.cap = fc at *
        generalize f.name = fn at *
        clear HZ hf
        go_upto_region 5 with (fail)
        refine wp_region_held_drew (S := fun w' => Chg [] wr w') (by kernel_rfl) ((Chg.drewN [] wr 1)) (fun H0 => ?_)
        refine' tkH (i := 0) (v := _) rfl (Or.inl ⟨by rfl, ?hya0⟩) H0 ?resta0
        case hya0 =>
          intro w' hSw
          have s1 := hSw
          go_simp
          try with_reducible rfl
        (try simp only [Act.put, List.getElem_toArray, List.getElem_cons_zero, List.setIfInBounds_toArray, List.set_cons_zero, List.set_cons_succ])
        refine' tkH (i := 1) (v := _) rfl (Or.inl ⟨by rfl, ?hya1⟩) H0 ?resta1
        case hya1 =>
          intro w' hSw
          have s1 := hSw
          go_simp
          try with_reducible rfl
        (try simp only [Act.put, List.getElem_toArray, List.getElem_cons_succ, List.getElem_cons_zero, List.setIfInBounds_toArray, List.set_cons_zero, List.set_cons_succ])
        refine' tkH (i := 2) (v := _) rfl (Or.inl ⟨by rfl, ?hya2⟩) H0 ?resta2
        case hya2 =>
          intro w' hSw
          have s1 := hSw
          go_simp
          try with_reducible rfl
        (try simp only [Act.put, List.getElem_toArray, List.getElem_cons_succ, List.getElem_cons_zero, List.setIfInBounds_toArray, List.set_cons_zero, List.set_cons_succ])
        refine' tkH (i := 3) (v := _) rfl (Or.inl ⟨by rfl, ?hya3⟩) H0 ?resta3
        case hya3 =>
          intro w' hSw
          have s1 := hSw
          go_simp
          try with_reducible rfl
        (try simp only [Act.put, List.getElem_toArray, List.getElem_cons_succ, List.getElem_cons_zero, List.setIfInBounds_toArray, List.set_cons_zero, List.set_cons_succ])
        refine' tkH (i := 4) (v := _) rfl (Or.inl ⟨by rfl, ?hya4⟩) H0 ?resta4
        case hya4 =>
          intro w' hSw
          have s1 := hSw
          go_simp
          try with_reducible rfl
        (try simp only [Act.put, List.getElem_toArray, List.getElem_cons_succ, List.getElem_cons_zero, List.setIfInBounds_toArray, List.set_cons_zero, List.set_cons_succ])
        refine' tkH (i := 5) (v := _) rfl (Or.inl ⟨by rfl, ?hya5⟩) H0 ?resta5
        case hya5 =>
          intro w' hSw
          have s1 := hSw
          have hc := (show w'.cell? ⟨(a.add (k * 2)).block, (a.add (k * 2)).off + 1, none⟩ = some (.slice fa fl fc) from HCD.out w' s1)
          go_simp
          try with_reducible rfl
        (try simp only [Act.put, List.getElem_toArray, List.getElem_cons_succ, List.getElem_cons_zero, List.setIfInBounds_toArray, List.set_cons_zero, List.set_cons_succ])
        refine' tkH (i := 6) (v := _) rfl (Or.inl ⟨by rfl, ?hya6⟩) H0 ?resta6
        case hya6 =>
          intro w' hSw
          have s1 := hSw
          go_simp
          try with_reducible rfl
        (try simp only [Act.put, List.getElem_toArray, List.getElem_cons_succ, List.getElem_cons_zero, List.setIfInBounds_toArray, List.set_cons_zero, List.set_cons_succ])
        refine' tkH (i := 7) (v := .int .i64 (wrap64 (z + (fl : Int)))) rfl (Or.inl ⟨by rfl, ?hya7⟩) H0 ?resta7
        case hya7 =>
          intro w' hSw
          have s1 := hSw
          go_simp
          try rw [iw]
        (try simp only [Act.put, List.getElem_toArray, List.getElem_cons_succ, List.getElem_cons_zero, List.setIfInBounds_toArray, List.set_cons_zero, List.set_cons_succ])
        refine' tkH (i := 8) (v := _) rfl (Or.inl ⟨by rfl, ?hya8⟩) H0 ?resta8
        case hya8 =>
          intro w' hSw
          have s1 := hSw
          go_simp
          try with_reducible rfl
        (try simp only [Act.put, List.getElem_toArray, List.getElem_cons_succ, List.getElem_cons_zero, List.setIfInBounds_toArray, List.set_cons_zero, List.set_cons_succ])
        refine' tkH (i := 9) (v := _) rfl (Or.inl ⟨by rfl, ?hya9⟩) H0 ?resta9
        case hya9 =>
          intro w' hSw
          have s1 := hSw
          go_simp
          try with_reducible rfl
        (try simp only [Act.put, List.getElem_toArray, List.getElem_cons_succ, List.getElem_cons_zero, List.setIfInBounds_toArray, List.set_cons_zero, List.set_cons_succ])
        refine' tkH (i := 10) (v := _) rfl (Or.inl ⟨by rfl, ?hya10⟩) H0 ?resta10
        case hya10 =>
          intro w' hSw
          have s1 := hSw
          go_simp
          try with_reducible rfl
        (try simp only [Act.put, List.getElem_toArray, List.getElem_cons_succ, List.getElem_cons_zero, List.setIfInBounds_toArray, List.set_cons_zero, List.set_cons_succ])
        refine' tkH (i := 11) (v := _) rfl (Or.inl ⟨by rfl, ?hya11⟩) H0 ?resta11
        case hya11 =>
          intro w' hSw
          have s1 := hSw
          go_simp
          try with_reducible rfl
        (try simp only [Act.put, List.getElem_toArray, List.getElem_cons_succ, List.getElem_cons_zero, List.setIfInBounds_toArray, List.set_cons_zero, List.set_cons_succ])
        refine' tkH (i := 12) (v := _) rfl (Or.inl ⟨by rfl, ?hya12⟩) H0 ?resta12
        case hya12 =>
          intro w' hSw
          have s1 := hSw
          have hc := (show w'.cell? (a.add (k * 2)) = some (.string fn) from HCN.out w' s1)
          go_simp
          try with_reducible rfl
        (try simp only [Act.put, List.getElem_toArray, List.getElem_cons_succ, List.getElem_cons_zero, List.setIfInBounds_toArray, List.set_cons_zero, List.set_cons_succ])
        refine' tkH (i := 13) (v := _) rfl (Or.inl ⟨by rfl, ?hya13⟩) H0 ?resta13
        case hya13 =>
          intro w' hSw
          have s1 := hSw
          go_simp
          try with_reducible rfl
        (try simp only [Act.put, List.getElem_toArray, List.getElem_cons_succ, List.getElem_cons_zero, List.setIfInBounds_toArray, List.set_cons_zero, List.set_cons_succ])
        refine' tkH (i := 14) (v := .int .i64 (wrap64 (wrap64 (z + (fl : Int)) + (fn.size : Int)))) rfl (Or.inl ⟨by rfl, ?hya14⟩) H0 ?resta14
        case hya14 =>
          intro w' hSw
          have s1 := hSw
          go_simp
          try rw [iw]
        (try simp only [Act.put, List.getElem_toArray, List.getElem_cons_succ, List.getElem_cons_zero, List.setIfInBounds_toArray, List.set_cons_zero, List.set_cons_succ])
        refine' tkH (i := 15) (v := _) rfl (Or.inl ⟨by rfl, ?hya15⟩) H0 ?resta15
        case hya15 =>
          intro w' hSw
          have s1 := hSw
          go_simp
          try with_reducible rfl
        (try simp only [Act.put, List.getElem_toArray, List.getElem_cons_succ, List.getElem_cons_zero, List.setIfInBounds_toArray, List.set_cons_zero, List.set_cons_succ])
        refine wpAnyH_done (by kernel_rfl) ?_ _
        have HCR := Lib.hid (HC.out.trans H0 (by simp))
        clear HCN HCD H0 HC
        go_wp2_with fail
        go_roundw
        case rel => exact ⟨k + 1, _, rfl, by go_num, hlt, h20, Lib.hid HNX.out.symm, HCR⟩
        case measure => simp [intOf] <;> omega
      · have e2 : ¬ (k : Int) < 20 := by omega
        have HKM : Hid (min n 20 = k) := Lib.hid (by omega)
        clear h20 hk hk2
        have HG0 : Hid (z = sumG z G 0) := Lib.hid rfl
        have HCA := Lib.hid HC.out
        clear HC
        go_wp2_with fail
        go_loopw [11, 13] (fun v11 v13 wr2 => ∃ (k2 : Nat) (z2 : Int), v11 = .int .i64 z2 ∧ v13 = .int .i64 (k2 : Int) ∧ k2 ≤ gn ∧ k2 ≤ 60 ∧ Hid (z2 = sumG z G k2) ∧ Hid (Chg [] w1 wr2)) (fun _ v _ => gn - (intOf v).toNat)
        case atStart => exact ⟨0, z, rfl, rfl, Nat.zero_le _, Nat.zero_le _, HG0, HCA⟩
        case round =>
          clear HG0 HCA hlt e1
          obtain ⟨k2, z2, rfl, rfl, hk3, hk4, HZ2, HC2⟩ := hrel
          by_cases hlt2 : k2 < gn
          · have e1 : (k2 : Int) < gn := Int.ofNat_lt.2 hlt2
            by_cases h60 : k2 < 60
            · have e2 : (k2 : Int) < 60 := by omega
              have e0 : (0 : Int) ≤ k2 := Int.natCast_nonneg _
              have hkc2 : k2 < gc := by omega
              obtain ⟨g, hg⟩ := HGG.out k2 hlt2
              obtain ⟨ag, rfl, hcg⟩ := HSG.out k2 g hg _ (HC0.out.trans HC2.out (by simp))
              have HNG := Lib.hid (sumG_next (z := z) hg)
              rw [← HZ2.out] at HNG
              generalize g.xs.length = gl at *
              generalize g.ao = ga at *
              generalize g.cap = gcp at *
              clear HZ2 hg
              go_wp2_with fail
              go_roundw
              case rel => exact ⟨k2 + 1, _, rfl, by go_num, hlt2, h60, Lib.hid HNG.out.symm, HC2⟩
              case measure => simp [intOf] <;> omega
            · have e2 : ¬ (k2 : Int) < 60 := by omega
              have HKG : Hid (min gn 60 = k2) := Lib.hid (by omega)
              clear hlt2 h60 hk3 hk4
              have HZF : Hid (sumG (sumF tn L (min n 20)) G (min gn 60) = z2) := Lib.hid (by rw [HKM.out, ← HZ.out, HKG.out, HZ2.out])
              have HCE := Lib.hid (HC0.out.trans HC2.out (by simp))
              have c23 : wr.cell? ⟨q, 23, none⟩ = some (.slice ao nb rc) := by rw [cell_of_row _ _ _ _ _ _ ((HC2.out.block q (lt_of_block HX0.out) (by simp)).trans HX0.out)]; exact HBL.out
              clear HZ2 HKG HC2 HKM HZ
              by_cases a1 : 10 < n
              · have b1 : (10 : Int) < n := by omega
                have HV : Hid (LB = true) := Lib.hid (by rw [HLB.out, HZF.out]; simp [*])
                clear HLB HZF
                go_wp2_with fail
                go_ret
                exact ⟨by rw [HV.out]; rfl, HCE.out⟩
              · have b1 : ¬ (10 : Int) < n := by omega
                by_cases a2 : 20000 < z2
                ·
                  have HV : Hid (LB = true) := Lib.hid (by rw [HLB.out, HZF.out]; simp [*])
                  clear HLB HZF
                  go_wp2_with fail
                  go_ret
                  exact ⟨by rw [HV.out]; rfl, HCE.out⟩
                · by_cases a3 : 50 < nb
                  · have b3 : (50 : Int) < nb := by omega
                    have HV : Hid (LB = true) := Lib.hid (by rw [HLB.out, HZF.out]; simp [*])
                    clear HLB HZF
                    go_wp2_with fail
                    go_ret
                    exact ⟨by rw [HV.out]; rfl, HCE.out⟩
                  · have b3 : ¬ (50 : Int) < nb := by omega
                    by_cases a4 : 50 < ln
                    · have b4 : (50 : Int) < ln := by omega
                      have HV : Hid (LB = true) := Lib.hid (by rw [HLB.out, HZF.out]; simp [*])
                      clear HLB HZF
                      go_wp2_with fail
                      go_ret
                      exact ⟨by rw [HV.out]; rfl, HCE.out⟩
                    · have b4 : ¬ (50 : Int) < ln := by omega
                      by_cases a5 : 50 < gn
                      · have b5 : (50 : Int) < gn := by omega
                        have HV : Hid (LB = true) := Lib.hid (by rw [HLB.out, HZF.out]; simp [*])
                        clear HLB HZF
                        go_wp2_with fail
                        go_ret
                        exact ⟨by rw [HV.out]; rfl, HCE.out⟩
                      · have b5 : ¬ (50 : Int) < gn := by omega
                        first
                          | (exfalso; omega)
                          | (
                            have HV : Hid (LB = false) := Lib.hid (by rw [HLB.out, HZF.out]; simp [*])
                            clear HLB HZF
                            go_wp2_with fail
                            go_ret
                            exact ⟨by rw [HV.out]; rfl, HCE.out⟩)
          · have e1 : ¬ (k2 : Int) < gn := fun h => hlt2 (Int.ofNat_lt.1 h)
            have HKG : Hid (min gn 60 = k2) := Lib.hid (by omega)
            clear hlt2 hk3 hk4
            have HZF : Hid (sumG (sumF tn L (min n 20)) G (min gn 60) = z2) := Lib.hid (by rw [HKM.out, ← HZ.out, HKG.out, HZ2.out])
            have HCE := Lib.hid (HC0.out.trans HC2.out (by simp))
            have c23 : wr.cell? ⟨q, 23, none⟩ = some (.slice ao nb rc) := by rw [cell_of_row _ _ _ _ _ _ ((HC2.out.block q (lt_of_block HX0.out) (by simp)).trans HX0.out)]; exact HBL.out
            clear HZ2 HKG HC2 HKM HZ
            by_cases a1 : 10 < n
            · have b1 : (10 : Int) < n := by omega
              have HV : Hid (LB = true) := Lib.hid (by rw [HLB.out, HZF.out]; simp [*])
              clear HLB HZF
              go_wp2_with fail
              go_ret
              exact ⟨by rw [HV.out]; rfl, HCE.out⟩
            · have b1 : ¬ (10 : Int) < n := by omega
              by_cases a2 : 20000 < z2
              ·
                have HV : Hid (LB = true) := Lib.hid (by rw [HLB.out, HZF.out]; simp [*])
                clear HLB HZF
                go_wp2_with fail
                go_ret
                exact ⟨by rw [HV.out]; rfl, HCE.out⟩
              · by_cases a3 : 50 < nb
                · have b3 : (50 : Int) < nb := by omega
                  have HV : Hid (LB = true) := Lib.hid (by rw [HLB.out, HZF.out]; simp [*])
                  clear HLB HZF
                  go_wp2_with fail
                  go_ret
                  exact ⟨by rw [HV.out]; rfl, HCE.out⟩
                · have b3 : ¬ (50 : Int) < nb := by omega
                  by_cases a4 : 50 < ln
                  · have b4 : (50 : Int) < ln := by omega
                    have HV : Hid (LB = true) := Lib.hid (by rw [HLB.out, HZF.out]; simp [*])
                    clear HLB HZF
                    go_wp2_with fail
                    go_ret
                    exact ⟨by rw [HV.out]; rfl, HCE.out⟩
                  · have b4 : ¬ (50 : Int) < ln := by omega
                    by_cases a5 : 50 < gn
                    · have b5 : (50 : Int) < gn := by omega
                      have HV : Hid (LB = true) := Lib.hid (by rw [HLB.out, HZF.out]; simp [*])
                      clear HLB HZF
                      go_wp2_with fail
                      go_ret
                      exact ⟨by rw [HV.out]; rfl, HCE.out⟩
                    · have b5 : ¬ (50 : Int) < gn := by omega
                      first
                        | (exfalso; omega)
                        | (
                          have HV : Hid (LB = false) := Lib.hid (by rw [HLB.out, HZF.out]; simp [*])
                          clear HLB HZF
                          go_wp2_with fail
                          go_ret
                          exact ⟨by rw [HV.out]; rfl, HCE.out⟩)
    · have e1 : ¬ (k : Int) < n := fun h => hlt (Int.ofNat_lt.1 h)
      have HKM : Hid (min n 20 = k) := Lib.hid (by omega)
      clear hk hk2
      have HG0 : Hid (z = sumG z G 0) := Lib.hid rfl
      have HCA := Lib.hid HC.out
      clear HC
      go_wp2_with fail
      go_loopw [11, 13] (fun v11 v13 wr2 => ∃ (k2 : Nat) (z2 : Int), v11 = .int .i64 z2 ∧ v13 = .int .i64 (k2 : Int) ∧ k2 ≤ gn ∧ k2 ≤ 60 ∧ Hid (z2 = sumG z G k2) ∧ Hid (Chg [] w1 wr2)) (fun _ v _ => gn - (intOf v).toNat)
      case atStart => exact ⟨0, z, rfl, rfl, Nat.zero_le _, Nat.zero_le _, HG0, HCA⟩
      case round =>
        clear HG0 HCA hlt e1
        obtain ⟨k2, z2, rfl, rfl, hk3, hk4, HZ2, HC2⟩ := hrel
        by_cases hlt2 : k2 < gn
        · have e1 : (k2 : Int) < gn := Int.ofNat_lt.2 hlt2
          by_cases h60 : k2 < 60
          · have e2 : (k2 : Int) < 60 := by omega
            have e0 : (0 : Int) ≤ k2 := Int.natCast_nonneg _
            have hkc2 : k2 < gc := by omega
            obtain ⟨g, hg⟩ := HGG.out k2 hlt2
            obtain ⟨ag, rfl, hcg⟩ := HSG.out k2 g hg _ (HC0.out.trans HC2.out (by simp))
            have HNG := Lib.hid (sumG_next (z := z) hg)
            rw [← HZ2.out] at HNG
            generalize g.xs.length = gl at *
            generalize g.ao = ga at *
            generalize g.cap = gcp at *
            clear HZ2 hg
            go_wp2_with fail
            go_roundw
            case rel => exact ⟨k2 + 1, _, rfl, by go_num, hlt2, h60, Lib.hid HNG.out.symm, HC2⟩
            case measure => simp [intOf] <;> omega
          · have e2 : ¬ (k2 : Int) < 60 := by omega
            have HKG : Hid (min gn 60 = k2) := Lib.hid (by omega)
            clear hlt2 h60 hk3 hk4
            have HZF : Hid (sumG (sumF tn L (min n 20)) G (min gn 60) = z2) := Lib.hid (by rw [HKM.out, ← HZ.out, HKG.out, HZ2.out])
            have HCE := Lib.hid (HC0.out.trans HC2.out (by simp))
            have c23 : wr.cell? ⟨q, 23, none⟩ = some (.slice ao nb rc) := by rw [cell_of_row _ _ _ _ _ _ ((HC2.out.block q (lt_of_block HX0.out) (by simp)).trans HX0.out)]; exact HBL.out
            clear HZ2 HKG HC2 HKM HZ
            by_cases a1 : 10 < n
            · have b1 : (10 : Int) < n := by omega
              have HV : Hid (LB = true) := Lib.hid (by rw [HLB.out, HZF.out]; simp [*])
              clear HLB HZF
              go_wp2_with fail
              go_ret
              exact ⟨by rw [HV.out]; rfl, HCE.out⟩
            · have b1 : ¬ (10 : Int) < n := by omega
              by_cases a2 : 20000 < z2
              ·
                have HV : Hid (LB = true) := Lib.hid (by rw [HLB.out, HZF.out]; simp [*])
                clear HLB HZF
                go_wp2_with fail
                go_ret
                exact ⟨by rw [HV.out]; rfl, HCE.out⟩
              · by_cases a3 : 50 < nb
                · have b3 : (50 : Int) < nb := by omega
                  have HV : Hid (LB = true) := Lib.hid (by rw [HLB.out, HZF.out]; simp [*])
                  clear HLB HZF
                  go_wp2_with fail
                  go_ret
                  exact ⟨by rw [HV.out]; rfl, HCE.out⟩
                · have b3 : ¬ (50 : Int) < nb := by omega
                  by_cases a4 : 50 < ln
                  · have b4 : (50 : Int) < ln := by omega
                    have HV : Hid (LB = true) := Lib.hid (by rw [HLB.out, HZF.out]; simp [*])
                    clear HLB HZF
                    go_wp2_with fail
                    go_ret
                    exact ⟨by rw [HV.out]; rfl, HCE.out⟩
                  · have b4 : ¬ (50 : Int) < ln := by omega
                    by_cases a5 : 50 < gn
                    · have b5 : (50 : Int) < gn := by omega
                      have HV : Hid (LB = true) := Lib.hid (by rw [HLB.out, HZF.out]; simp [*])
                      clear HLB HZF
                      go_wp2_with fail
                      go_ret
                      exact ⟨by rw [HV.out]; rfl, HCE.out⟩
                    · have b5 : ¬ (50 : Int) < gn := by omega
                      first
                        | (exfalso; omega)
                        | (
                          have HV : Hid (LB = false) := Lib.hid (by rw [HLB.out, HZF.out]; simp [*])
                          clear HLB HZF
                          go_wp2_with fail
                          go_ret
                          exact ⟨by rw [HV.out]; rfl, HCE.out⟩)
        · have e1 : ¬ (k2 : Int) < gn := fun h => hlt2 (Int.ofNat_lt.1 h)
          have HKG : Hid (min gn 60 = k2) := Lib.hid (by omega)
          clear hlt2 hk3 hk4
          have HZF : Hid (sumG (sumF tn L (min n 20)) G (min gn 60) = z2) := Lib.hid (by rw [HKM.out, ← HZ.out, HKG.out, HZ2.out])
          have HCE := Lib.hid (HC0.out.trans HC2.out (by simp))
          have c23 : wr.cell? ⟨q, 23, none⟩ = some (.slice ao nb rc) := by rw [cell_of_row _ _ _ _ _ _ ((HC2.out.block q (lt_of_block HX0.out) (by simp)).trans HX0.out)]; exact HBL.out
          clear HZ2 HKG HC2 HKM HZ
          by_cases a1 : 10 < n
          · have b1 : (10 : Int) < n := by omega
            have HV : Hid (LB = true) := Lib.hid (by rw [HLB.out, HZF.out]; simp [*])
            clear HLB HZF
            go_wp2_with fail
            go_ret
            exact ⟨by rw [HV.out]; rfl, HCE.out⟩
          · have b1 : ¬ (10 : Int) < n := by omega
            by_cases a2 : 20000 < z2
            ·
              have HV : Hid (LB = true) := Lib.hid (by rw [HLB.out, HZF.out]; simp [*])
              clear HLB HZF
              go_wp2_with fail
              go_ret
              exact ⟨by rw [HV.out]; rfl, HCE.out⟩
            · by_cases a3 : 50 < nb
              · have b3 : (50 : Int) < nb := by omega
                have HV : Hid (LB = true) := Lib.hid (by rw [HLB.out, HZF.out]; simp [*])
                clear HLB HZF
                go_wp2_with fail
                go_ret
                exact ⟨by rw [HV.out]; rfl, HCE.out⟩
              · have b3 : ¬ (50 : Int) < nb := by omega
                by_cases a4 : 50 < ln
                · have b4 : (50 : Int) < ln := by omega
                  have HV : Hid (LB = true) := Lib.hid (by rw [HLB.out, HZF.out]; simp [*])
                  clear HLB HZF
                  go_wp2_with fail
                  go_ret
                  exact ⟨by rw [HV.out]; rfl, HCE.out⟩
                · have b4 : ¬ (50 : Int) < ln := by omega
                  by_cases a5 : 50 < gn
                  · have b5 : (50 : Int) < gn := by omega
                    have HV : Hid (LB = true) := Lib.hid (by rw [HLB.out, HZF.out]; simp [*])
                    clear HLB HZF
                    go_wp2_with fail
                    go_ret
                    exact ⟨by rw [HV.out]; rfl, HCE.out⟩
                  · have b5 : ¬ (50 : Int) < gn := by omega
                    first
                      | (exfalso; omega)
                      | (
                        have HV : Hid (LB = false) := Lib.hid (by rw [HLB.out, HZF.out]; simp [*])
                        clear HLB HZF
                        go_wp2_with fail
                        go_ret
                        exact ⟨by rw [HV.out]; rfl, HCE.out⟩)
end Go.Proofs.YtfdhpjflkimihaaDoor
/- Rows of files and of what was got, opened. No conditions beyond those that each statement types. -/
namespace Go.Proofs.YtfdhpjflkimihaaDoor
open Go.RowKit Go.ChangeShapes Go.WideShapes Go.ChangeAt Go.Deep

theorem open_bytesC {H : Type} {enc : TypeId × Value → H} {w : World} {v : Value} {d : DataW H} {ps : List MemPlace} (hv : ∃ ao n c, v = .slice ao n c)
    (h : DataW.Trod enc Tryd.prog w 0 (fun _ => true) true 25 v d ps) : ∃ ao c l, v = .slice ao (List.length l) c ∧ Src w ao (bvs l) ∧ l.length ≤ c := by
  obtain ⟨ao, c, l, h1, _, _, h4, h5⟩ := open_bytesB hv h
  exact ⟨ao, c, l, h1, h5, h4⟩
theorem open_bytesD {H : Type} {enc : TypeId × Value → H} {w : World} {v : Value} {d : DataW H} {ps : List MemPlace} (hv : ∃ ao n c, v = .slice ao n c)
    (h : DataW.Trod enc Tryd.prog w 0 (fun _ => true) true 25 v d ps) : ∃ ao c l, v = .slice ao (List.length l) c ∧ Src w ao (bvs l) ∧ l.length ≤ 9223372036854775807 ∧ l.length ≤ c ∧ (ao = none → c = 0) := by
  obtain ⟨ao, c, l, h1, h2, h3, h4, h5⟩ := open_bytesB hv h
  exact ⟨ao, c, l, h1, h5, h2, h4, h3⟩
/-- A slice of bytes in a cell. -/
theorem cell_bytes {H : Type} {enc : TypeId × Value → H} {w : World} {n : Nat} {cs : List Value} {y : DataW H × List MemPlace} (h : DataW.trod enc Tryd.prog w 0 (fun _ => true) true n 25 cs = some y) :
    ∃ ao c l, cs = [.slice ao (List.length l) c] ∧ PV w [] (.slice ao l.length c) l ∧ l.length ≤ 9223372036854775807 := by
  have key : ∀ v : Value, (∃ ao n c, v = .slice ao n c) → cs = [v] → ∃ ao c l, cs = [.slice ao (List.length l) c] ∧ PV w [] (.slice ao l.length c) l ∧ l.length ≤ 9223372036854775807 := by
    intro v hv hc
    obtain ⟨ao0, n0, c0, rfl⟩ := hv
    obtain ⟨ao, c, l, h1, h2, h3, h4, h5⟩ := open_bytesB (d := y.1) (ps := y.2) ⟨ao0, n0, c0, rfl⟩ ⟨n, by rw [hc] at h; exact h⟩
    refine ⟨ao, c, l, by rw [hc, h1], ⟨ao, c, rfl, h5, h4, h3, fun hp a ha => ⟨List.not_mem_nil, ?_⟩⟩, h2⟩
    obtain ⟨a2, e, hl⟩ := h5.lt (by rw [bvs_length]; exact hp)
    rw [ha] at e
    cases e
    exact hl
  rcases DataW.trod_slice Tryd.underlying25 h with h0 | ⟨a, len, cap, _, _, _, _, hcs, _⟩
  · exact key _ ⟨none, 0, 0, rfl⟩ h0.1
  · exact key _ ⟨some a, len, cap, rfl⟩ hcs
set_option maxRecDepth 100000 in
theorem dec_file {H : Type} {enc : TypeId × Value → H} {w : World} (fuel : Nat) (cs : List Value) (x : DataW H × List MemPlace) (h : DataW.trod enc Tryd.prog w 0 (fun _ => true) true fuel 143 cs = some x) :
    ∃ f : FileV, cs = f.cells.toList ∧ (PV w [] (.slice f.ao f.xs.length f.cap) f.xs ∧ f.xs.length ≤ 9223372036854775807) := by
  obtain ⟨xs, n, _, _, hl, hx, hf⟩ := DataW.trod_struct Tryd.underlying143 h
  rw [show Tryd.prog.cellsOf 143 = 2 from by kernel_rfl] at hl
  have hx2 : xs.length = 2 := hx
  have f0 := hf 0 _ rfl
  have f1 := hf 1 _ rfl
  rw [List.getElem?_eq_getElem (by omega)] at f0 f1
  obtain ⟨s, e0, _, _⟩ := DataW.trod_string Tryd.underlying9 f0
  obtain ⟨ao, c, l, e1, h1, h2⟩ := cell_bytes f1
  have e0 : (cs.drop 0).take (Tryd.prog.cellsOf 9) = [.string s] := e0
  have e1 : (cs.drop 1).take (Tryd.prog.cellsOf 25) = [.slice ao l.length c] := e1
  rw [show Tryd.prog.cellsOf 9 = 1 from by kernel_rfl] at e0
  rw [show Tryd.prog.cellsOf 25 = 1 from by kernel_rfl] at e1
  refine ⟨⟨s, ao, l, c⟩, ?_, h1, h2⟩
  match cs, hl with
  | [u, v], _ =>
    have e0 : [u] = [Value.string s] := e0
    have e1 : [v] = [Value.slice ao l.length c] := e1
    cases e0
    cases e1
    rfl
instance : Inhabited FileV := ⟨⟨⟨#[]⟩, none, [], 0⟩⟩
theorem open_files {H : Type} {enc : TypeId × Value → H} {w : World} {v : Value} {d : DataW H} {ps : List MemPlace} (hv : ∃ ao n c, v = .slice ao n c)
    (h : DataW.Trod enc Tryd.prog w 0 (fun _ => true) true 71 v d ps) : ∃ ao c l, v = .slice ao (List.length l) c ∧ FilesAt w ao c l := by
  obtain ⟨ao, c, l, h1, h2, h3, h4, h5, h6, _⟩ := open_rows (fun f : FileV => f.cells.toList) (fun f : FileV => PV w [] (.slice f.ao f.xs.length f.cap) f.xs ∧ f.xs.length ≤ 9223372036854775807) (size := 2) Tryd.underlying71 (by kernel_rfl) (by decide) (fun _ => rfl) dec_file hv h
  exact ⟨ao, c, l, h1, h4, h6, fun k f hf => h3 f (List.mem_of_getElem? hf)⟩
end Go.Proofs.YtfdhpjflkimihaaDoor
/- Arguments of the copier's rows, opened, with what their sizes say of what lies in them. No conditions beyond those that each statement types. -/
namespace Go.Proofs.YtfdhpjflkimihaaDoor
open Go.RowKit Go.ChangeShapes Go.WideShapes Go.ChangeAt Go.Deep

/-- What is held of it takes no more than can be reached. -/
def Small {H : Type} (P : Program) (t : TypeId) (d : DataW H) : Prop := ∀ n ∈ d.weights P t, n ≤ reachBytes
theorem small_arg {H : Type} {P : Program} {ts : List TypeId} {ds : List (DataW H)} (h : (DataW.weightsEach P ts ds).all (· ≤ reachBytes) = true) {j : Nat} {t : TypeId} {d : DataW H} (ht : ts[j]? = some t) (hd : ds[j]? = some d) : Small P t d :=
  fun n hn => by simpa using List.all_eq_true.1 h _ (DataW.weights_mem_each ht hd n hn)
theorem weights_mem_all {H : Type} {P : Program} {e : TypeId} : ∀ {l : List (DataW H)} {x : DataW H}, x ∈ l → ∀ n ∈ x.weights P e, n ∈ DataW.weightsAll P e l
  | [], _, h, _, _ => by cases h
  | d :: r, x, h, n, hn => by
    simp only [DataW.weightsAll, List.mem_append]
    rcases List.mem_cons.1 h with rfl | h
    · exact .inl hn
    · exact .inr (weights_mem_all h n hn)
theorem small_elem {H : Type} {P : Program} {t e : TypeId} {elems spare : List (DataW H)} {x : DataW H} (hu : P.underlying t = some (.slice e)) (h : Small P t (.slice elems spare)) (hx : x ∈ elems) : Small P e x := fun n hn => h n (by
  simp only [DataW.weights, hu, List.mem_cons, List.mem_append]
  exact .inr (.inl (weights_mem_all hx n hn)))
theorem small_part {H : Type} {P : Program} {t : TypeId} {fs : Array Field} {parts : List (DataW H)} {j : Nat} {d : DataW H} {f : Field} (hu : P.underlying t = some (.struct fs)) (h : Small P t (.agg parts)) (hf : fs[j]? = some f) (hd : parts[j]? = some d) : Small P f.type d := fun n hn => h n (by
  simp only [DataW.weights, hu]
  exact DataW.weights_mem_each (j := j) (by simp [hf]) hd n hn)
theorem small_slice {H : Type} {P : Program} {t e : TypeId} {elems spare : List (DataW H)} (hu : P.underlying t = some (.slice e)) (hb : P.bytesOf e = 1) (h : Small P t (.slice elems spare)) : elems.length ≤ reachBytes := by
  have := h ((elems.length + spare.length) * P.bytesOf e) (by simp [DataW.weights, hu])
  rw [hb] at this
  omega
theorem small_string {H : Type} {P : Program} {t : TypeId} {bs : List UInt8} (h : Small P t (.lit (.string bs) : DataW H)) : bs.length ≤ reachBytes := h _ (by simp [DataW.weights])

theorem open_rowsZ {α H : Type} [Inhabited α] {enc : TypeId × Value → H} {P : Program} {w : World} {t e : TypeId} {size : Nat} {v : Value} {d : DataW H} {ps : List MemPlace} (cells : α → List Value) (ok : α → Prop) (ht : P.underlying t = some (.slice e))
    (hc : P.cellsOf e = size) (hs : 0 < size) (hcl : ∀ q, (cells q).length = size) (dec : ∀ fuel cs x, DataW.trod enc P w 0 (fun _ => true) true fuel e cs = some x → Small P e x.1 → ∃ q, cs = cells q ∧ ok q)
    (hv : ∃ ao n c, v = .slice ao n c) (h : DataW.Trod enc P w 0 (fun _ => true) true t v d ps) (hz : Small P t d) :
    ∃ ao c, ∃ l : List α, v = .slice ao l.length c ∧ l.length ≤ 9223372036854775807 ∧ (∀ x ∈ l, ok x) ∧ Src w ao (l.flatMap cells) ∧ (ao = none → c = 0) ∧ l.length ≤ c ∧ c ≤ 9223372036854775807 := by
  obtain ⟨ao, n0, c0, rfl⟩ := hv
  obtain ⟨fuel, hf⟩ := h
  rcases DataW.trod_slice ht hf with h0 | ⟨a, len, cap, elems, rest, n, _, hcs, hx, _, hl, hm, hel, hi, _⟩
  · obtain ⟨h0, _⟩ := h0
    have h1 : Value.slice ao n0 c0 = .slice none 0 0 := by simpa [Value.cells] using h0
    exact ⟨none, 0, [], h1, by simp, by simp, Src.empty _ _, fun _ => rfl, by simp, by simp⟩
  · have h1 : Value.slice ao n0 c0 = .slice (some a) len cap := by simpa [Value.cells] using hcs
    have hd : d = .slice (elems.map (·.1)) (rest.map (·.1)) := (Prod.mk.inj hx).1
    rw [hd] at hz
    have key : ∀ i, i < len → ∃ q : α, (∀ r, r < size → w.cell? (a.add (i * size + r)) = (cells q)[r]?) ∧ ok q := by
      intro i hil
      have h2 := hi i hil
      rw [List.getElem?_eq_getElem (by omega), hc] at h2
      obtain ⟨cs, h3, h4⟩ := Option.bind_eq_some_iff.1 h2
      obtain ⟨q, rfl, hq⟩ := dec _ _ _ h4 (small_elem ht hz (List.mem_map.2 ⟨_, List.getElem_mem _, rfl⟩))
      refine ⟨q, fun r hr => ?_, hq⟩
      have h5 := World.cells?_some h3
      have h6 : w.cell? ((a.add (i * size)).add r) = (cells q)[r]? := h5.2.2 r hr
      rw [← h6]
      congr 1
      unfold Addr.add
      by_cases h7 : i * size = 0 <;> by_cases h8 : r = 0 <;> simp [h7, h8, Nat.add_assoc]
    obtain ⟨g, hg⟩ : ∃ g : Nat → α, ∀ i, i < len → (∀ r, r < size → w.cell? (a.add (i * size + r)) = (cells (g i))[r]?) ∧ ok (g i) := by
      refine ⟨fun i => if h : i < len then (key i h).choose else default, fun i h => ?_⟩
      simp only [h, dif_pos]
      exact (key i h).choose_spec
    refine ⟨some a, cap, (List.range len).map g, by simpa using h1, by unfold maxLen at hm; simp; omega, fun x hx => ?_, ⟨fun h => by (cases h), fun b hb j u hu => ?_⟩, fun h => by (cases h), by simpa using hl, by unfold maxLen at hm; exact hm⟩
    · obtain ⟨i, hi2, rfl⟩ := List.mem_map.1 hx
      exact (hg i (List.mem_range.1 hi2)).2
    · cases hb
      obtain ⟨q, h2, h3⟩ := flat_at hs hcl hu
      have hj : j / size < len := by
        have := (List.getElem?_eq_some_iff.1 h2).1
        simpa using this
      simp [hj] at h2
      subst h2
      have := (hg _ hj).1 (j % size) (Nat.mod_lt _ hs)
      rw [← h3, ← this, show j / size * size + j % size = j by rw [Nat.mul_comm]; exact Nat.div_add_mod _ _]

theorem Tryd.bytesByte : Tryd.prog.bytesOf 5 = 1 := by kernel_rfl
/-- A slice of bytes in a cell, and how long it may be. -/
theorem cell_bytesZ {H : Type} {enc : TypeId × Value → H} {w : World} {n : Nat} {cs : List Value} {y : DataW H × List MemPlace} (h : DataW.trod enc Tryd.prog w 0 (fun _ => true) true n 25 cs = some y) (hz : Small Tryd.prog 25 y.1) :
    ∃ ao c l, cs = [.slice ao (List.length l) c] ∧ PV w [] (.slice ao l.length c) l ∧ l.length ≤ reachBytes := by
  obtain ⟨ao, c, l, e, h1, _⟩ := cell_bytes h
  refine ⟨ao, c, l, e, h1, ?_⟩
  rcases DataW.trod_slice Tryd.underlying25 h with h0 | ⟨a, len, cap, elems, rest, _, _, hcs, hx, _, _, _, hel, _⟩
  · have := e.symm.trans h0.1
    simp only [List.cons.injEq, Value.slice.injEq, and_true] at this
    rw [this.2.1]
    exact Nat.zero_le _
  · have := e.symm.trans hcs
    simp only [List.cons.injEq, Value.slice.injEq, and_true] at this
    rw [hx] at hz
    have h2 := small_slice Tryd.underlying25 Tryd.bytesByte hz
    rw [List.length_map] at h2
    omega
theorem open_bytesZ {H : Type} {enc : TypeId × Value → H} {w : World} {v : Value} {d : DataW H} {ps : List MemPlace} (hv : ∃ ao n c, v = .slice ao n c)
    (h : DataW.Trod enc Tryd.prog w 0 (fun _ => true) true 25 v d ps) (hz : Small Tryd.prog 25 d) : ∃ ao c l, v = .slice ao (List.length l) c ∧ Src w ao (bvs l) ∧ l.length ≤ reachBytes ∧ l.length ≤ c ∧ (ao = none → c = 0) := by
  obtain ⟨ao0, n0, c0, rfl⟩ := hv
  obtain ⟨fuel, hf⟩ := h
  obtain ⟨ao, c, l, e, hp, hl⟩ := cell_bytesZ (cs := [.slice ao0 n0 c0]) hf hz
  obtain ⟨po, pc, e2, h1, h2, h3, _⟩ := hp
  cases e2
  simp only [List.cons.injEq, and_true] at e
  exact ⟨ao, c, l, e, h1, hl, h2, h3⟩
set_option maxRecDepth 100000 in
theorem dec_fileZ {H : Type} {enc : TypeId × Value → H} {w : World} (fuel : Nat) (cs : List Value) (x : DataW H × List MemPlace) (h : DataW.trod enc Tryd.prog w 0 (fun _ => true) true fuel 143 cs = some x) (hz : Small Tryd.prog 143 x.1) :
    ∃ f : FileV, cs = f.cells.toList ∧ (PV w [] (.slice f.ao f.xs.length f.cap) f.xs ∧ f.xs.length ≤ reachBytes ∧ f.name.size ≤ reachBytes) := by
  obtain ⟨xs, n, _, hd, hl, hx, hf⟩ := DataW.trod_struct Tryd.underlying143 h
  rw [show Tryd.prog.cellsOf 143 = 2 from by kernel_rfl] at hl
  have hx2 : xs.length = 2 := hx
  rw [hd] at hz
  have f0 := hf 0 _ rfl
  have f1 := hf 1 _ rfl
  have z0 := small_part (j := 0) (d := (xs[0]'(by omega)).1) Tryd.underlying143 hz rfl (by simp [hx2])
  have z1 := small_part (j := 1) (d := (xs[1]'(by omega)).1) Tryd.underlying143 hz rfl (by simp [hx2])
  rw [List.getElem?_eq_getElem (by omega)] at f0 f1
  obtain ⟨s, e0, d0, _⟩ := DataW.trod_string Tryd.underlying9 f0
  rw [d0] at z0
  have hs : s.data.toList.length ≤ reachBytes := small_string z0
  obtain ⟨ao, c, l, e1, h1, h2⟩ := cell_bytesZ f1 z1
  have e0 : (cs.drop 0).take (Tryd.prog.cellsOf 9) = [.string s] := e0
  have e1 : (cs.drop 1).take (Tryd.prog.cellsOf 25) = [.slice ao l.length c] := e1
  rw [show Tryd.prog.cellsOf 9 = 1 from by kernel_rfl] at e0
  rw [show Tryd.prog.cellsOf 25 = 1 from by kernel_rfl] at e1
  refine ⟨⟨s, ao, l, c⟩, ?_, h1, h2, by rw [Array.length_toList] at hs; exact hs⟩
  clear hf f0 f1 h
  revert e0 e1
  match cs, hl with
  | [u, v], _ =>
    intro e0 e1
    have e0 : [u] = [Value.string s] := e0
    have e1 : [v] = [Value.slice ao l.length c] := e1
    cases e0
    cases e1
    rfl
theorem open_filesZ {H : Type} {enc : TypeId × Value → H} {w : World} {v : Value} {d : DataW H} {ps : List MemPlace} (hv : ∃ ao n c, v = .slice ao n c)
    (h : DataW.Trod enc Tryd.prog w 0 (fun _ => true) true 71 v d ps) (hz : Small Tryd.prog 71 d) : ∃ ao c l, v = .slice ao (List.length l) c ∧ FilesAt w ao c l ∧ ∀ f ∈ l, f.xs.length ≤ reachBytes ∧ f.name.size ≤ reachBytes := by
  obtain ⟨ao, c, l, h1, h2, h3, h4, h5, h6, _⟩ := open_rowsZ (fun f : FileV => f.cells.toList) (fun f : FileV => PV w [] (.slice f.ao f.xs.length f.cap) f.xs ∧ f.xs.length ≤ reachBytes ∧ f.name.size ≤ reachBytes) (size := 2) Tryd.underlying71 (by kernel_rfl) (by decide) (fun _ => rfl) dec_fileZ hv h hz
  exact ⟨ao, c, l, h1, ⟨h4, h6, fun k f hf => ⟨(h3 f (List.mem_of_getElem? hf)).1, Nat.le_trans (h3 f (List.mem_of_getElem? hf)).2.1 (by decide)⟩⟩, fun f hf => (h3 f hf).2⟩
instance : Inhabited GotV := ⟨⟨0, none, [], 0⟩⟩
set_option maxRecDepth 100000 in
theorem dec_gotZ {H : Type} {enc : TypeId × Value → H} {w : World} (fuel : Nat) (cs : List Value) (x : DataW H × List MemPlace) (h : DataW.trod enc Tryd.prog w 0 (fun _ => true) true fuel 104 cs = some x) (hz : Small Tryd.prog 104 x.1) :
    ∃ f : GotV, cs = f.cells.toList ∧ (PV w [] (.slice f.ao f.xs.length f.cap) f.xs ∧ f.xs.length ≤ reachBytes) := by
  obtain ⟨xs, n, _, hd, hl, hx, hf⟩ := DataW.trod_struct Tryd.underlying104 h
  rw [show Tryd.prog.cellsOf 104 = 2 from by kernel_rfl] at hl
  have hx2 : xs.length = 2 := hx
  rw [hd] at hz
  have f0 := hf 0 _ rfl
  have f1 := hf 1 _ rfl
  have z1 := small_part (j := 1) (d := (xs[1]'(by omega)).1) Tryd.underlying104 hz rfl (by simp [hx2])
  rw [List.getElem?_eq_getElem (by omega)] at f0 f1
  obtain ⟨s, e0, _, _⟩ := DataW.trod_int Tryd.underlying3 f0
  obtain ⟨ao, c, l, e1, h1, h2⟩ := cell_bytesZ f1 z1
  have e0 : (cs.drop 0).take (Tryd.prog.cellsOf 3) = [.int .i64 s] := e0
  have e1 : (cs.drop 1).take (Tryd.prog.cellsOf 25) = [.slice ao l.length c] := e1
  rw [show Tryd.prog.cellsOf 3 = 1 from by kernel_rfl] at e0
  rw [show Tryd.prog.cellsOf 25 = 1 from by kernel_rfl] at e1
  refine ⟨⟨s, ao, l, c⟩, ?_, h1, h2⟩
  clear hf f0 f1 h
  revert e0 e1
  match cs, hl with
  | [u, v], _ =>
    intro e0 e1
    have e0 : [u] = [Value.int .i64 s] := e0
    have e1 : [v] = [Value.slice ao l.length c] := e1
    cases e0
    cases e1
    rfl
theorem open_gotsZ {H : Type} {enc : TypeId × Value → H} {w : World} {v : Value} {d : DataW H} {ps : List MemPlace} (hv : ∃ ao n c, v = .slice ao n c)
    (h : DataW.Trod enc Tryd.prog w 0 (fun _ => true) true 87 v d ps) (hz : Small Tryd.prog 87 d) : ∃ ao c l, v = .slice ao (List.length l) c ∧ GotsAt w ao c l ∧ ∀ g ∈ l, g.xs.length ≤ reachBytes := by
  obtain ⟨ao, c, l, h1, h2, h3, h4, h5, h6, _⟩ := open_rowsZ (fun f : GotV => f.cells.toList) (fun f : GotV => PV w [] (.slice f.ao f.xs.length f.cap) f.xs ∧ f.xs.length ≤ reachBytes) (size := 2) Tryd.underlying87 (by kernel_rfl) (by decide) (fun _ => rfl) dec_gotZ hv h hz
  exact ⟨ao, c, l, h1, ⟨h4, h6, h5, fun k f hf => (h3 f (List.mem_of_getElem? hf)).1⟩, fun f hf => (h3 f hf).2⟩
instance : Inhabited StepV := ⟨⟨0, 0, ⟨#[]⟩, 0, 0⟩⟩
set_option maxRecDepth 100000 in
theorem dec_step {H : Type} {enc : TypeId × Value → H} {w : World} (fuel : Nat) (cs : List Value) (x : DataW H × List MemPlace) (h : DataW.trod enc Tryd.prog w 0 (fun _ => true) true fuel 85 cs = some x) :
    ∃ s : StepV, cs = s.cells.toList ∧ True := by
  obtain ⟨xs, n, _, _, hl, hx, hf⟩ := DataW.trod_struct Tryd.underlying85 h
  rw [show Tryd.prog.cellsOf 85 = 5 from by kernel_rfl] at hl
  have hx4 : xs.length = 4 := hx
  have f0 := hf 0 _ rfl
  have f1 := hf 1 _ rfl
  have f2 := hf 2 _ rfl
  have f3 := hf 3 _ rfl
  rw [List.getElem?_eq_getElem (by omega)] at f0 f1 f2 f3
  obtain ⟨b, e0, _⟩ := DataW.trod_int Tryd.underlying3 f0
  obtain ⟨f, e1, _⟩ := DataW.trod_int Tryd.underlying3 f1
  obtain ⟨sm, e3, _⟩ := DataW.trod_int Tryd.underlying3 f3
  obtain ⟨ys, m, _, _, hly, hy, hg⟩ := DataW.trod_struct Tryd.underlying57 f2
  have hy2 : ys.length = 2 := hy
  have g0 := hg 0 _ rfl
  have g1 := hg 1 _ rfl
  rw [List.getElem?_eq_getElem (by omega)] at g0 g1
  obtain ⟨nm, i0, _⟩ := DataW.trod_string Tryd.underlying9 g0
  obtain ⟨pb, i1, _⟩ := DataW.trod_int Tryd.underlying3 g1
  have e0 : (cs.drop 0).take (Tryd.prog.cellsOf 3) = [.int .i64 b] := e0
  have e1 : (cs.drop 1).take (Tryd.prog.cellsOf 3) = [.int .i64 f] := e1
  have e3 : (cs.drop 4).take (Tryd.prog.cellsOf 3) = [.int .i64 sm] := e3
  have i0 : (((cs.drop 2).take (Tryd.prog.cellsOf 57)).drop 0).take (Tryd.prog.cellsOf 9) = [.string nm] := i0
  have i1 : (((cs.drop 2).take (Tryd.prog.cellsOf 57)).drop 1).take (Tryd.prog.cellsOf 3) = [.int .i64 pb] := i1
  rw [show Tryd.prog.cellsOf 3 = 1 from by kernel_rfl] at e0 e1 e3 i1
  rw [show Tryd.prog.cellsOf 57 = 2 from by kernel_rfl] at i0 i1
  rw [show Tryd.prog.cellsOf 9 = 1 from by kernel_rfl] at i0
  refine ⟨⟨b, f, nm, pb, sm⟩, ?_, trivial⟩
  clear hf f0 f1 f2 f3 h hg g0 g1 hly
  revert e0 e1 i0 i1 e3
  match cs, hl with
  | [u0, u1, u2, u3, u4], _ =>
    intro e0 e1 e3 i0 i1
    have e0 : [u0] = [Value.int .i64 b] := e0
    have e1 : [u1] = [Value.int .i64 f] := e1
    have i0 : [u2] = [Value.string nm] := i0
    have i1 : [u3] = [Value.int .i64 pb] := i1
    have e3 : [u4] = [Value.int .i64 sm] := e3
    cases e0
    cases e1
    cases i0
    cases i1
    cases e3
    rfl
theorem open_steps {H : Type} {enc : TypeId × Value → H} {w : World} {v : Value} {d : DataW H} {ps : List MemPlace} (hv : ∃ ao n c, v = .slice ao n c)
    (h : DataW.Trod enc Tryd.prog w 0 (fun _ => true) true 81 v d ps) : ∃ ao c l, v = .slice ao (List.length l) c ∧ Src w ao (svs l) ∧ l.length ≤ c := by
  obtain ⟨ao, c, l, h1, h2, h3, h4, h5, h6, _⟩ := open_rows (fun s : StepV => s.cells.toList) (fun _ => True) (size := 5) Tryd.underlying81 (by kernel_rfl) (by decide) (fun _ => rfl) dec_step hv h
  exact ⟨ao, c, l, h1, h4, h6⟩
set_option maxRecDepth 100000 in
theorem dec_hash {H : Type} {enc : TypeId × Value → H} {w : World} (fuel : Nat) (cs : List Value) (x : DataW H × List MemPlace) (h : DataW.trod enc Tryd.prog w 0 (fun _ => true) true fuel 32 cs = some x) :
    ∃ f : Nat → UInt8, cs = (hashC f).toList ∧ True := by
  obtain ⟨xs, m, _, _, hl, hxs, hel⟩ := DataW.trod_array Tryd.underlying32 h
  have hlen : cs.length = 32 := by rw [show Tryd.prog.cellsOf 32 = 32 from by kernel_rfl] at hl; exact hl
  have hget : ∀ i, i < 32 → ∃ x : UInt8, cs[i]? = some (bv x) := fun i hi => by
    have hE := hel i hi
    rw [Tryd.cellsByte, Nat.mul_one, List.getElem?_eq_getElem (by omega)] at hE
    obtain ⟨z, e1, _, hw⟩ := DataW.trod_int Tryd.underlying5 hE
    have h6 : (cs.drop i)[0]? = some (.int .u8 z) := by
      have := congrArg (fun l => l[0]?) e1
      simpa [List.getElem?_take, Value.cells] using this
    rw [List.getElem?_drop, Nat.add_zero] at h6
    have hb : 0 ≤ z ∧ z ≤ 255 := bounds_u8 hw
    refine ⟨UInt8.ofNat z.toNat, ?_⟩
    rw [h6]
    unfold bv
    rw [UInt8.toNat_ofNat', Nat.mod_eq_of_lt (by omega)]
    congr 2
    omega
  refine ⟨fun i => if h : i < 32 then Classical.choose (hget i h) else 0, ?_, trivial⟩
  apply List.ext_getElem?
  intro i
  by_cases hi : i < 32
  · have h1 := Classical.choose_spec (hget i hi)
    refine Eq.trans h1 (Eq.symm ?_)
    rw [Array.getElem?_toList, hashC, cut_get _ _ _ _ hi, Nat.zero_add]
    simp only [hi, dite_true]
  · rw [List.getElem?_eq_none (by omega), List.getElem?_eq_none (by rw [Array.length_toList, hashC_size]; omega)]
theorem cell_hashes {H : Type} {enc : TypeId × Value → H} {w : World} {n : Nat} {cs : List Value} {y : DataW H × List MemPlace} (h : DataW.trod enc Tryd.prog w 0 (fun _ => true) true n 27 cs = some y) :
    ∃ ao c L, cs = [.slice ao (List.length L) c] ∧ Src w ao (hvs L) ∧ L.length ≤ c ∧ (ao = none → c = 0) := by
  have key : ∀ v : Value, (∃ ao n c, v = .slice ao n c) → cs = [v] → ∃ ao c L, cs = [.slice ao (List.length L) c] ∧ Src w ao (hvs L) ∧ L.length ≤ c ∧ (ao = none → c = 0) := by
    intro v hv hc
    obtain ⟨ao0, n0, c0, rfl⟩ := hv
    obtain ⟨ao, c, L, h1, _, _, h4, h5, h6, _⟩ := open_rows (d := y.1) (ps := y.2) (fun f : Nat → UInt8 => (hashC f).toList) (fun _ => True) (size := 32) Tryd.underlying27 (by kernel_rfl) (by decide) (fun f => by rw [Array.length_toList]; exact hashC_size f) dec_hash ⟨ao0, n0, c0, rfl⟩ ⟨n, by rw [hc] at h; exact h⟩
    exact ⟨ao, c, L, by rw [hc, h1], h4, h6, h5⟩
  rcases DataW.trod_slice Tryd.underlying27 h with h0 | ⟨a, len, cap, _, _, _, _, hcs, _⟩
  · exact key _ ⟨none, 0, 0, rfl⟩ h0.1
  · exact key _ ⟨some a, len, cap, rfl⟩ hcs
set_option maxRecDepth 100000 in
theorem okWide_rec {w : World} {r : Reach} {b0 : Nat} {v : Value} (h : Value.okWide Tryd.prog w r b0 77 v) : ∃ cs, v = .agg cs := by
  simp only [Value.okWide, Tryd.underlying77] at h
  obtain ⟨cs, h1, _⟩ := h
  exact ⟨cs, h1⟩
theorem take_at {cs : List Value} {i : Nat} {v : Value} (h : (cs.drop i).take 1 = [v]) : cs[i]? = some v := by
  have := congrArg (fun l => l[0]?) h
  simpa [List.getElem?_take] using this
set_option maxRecDepth 100000 in
theorem open_rec {H : Type} {enc : TypeId × Value → H} {w : World} {r : Reach} {b0 : Nat} {v : Value} {d : DataW H} {ps : List MemPlace} (hv : Value.okWide Tryd.prog w r b0 77 v)
    (h : DataW.Trod enc Tryd.prog w 0 (fun _ => true) true 77 v d ps) : ∃ RC r ao c, v = .agg RC ∧ RecIs w RC r ao c := by
  obtain ⟨cs, rfl⟩ := okWide_rec hv
  obtain ⟨fuel, hf⟩ := h
  obtain ⟨xs, n, _, _, hl, hx, hg⟩ := DataW.trod_struct Tryd.underlying77 hf
  have hx12 : xs.length = 12 := hx
  have hlen : cs.size = 27 := by rw [show Tryd.prog.cellsOf 77 = 27 from by kernel_rfl] at hl; simpa [Value.cells] using hl
  have f1 := hg 1 _ rfl
  have f2 := hg 2 _ rfl
  have f3 := hg 3 _ rfl
  have f7 := hg 7 _ rfl
  have f8 := hg 8 _ rfl
  rw [List.getElem?_eq_getElem (by omega)] at f1 f2 f3 f7 f8
  obtain ⟨kd, e1, _⟩ := DataW.trod_int Tryd.underlying3 f1
  obtain ⟨dl, e2, _⟩ := DataW.trod_bool Tryd.underlying4 f2
  obtain ⟨sz, e3, _⟩ := DataW.trod_int Tryd.underlying3 f3
  obtain ⟨bs, e7, _⟩ := DataW.trod_int Tryd.underlying3 f7
  obtain ⟨ao, c, L, e8, h1, h2, h3⟩ := cell_hashes f8
  have e1 : (cs.toList.drop 1).take (Tryd.prog.cellsOf 3) = [.int .i64 kd] := e1
  have e2 : (cs.toList.drop 2).take (Tryd.prog.cellsOf 4) = [.bool dl] := e2
  have e3 : (cs.toList.drop 3).take (Tryd.prog.cellsOf 3) = [.int .i64 sz] := e3
  have e7 : (cs.toList.drop 22).take (Tryd.prog.cellsOf 3) = [.int .i64 bs] := e7
  have e8 : (cs.toList.drop 23).take (Tryd.prog.cellsOf 27) = [.slice ao L.length c] := e8
  rw [show Tryd.prog.cellsOf 3 = 1 from by kernel_rfl] at e1 e3 e7
  rw [show Tryd.prog.cellsOf 4 = 1 from by kernel_rfl] at e2
  rw [show Tryd.prog.cellsOf 27 = 1 from by kernel_rfl] at e8
  refine ⟨cs, ⟨dl, kd, sz, bs, L⟩, ao, c, rfl, hlen, ?_, ?_, ?_, ?_, ?_, h1, h2, h3⟩
  · rw [← Array.getElem?_toList]; exact take_at e1
  · rw [← Array.getElem?_toList]; exact take_at e2
  · rw [← Array.getElem?_toList]; exact take_at e3
  · rw [← Array.getElem?_toList]; exact take_at e7
  · rw [← Array.getElem?_toList]; exact take_at e8
/-- What large adds up does not go round. -/
theorem sums_in {L : List FileV} {G : List GotV} {tn : Nat} (ht : tn ≤ reachBytes) (hL : ∀ f ∈ L, f.xs.length ≤ reachBytes ∧ f.name.size ≤ reachBytes) (hG : ∀ g ∈ G, g.xs.length ≤ reachBytes) (hLn : L.length ≤ 10) (hGn : G.length ≤ 50) (h : sumG (sumF tn L (min L.length 20)) G (min G.length 60) ≤ 20000) :
    ∀ g ∈ G, g.xs.length ≤ 20000 := by
  have hrb : reachBytes ≤ 140737488355328 := by decide
  rw [show min L.length 20 = L.length from by omega, show min G.length 60 = G.length from by omega] at h
  have hF : ∀ k, k ≤ L.length → 0 ≤ sumF tn L k ∧ sumF tn L k ≤ 140737488355328 + 281474976710656 * k := by
    intro k
    induction k with
    | zero => intro _; rw [sumF]; omega
    | succ k ih =>
      intro hk
      have hk' : L[k]? = some L[k] := List.getElem?_eq_getElem (by omega)
      obtain ⟨a, b⟩ := ih (by omega)
      obtain ⟨c, d⟩ := hL L[k] (List.getElem_mem _)
      rw [sumF_next hk']
      unfold wrap64
      omega
  obtain ⟨hF0, hF1⟩ := hF L.length (Nat.le_refl _)
  generalize sumF tn L L.length = z at *
  have hS : ∀ k, k ≤ G.length → 0 ≤ sumG z G k ∧ sumG z G k ≤ z + 140737488355328 * k ∧ ∀ j g, j < k → G[j]? = some g → (g.xs.length : Int) ≤ sumG z G k := by
    intro k
    induction k with
    | zero => intro _; rw [sumG]; exact ⟨by omega, by omega, fun j g hj => by omega⟩
    | succ k ih =>
      intro hk
      have hk' : G[k]? = some G[k] := List.getElem?_eq_getElem (by omega)
      obtain ⟨a, b, e⟩ := ih (by omega)
      have c := hG G[k] (List.getElem_mem _)
      have hw : sumG z G (k + 1) = sumG z G k + (G[k].xs.length : Int) := by
        rw [sumG_next hk']
        unfold wrap64
        omega
      rw [hw]
      refine ⟨by omega, by omega, fun j g hj hg => ?_⟩
      by_cases hjk : j = k
      · subst hjk
        rw [hk'] at hg
        cases hg
        omega
      · have := e j g (by omega) hg
        omega
  intro g hg
  obtain ⟨j, hj, rfl⟩ := List.getElem_of_mem hg
  have := (hS G.length (Nat.le_refl _)).2.2 j G[j] hj (List.getElem?_eq_getElem hj)
  omega
end Go.Proofs.YtfdhpjflkimihaaDoor
/- What is built of any record; two finders that answer alike; five arguments, opened. No conditions beyond those that each statement types. -/
namespace Go.Proofs.YtfdhpjflkimihaaDoor
open Go.RowKit

section
open Go.ChangeShapes
variable {H : Type} {enc : TypeId × Value → H} {P : Program} {w : World} {base : Nat} {spare : Nat → Bool} {held : Bool}
theorem trodAll_five {t0 t1 t2 t3 t4 : TypeId} {args : Array Value} {ds : List (DataW H)} {ps : List MemPlace} (h : DataW.TrodAll enc P w base spare held [t0, t1, t2, t3, t4] args.toList ds ps) :
    ∃ v0 v1 v2 v3 v4 d0 d1 d2 d3 d4 p0 p1 p2 p3 p4, args = #[v0, v1, v2, v3, v4] ∧ ds = [d0, d1, d2, d3, d4] ∧ ps = p0 ++ p1 ++ p2 ++ p3 ++ p4 ∧ DataW.Trod enc P w base spare held t0 v0 d0 p0 ∧ DataW.Trod enc P w base spare held t1 v1 d1 p1 ∧ DataW.Trod enc P w base spare held t2 v2 d2 p2 ∧ DataW.Trod enc P w base spare held t3 v3 d3 p3 ∧ DataW.Trod enc P w base spare held t4 v4 d4 p4 := by
  obtain ⟨v0, vs0, d0, ds0, p0, q0, hargs, rfl, rfl, hd0, hr0⟩ := trodAll_cons h
  obtain ⟨v1, vs1, d1, ds1, p1, q1, rfl, rfl, rfl, hd1, hr1⟩ := trodAll_cons hr0
  obtain ⟨v2, vs2, d2, ds2, p2, q2, rfl, rfl, rfl, hd2, hr2⟩ := trodAll_cons hr1
  obtain ⟨v3, vs3, d3, ds3, p3, q3, rfl, rfl, rfl, hd3, hr3⟩ := trodAll_cons hr2
  obtain ⟨v4, vs4, d4, ds4, p4, q4, rfl, rfl, rfl, hd4, hr4⟩ := trodAll_cons hr3
  obtain ⟨rfl, rfl, rfl⟩ := trodAll_nil hr4
  exact ⟨v0, v1, v2, v3, v4, d0, d1, d2, d3, d4, p0, p1, p2, p3, p4, by cases args; simp_all, rfl, by simp, hd0, hd1, hd2, hd3, hd4⟩
end

theorem FindSt.as {w0 wr : World} {b bg : Nat} {F R : Files} {S T : List Nat} (h : FindSt w0 wr b bg F R S T) (hl : F.length ≤ 1000) : FindsAs wr (some ⟨b, 0, none⟩) (findL F) ∧ FindsAsR wr (some ⟨bg, 0, none⟩) (findL F) := by
  refine ⟨finds_at h.fin (by omega), ?_⟩
  rw [show findL F = frontF R from funext h.same.find]
  exact finds_ref h.ref (by rw [← h.same.length]; exact hl) (h.same.short h.fin.2.1)
theorem filesF_ten {L : List FileV} (h : L.length ≤ 10) : (filesF L).length ≤ 1000 := by
  have h1 := filesF_len L L.length
  rw [List.take_length] at h1
  omega
theorem FindsAsR.chg {w w' : World} {p : Option Addr} {fo : HKey → Option (Pl × List UInt8)} (h : FindsAsR w p fo) (C : Chg [] w w') : FindsAsR w' p fo := fun w2 k D => h w2 k (C.trans D (by simp))
theorem buildV_short {r : RecV} {N : Nat} {T : List UInt8} {fo : HKey → Option (Pl × List UInt8)} {G : List GotV} (hfo : ∀ k, (fX (fo k)).length ≤ 128) (hG : ∀ (k : Nat) (g : GotV), G[k]? = some g → g.xs.length ≤ 1000000) {l : List StepV} (hl : l.length ≤ 50) :
    (buildV r N T fo G l).out.length ≤ 1000000000 ∧ (buildV r N T fo G l).bad.length ≤ 1000000 := by
  have h1 := (partsV_short (r := r) (N := N) (T := T) hfo hG l l.length).2
  have h2 := badV_len r (partsV r N T fo G l l.length)
  rw [partsV_len] at h2
  unfold buildV
  split
  · exact ⟨Nat.zero_le _, Nat.zero_le _⟩
  · split
    · exact ⟨Nat.zero_le _, Nat.zero_le _⟩
    · split
      · exact ⟨Nat.zero_le _, by show (badV r (partsV r N T fo G l l.length)).length ≤ _; omega⟩
      · exact ⟨by show (partsV r N T fo G l l.length).flatten.length ≤ _; omega, Nat.zero_le _⟩
/-- The law's built answers true, whatever the record. -/
theorem built_any (RC : Array Value) (r : RecV) (ao : Option Addr) (c : Nat) (l : List StepV) (so : Option Addr) (sc : Nat) (p p2 : Option Addr) (fo : HKey → Option (Pl × List UInt8)) (ta : Option Addr) (tc : Nat) (T : List UInt8) (G : List GotV) (go : Option Addr) (gc : Nat) (w : World)
    (hL : Laid w) (H : RecIs w RC r ao c) (hF : FindsAs w p fo) (hF2 : FindsAsR w p2 fo) (hfo : ∀ k, (fX (fo k)).length ≤ 128) (hs : Src w ta (bvs T)) (hT : T.length ≤ 9223372036854775807) (htc : T.length ≤ tc) (h0 : ta = none → tc = 0)
    (hl : Src w so (svs l)) (hlc : l.length ≤ sc) (hl6 : l.length ≤ 50) (hG : GotsAt w go gc G) (hG6 : G.length ≤ 50) (hGx : ∀ (k : Nat) (g : GotV), G[k]? = some g → g.xs.length ≤ 1000000) :
    Calls Tryd.prog 51 #[.agg RC, .slice so l.length sc, .pointer p, .pointer p2, .slice ta T.length tc, .slice go G.length gc] w (Holds w) := by
  by_cases hw : r.want = 0
  · obtain ⟨N, g⟩ := RecV.good_of hw
    exact law_built RC H.size l so sc p p2 ta T.length tc G go gc (buildV r N T fo G l) w
      (fun w' C => cp_build RC r ao c N g l so sc p fo ta tc T G go gc w' (hL.chg C (by simp)) (H.chg0 C) (hF.chg C) hfo (hs.chg C (by simp)) hT htc h0 (hl.chg C (by simp)) hlc (by omega) (hG.chg C) (by omega) hGx)
      (fun so2 sc2 go2 gc2 w' C h1 h2 h3 => rf_build RC r ao c N g l so2 sc2 p2 fo ta tc T G go2 gc2 w' (H.chg0 C) (hF2.chg C) hfo (hs.chg C (by simp)) hT htc h0 h1 h2 (by omega) h3 (by omega) hGx)
      (buildV_short hfo hGx hl6).1 (buildV_short hfo hGx hl6).2 hl hlc hl6 hG hG6
  · exact law_built RC H.size l so sc p p2 ta T.length tc G go gc ⟨[], [], r.want⟩ w
      (fun w' C => cp_build_not RC r ao c hw _ p _ _ w' (H.chg0 C))
      (fun so2 sc2 go2 gc2 w' C h1 h2 h3 => rf_build_not RC r ao c hw _ p2 _ _ w' (H.chg0 C))
      (Nat.zero_le _) (Nat.zero_le _) hl hlc hl6 hG hG6
end Go.Proofs.YtfdhpjflkimihaaDoor
/- Law CopierBuilds, walked. No conditions beyond those that each statement types. -/
namespace Go.Proofs.YtfdhpjflkimihaaDoor
open Go.RowKit

theorem step_cells {w : World} {so : Option Addr} {l : List StepV} (hs : Src w so (svs l)) {k : Nat} {s : StepV} (h : l[k]? = some s) : ∃ a, so = some a ∧ (∀ w', Chg [] w w' → w'.cell? (a.add (k * 5)) = some (.int .i64 s.block)) ∧ ∀ w', Chg [] w w' → w'.cell? ⟨(a.add (k * 5)).block, (a.add (k * 5)).off + 1, none⟩ = some (.int .i64 s.from_) := by
  have h1 := (List.getElem?_eq_some_iff.1 h).1
  obtain ⟨a, rfl, _⟩ := hs.lt (by
    rw [show (svs l).length = l.length * 5 from flat_length (enc := fun s : StepV => s.cells.toList) (size := 5) (fun _ => rfl) l]
    omega)
  exact ⟨a, rfl, fun w' C => src_flat (w := w') (a := a) (cells := fun s : StepV => s.cells.toList) (size := 5) (fun _ => rfl) ((hs.chg C (by simp)).cell a rfl) h 0 (.int .i64 s.block) rfl,
    fun w' C => src_flat (w := w') (a := a) (cells := fun s : StepV => s.cells.toList) (size := 5) (fun _ => rfl) ((hs.chg C (by simp)).cell a rfl) h 1 (.int .i64 s.from_) rfl⟩
/-- IntsTo, in plain words. -/
def IntsN (w : World) (l : List Int) (m : Nat) (e : Ending) (w' : World) : Prop :=
  ∃ po pc, e = .returned (.slice po m pc) ∧ w'.ownsRow 0 3 1 (.slice po m pc) m (nvs l) ∧ Chg [] w w'
theorem IntsTo.plain {w : World} {l : List Int} {e : Ending} {w' : World} (h : IntsTo w l e w') {m : Nat} (hm : l.length = m) : IntsN w l m e w' := by
  subst hm
  obtain ⟨po, pc, h1, h2, _, h4⟩ := h
  exact ⟨po, pc, h1, h2, h4⟩
theorem ints_same (la : List Int) (m : Nat) (hm : la.length = m) (ao bo : Option Addr) (ac bc : Nat) (w : World) (h1 : Src w ao (nvs la)) (h2 : Src w bo (nvs la)) (h3 : m ≤ ac) (h4 : m ≤ bc) (h5 : m ≤ 1000000) :
    Calls Tryd.prog 49 #[.slice ao m ac, .slice bo m bc] w (fun e w2 => e = .returned (.bool true) ∧ Chg [] w w2) := by
  have := same_ints la la ao bo ac bc w h1 h2 (by rw [hm]; exact h3) (by rw [hm]; exact h4) (by rw [hm]; exact h5)
  rw [hm, decide_eq_true rfl] at this
  exact this
set_option maxRecDepth 100000 in
set_option maxHeartbeats 8000000 in
theorem copier_builds (RC : Array Value) (r : RecV) (ao : Option Addr) (rc : Nat) (so : Option Addr) (sc : Nat) (l : List StepV) (fo : Option Addr) (fc : Nat) (L : List FileV) (ta : Option Addr) (tc : Nat) (T : List UInt8) (go : Option Addr) (gc : Nat) (G : List GotV) (w : World) (hL : Laid w)
    (H : RecIs w RC r ao rc) (hl : Src w so (svs l)) (hlc : l.length ≤ sc) (hF : FilesAt w fo fc L) (hFz : ∀ f ∈ L, f.xs.length ≤ reachBytes ∧ f.name.size ≤ reachBytes) (hT : Src w ta (bvs T)) (hTz : T.length ≤ reachBytes) (hTc : T.length ≤ tc) (hT0 : ta = none → tc = 0) (hG : GotsAt w go gc G) (hGz : ∀ g ∈ G, g.xs.length ≤ reachBytes) :
    Calls Tryd.prog 12 #[.agg RC, .slice so l.length sc, .slice fo L.length fc, .slice ta T.length tc, .slice go G.length gc] w (Holds w) := by
  have hx0 := heap_alloc_new w (.cells RC 77)
  have C0 := Chg.alloc [] w (.cells RC 77)
  have HRC := Lib.hid H.size
  have KA := Lib.hid (fun w' (C : Chg [] w w') => law_awake21 w' (hL.chg C (by simp)))
  have KLG := Lib.hid (fun w' (C : Chg [] w w') => law_large21 RC r ao rc L fo fc ta T.length tc so l.length sc G go gc w' (H.chg0 C) (hF.src.chg C (by simp)) hF.cap (hG.chg C).src hG.cap)
  have HBY := Lib.hid (fun (h : largeB r.L.length T.length l.length L G = false) => largeB_no h)
  have HGX := Lib.hid (fun (h : largeB r.L.length T.length l.length L G = false) (k : Nat) (g : GotV) (hg : G[k]? = some g) => show g.xs.length ≤ 1000000 from by
    obtain ⟨a1, a2, _, _, a5⟩ := largeB_no h
    exact Nat.le_trans (sums_in hTz hFz hGz a1 a5 a2 g (List.mem_of_getElem? hg)) (by decide))
  have KFN := Lib.hid (fun (h : L.length ≤ 10) w' (C : Chg [] w w') => law_finders21 L fo fc w' (hL.chg C (by simp)) (hF.chg C) h)
  have KAS := Lib.hid (fun (h : l.length ≤ 50) w' (C : Chg [] w w') => (cp_asked l so sc w' (hl.chg C (by simp)) hlc (by omega)).mono (fun e w2 h => h.plain (m := (askL l).length) rfl))
  have KBU := Lib.hid (fun (h5 : l.length ≤ 50) (h6 : G.length ≤ 50) (hx : ∀ (k : Nat) (g : GotV), G[k]? = some g → g.xs.length ≤ 1000000) (p p2 : Option Addr) (fo : HKey → Option (Pl × List UInt8)) w' (C : Chg [] w w') (h1 : FindsAs w' p fo) (h2 : FindsAsR w' p2 fo) (h3 : ∀ k, (fX (fo k)).length ≤ 128) =>
    built_any RC r ao rc l so sc p p2 fo ta tc T G go gc w' (hL.chg C (by simp)) (H.chg0 C) h1 h2 h3 (hT.chg C (by simp)) (Nat.le_trans hTz (by decide)) hTc hT0 (hl.chg C (by simp)) hlc h5 (hG.chg C) h6 hx)
  have HSC := Lib.hid (fun (k : Nat) (s : StepV) (h : l[k]? = some s) => step_cells hl h)
  have HAN := Lib.hid (fun (k : Nat) (s : StepV) (h : l[k]? = some s) => askL_next h)
  have HGE := Lib.hid (fun k (hk : k < l.length) => show ∃ s, l[k]? = some s from ⟨_, List.getElem?_eq_getElem hk⟩)
  have HA0 : Hid (askL (l.take 0) = []) := Lib.hid rfl
  have HAL : Hid (l.take l.length = l) := Lib.hid (List.take_of_length_le (Nat.le_refl _))
  have HLA := Lib.hid (askL_len l)
  obtain ⟨am, ham⟩ : ∃ am, (askL l).length = am := ⟨_, rfl⟩
  obtain ⟨n, hn⟩ : ∃ n, l.length = n := ⟨_, rfl⟩
  obtain ⟨tn, htn⟩ : ∃ tn, T.length = tn := ⟨_, rfl⟩
  obtain ⟨Ln, hLn⟩ : ∃ Ln, L.length = Ln := ⟨_, rfl⟩
  obtain ⟨Gn, hGn⟩ : ∃ Gn, G.length = Gn := ⟨_, rfl⟩
  have HLN := Lib.hid hLn
  have HAM := Lib.hid ham
  rw [hn, htn, hLn, hGn] at KLG
  rw [htn, hn] at HBY HGX
  rw [hLn] at KFN
  rw [hn, ham] at KAS
  rw [hn, hGn, htn] at KBU
  rw [hn] at HGE HAL hlc
  rw [ham, hn] at HLA
  have HL10 : Hid (largeB r.L.length tn n L G = false → Ln ≤ 10 ∧ n ≤ 50 ∧ Gn ≤ 50) := Lib.hid (fun h => by
    obtain ⟨a1, _, _, a4, a5⟩ := HBY.out h
    exact ⟨by rw [← hLn]; exact a1, a4, by rw [← hGn]; exact a5⟩)
  rw [hn, htn, hLn, hGn]
  have HF10 : Hid (Ln ≤ 10 → (filesF L).length ≤ 1000) := Lib.hid (fun h => filesF_ten (by rw [hLn]; exact h))
  clear H hl hF hFz hT hTz hTc hT0 hG hGz hL hn htn hLn hGn ham HBY
  go_enter Tryd.func12, Tryd.ntmps12
  go_upto_region 1 with (fail)
  obtain ⟨q0, hq0⟩ : ∃ q0, w.heap.size = q0 := ⟨_, rfl⟩
  rw [hq0] at hx0 ⊢
  generalize hw1 : w.alloc (.cells RC 77) = w1 at *
  have HX1 := Lib.hid hx0
  have HC0 := Lib.hid C0
  have hldr := run_loadAt_rec w1 q0 RC _ hx0 HRC.out
  clear hx0 C0 hq0 hw1
  go_wp2_with (refine wpList_load_y 77 (.tmp 5) rfl (by go_simp) (.pointer (some ⟨q0, 0, none⟩)) (.agg RC) hldr rfl ?_)
  refine (KLG.out w1 HC0.out).mono ?_
  rintro e w2 ⟨rfl, C2⟩
  have HC2 := Lib.hid (HC0.out.trans C2 (by simp))
  have HX2 := Lib.hid ((C2.block q0 (lt_of_block HX1.out) (by simp)).trans HX1.out)
  clear C2 hldr KLG
  obtain ⟨LB, hLB⟩ : ∃ LB, largeB r.L.length tn n L G = LB := ⟨_, rfl⟩
  rw [hLB]
  rw [hLB] at HGX HL10
  clear hLB
  cases LB with
  | true =>
    go_wp2_with fail
    refine (KA.out _ HC2.out).mono ?_
    rintro e wa ⟨rfl, Ca⟩
    have HCA := Lib.hid (HC2.out.trans Ca (by simp))
    clear Ca
    go_wp2_with fail
    go_ret
    exact ⟨rfl, HCA.out⟩
  | false =>
    obtain ⟨hL10, hn50, hG50⟩ := HL10.out rfl
    have HGX2 := Lib.hid (HGX.out rfl)
    have HFT := Lib.hid (HF10.out hL10)
    have KF := Lib.hid (KFN.out hL10 w2 HC2.out)
    clear HL10 HGX HF10 KFN
    go_wp2_with fail
    refine KF.out.mono ?_
    rintro e w3 ⟨fb, bg, S, TT, rfl, hFS⟩
    have HFA := Lib.hid (hFS.as HFT.out)
    have HC3 := Lib.hid (HC2.out.trans hFS.chg (by simp))
    have HX3 := Lib.hid ((hFS.chg.block q0 (lt_of_block HX2.out) (by simp)).trans HX2.out)
    clear hFS KF
    obtain ⟨i0, hi0, hz0, hz1, hz2⟩ := info_parts infoIntU
    go_wp2_with fail
    go_loopw [13, 14] (fun v2 v7 wr => ∃ (k m c' : Nat) (ao' : Option Addr), v2 = .slice ao' m c' ∧ v7 = .int .i64 (k : Int) ∧ k ≤ n ∧ m ≤ k ∧ Hid ((askL (l.take k)).length = m) ∧ Hid (wr.ownsRow 0 3 1 (.slice ao' m c') m (nvs (askL (l.take k)))) ∧ Hid (∀ b, (Value.slice ao' m c').ownBlock = some b → w3.heap.size ≤ b) ∧ Hid (Chg [] w3 wr)) (fun _ v _ => n - (intOf v).toNat)
    case atStart => exact ⟨0, 0, 0, none, rfl, rfl, Nat.zero_le _, Nat.zero_le _, Lib.hid rfl, Lib.hid (World.ownsRow_nil _ _ _ _), Lib.hid (fun b hb => by cases hb), Lib.hid (Chg.refl _ _)⟩
    case round =>
      obtain ⟨k, m, c', ao', rfl, rfl, hk, hmk, HM, HO, HNW, HC⟩ := hrel
      by_cases hlt : k < n
      · have e1 : (k : Int) < n := Int.ofNat_lt.2 hlt
        have e0 : (0 : Int) ≤ k := Int.natCast_nonneg _
        have hkc : k < sc := by omega
        obtain ⟨s, hsk⟩ := HGE.out k hlt
        obtain ⟨a, rfl, hca, hcb⟩ := HSC.out k s hsk
        have hc0 := hca wr (HC3.out.trans HC.out (by simp))
        have hc1 := hcb wr (HC3.out.trans HC.out (by simp))
        have HN := Lib.hid (HAN.out k s hsk)
        obtain ⟨s1, s2, s3, s4, s5⟩ := s
        change wr.cell? _ = some (.int .i64 s1) at hc0
        change wr.cell? _ = some (.int .i64 s2) at hc1
        clear hsk hca hcb
        by_cases h4 : s2 = 4
        · have HN2 : Hid (askL (l.take (k + 1)) = askL (l.take k) ++ [s1]) := Lib.hid (by rw [HN.out]; show _ ++ (if s2 = 4 then _ else _) = _; rw [if_pos h4])
          subst h4
          have CB := Chg.alloc [] wr (.cells #[.int .i64 s1] 3)
          have hown := ownsRow_chg HO.out CB (by simp)
          have hsrc := src_row wr #[.int .i64 s1] 3 (0, 0)
          have HAB : Hid (m + 1 ≤ maxLen ∧ (m + 1) * 8 ≤ 140737488355328) := Lib.hid (by unfold maxLen; omega)
          clear HN
          go_wp2_with (at_builtin; go_loud (refine wpList_append_y (.tmp 39) (.tmp 45) 63 rfl rfl 3 i0 _ 1 8 Tryd.underlying63 hi0 hz0 hz1 hz2 rfl (by decide) (.slice ao' m c') m (nvs (askL (l.take k))) hown (some ⟨wr.heap.size, 0, none⟩) 1 1 [.int .i64 s1] rfl hsrc (fun h => by cases h) (by simp [Value.oneCell']) HAB.out.1 HAB.out.2 rfl rfl ?_))
          intro ao2 c3 w5 hown5 hgr hblk
          have CG := Chg.grown hgr (S := (Value.slice ao' m c').ownBlock.toList) (fun b hb => .inl (by simp [hb]))
          have HC5 : Hid (Chg [] w3 w5) := Lib.hid ((HC.out.trans CB (by simp)).trans CG (fun b hb => .inr (HNW.out b (by simpa using hb))))
          have HN5 : Hid (∀ b, (Value.slice ao2 (m + 1) c3).ownBlock = some b → w3.heap.size ≤ b) := Lib.hid (fun b hb => by
            rcases hblk with h | h <;> rw [h] at hb
            · exact HNW.out b hb
            · rw [← Option.some.inj hb]
              exact Nat.le_trans HC.out.size (Nat.le_succ _))
          have HO5 : Hid (w5.ownsRow 0 3 1 (.slice ao2 (m + 1) c3) (m + 1) (nvs (askL (l.take (k + 1))))) := Lib.hid (by rw [HN2.out, nvs_append]; exact hown5)
          have HM5 : Hid ((askL (l.take (k + 1))).length = m + 1) := Lib.hid (by rw [HN2.out, List.length_append, HM.out]; rfl)
          clear hown5 hgr hblk hown hsrc CB CG HAB hc0 hc1 hi0 hz0 hz1 hz2
          go_wp2_with fail
          go_roundw
          case rel => exact ⟨k + 1, m + 1, c3, ao2, rfl, by go_num, hlt, Nat.succ_le_succ hmk, HM5, HO5, HN5, HC5⟩
          case measure => simp [intOf] <;> omega
        · have HN2 : Hid (askL (l.take (k + 1)) = askL (l.take k)) := Lib.hid (by rw [HN.out]; show _ ++ (if s2 = 4 then _ else _) = _; rw [if_neg h4, List.append_nil])
          have HO5 : Hid (wr.ownsRow 0 3 1 (.slice ao' m c') m (nvs (askL (l.take (k + 1))))) := Lib.hid (by rw [HN2.out]; exact HO.out)
          have HM5 : Hid ((askL (l.take (k + 1))).length = m) := Lib.hid (by rw [HN2.out]; exact HM.out)
          have h6 : (s2 == 4) = false := by simpa using h4
          clear HN hi0 hz0 hz1 hz2
          go_wp2_with fail
          go_roundw
          case rel => exact ⟨k + 1, m, c', ao', rfl, by go_num, hlt, Nat.le_succ_of_le hmk, HM5, HO5, HNW, HC⟩
          case measure => simp [intOf] <;> omega
      · have e1 : ¬ (k : Int) < n := fun h => hlt (Int.ofNat_lt.1 h)
        have hkn : k = n := by omega
        have HTK : Hid (l.take k = l) := Lib.hid (by rw [hkn]; exact HAL.out)
        have HM' : Hid (am = m) := Lib.hid (by rw [← HM.out, HTK.out]; exact HAM.out.symm)
        have HO' : Hid (wr.ownsRow 0 3 1 (.slice ao' m c') m (nvs (askL l))) := Lib.hid (by have := HO.out; rwa [HTK.out] at this)
        have hmm : m = am := HM'.out.symm
        subst hmm
        have HCW := Lib.hid (HC3.out.trans HC.out (by simp))
        have HX4 := Lib.hid ((HC.out.block q0 (lt_of_block HX3.out) (by simp)).trans HX3.out)
        have HM6 : Hid (m ≤ 1000000) := Lib.hid (by omega)
        have KAS2 := Lib.hid (KAS.out hn50 wr HCW.out)
        clear HO HM hkn HTK hi0 hz0 hz1 hz2 HNW hmk HM'
        go_wp2_with fail
        refine KAS2.out.mono ?_
        rintro e w5 ⟨po, pc, rfl, hown, C5⟩
        have HC5 := Lib.hid (HCW.out.trans C5 (by simp))
        have HX5 := Lib.hid ((C5.block q0 (lt_of_block HX4.out) (by simp)).trans HX4.out)
        have KSI := Lib.hid (ints_same (askL l) m HAM.out po ao' pc c' w5 (ownsRow_src hown) (ownsRow_src (ownsRow_chg HO'.out C5 (by simp))) (own_cap hown) (own_cap HO'.out) HM6.out)
        have HFB := Lib.hid (show FindsAs w5 (some ⟨fb, 0, none⟩) (findL (filesF L)) ∧ FindsAsR w5 (some ⟨bg, 0, none⟩) (findL (filesF L)) from ⟨HFA.out.1.chg (HC.out.trans C5 (by simp)), HFA.out.2.chg (HC.out.trans C5 (by simp))⟩)
        clear C5 hown KAS2
        go_wp2_with fail
        refine KSI.out.mono ?_
        rintro e w6 ⟨rfl, C6⟩
        have HC6 := Lib.hid (HC5.out.trans C6 (by simp))
        have hldr := run_loadAt_rec w6 q0 RC _ ((C6.block q0 (lt_of_block HX5.out) (by simp)).trans HX5.out) HRC.out
        have KB2 := Lib.hid (KBU.out hn50 hG50 HGX2.out (some ⟨fb, 0, none⟩) (some ⟨bg, 0, none⟩) (findL (filesF L)) w6 HC6.out (HFB.out.1.chg C6) (HFB.out.2.chg C6) (findL_short _))
        clear C6 KSI
        go_wp2_with (refine wpList_load_y 77 (.tmp 5) rfl (by go_simp) (.pointer (some ⟨q0, 0, none⟩)) (.agg RC) hldr rfl ?_)
        refine KB2.out.mono ?_
        rintro e w7 ⟨rfl, C7⟩
        have HC7 := Lib.hid (HC6.out.trans C7 (by simp))
        clear C7 hldr KB2
        go_wp2_with fail
        refine (KA.out _ HC7.out).mono ?_
        rintro e wa ⟨rfl, Ca⟩
        have HCA := Lib.hid (HC7.out.trans Ca (by simp))
        clear Ca
        go_wp2_with fail
        go_ret
        exact ⟨rfl, HCA.out⟩
end Go.Proofs.YtfdhpjflkimihaaDoor
