/- The law's awake, walked. No conditions beyond those that each statement types. -/
import Derived.Test.YtfdhpjflkimihaaDoorCyb
namespace Go.Proofs.YtfdhpjflkimihaaDoor
open Go.RowKit

theorem fill_gots (a b : Int) (a1 : Option Addr) (n1 k1 : Nat) (a2 : Option Addr) (n2 k2 : Nat) : Instr.fill (fun i => some (i * 2, 2)) ((Array.range (2 * 2)).map fun j => (Value.agg #[.int .i64 0, .slice none 0 0]).cells[j % (Value.agg #[.int .i64 0, .slice none 0 0]).cells.size]!) [(0, .agg #[.int .i64 a, .slice a1 n1 k1]), (1, .agg #[.int .i64 b, .slice a2 n2 k2])] = some #[.int .i64 a, .slice a1 n1 k1, .int .i64 b, .slice a2 n2 k2] := by kernel_rfl
theorem infoGotU : (Tryd.prog.info? 104).map (fun i => (i.zero, i.size, i.bytes)) = some (some (.agg #[.int .i64 0, .slice none 0 0]), 2, 32) := by kernel_rfl
theorem run_two_gots (a b : Int) (a1 : Option Addr) (n1 k1 : Nat) (a2 : Option Addr) (n2 k2 : Nat) (w : World) : (Instr.buildSlice 87 2 #[(0, .agg #[.int .i64 a, .slice a1 n1 k1]), (1, .agg #[.int .i64 b, .slice a2 n2 k2])]).run Tryd.prog w = .ok (.slice (some ⟨w.heap.size, 0, none⟩) 2 2) (w.alloc (.cells #[.int .i64 a, .slice a1 n1 k1, .int .i64 b, .slice a2 n2 k2] 104)) := by
  kernel_rfl
theorem gots_two {w : World} {g1 c1 g2 c2 : Nat} (h1 : PV w [] (.slice (some ⟨g1, 0, none⟩) 16 c1) m_x16) (h2 : PV w [] (.slice (some ⟨g2, 0, none⟩) 8 c2) m_y8) :
    GotsAt (w.alloc (.cells #[.int .i64 0, .slice (some ⟨g1, 0, none⟩) 16 c1, .int .i64 2, .slice (some ⟨g2, 0, none⟩) 8 c2] 104)) (some ⟨w.heap.size, 0, none⟩) 2 (gotG (some ⟨g1, 0, none⟩) c1 (some ⟨g2, 0, none⟩) c2) := by
  have C := Chg.alloc [] w (.cells #[.int .i64 0, .slice (some ⟨g1, 0, none⟩) 16 c1, .int .i64 2, .slice (some ⟨g2, 0, none⟩) 8 c2] 104)
  refine ⟨src_row w #[.int .i64 0, .slice (some ⟨g1, 0, none⟩) 16 c1, .int .i64 2, .slice (some ⟨g2, 0, none⟩) 8 c2] _ (0, 0), Nat.le_refl _, (fun h => by cases h), ?_⟩
  intro k g hk
  match k, hk with
  | 0, hk => cases hk; exact h1.chg C (by simp)
  | 1, hk => cases hk; exact h2.chg C (by simp)
set_option maxRecDepth 100000 in
set_option maxHeartbeats 8000000 in
theorem law_awake21 (w : World) (hL : Laid w) : Calls Tryd.prog 41 #[] w (Holds w) := by
  have KG := Lib.hid (fun w => law_given w)
  have KT := Lib.hid (fun (c : UInt8) (n : Nat) (hn : n ≤ 1000) w => law_times c n hn w)
  have HL := Lib.hid hL
  clear hL
  go_enter Tryd.func41, Tryd.ntmps41
  go_wp2_with fail
  refine (KG.out _).mono ?_
  rintro e w1 ⟨g, c, rfl, hc, hs, hg, hg2, C1⟩
  have KW := Lib.hid (law_wanted m_given (some ⟨g, 0, none⟩) c w1 (HL.out.chg C1 (by simp)) hs (by decide) hc)
  have HC1 := Lib.hid C1
  clear C1 hc hs hg hg2
  go_wp2_with fail
  refine KW.out.mono ?_
  rintro e w2 ⟨C2, RC, ao, rc, rfl, HR, hao, hone⟩
  have hx := heap_alloc_new w2 (.cells recZ 77)
  have CA := Chg.alloc [] w2 (.cells recZ 77)
  have hsz : (w2.alloc (.cells recZ 77)).heap.size = w2.heap.size + 1 := by simp
  obtain ⟨Z, hZ⟩ : ∃ Z, recZ = Z := ⟨_, rfl⟩
  have hzr := zero_rec w2
  have hzs : Z.size = 27 := by rw [← hZ]; rfl
  rw [hZ] at hzr hx CA hsz
  obtain ⟨hst, hh, hcg⟩ := setRow_one (V := RC) hx (by rw [HR.size]; exact infoRec) (by rw [hzs, HR.size]) hone
  have C3 := hcg w2 CA (Nat.le_refl _)
  go_upto_region 2 with (first | (refine wpList_alloc_x rfl 77 rfl (.agg Z) hzr ?_) | (refine wpList_store_y 77 (.tmp 1) (.tmp 8) rfl (by first | rfl | go_simp) (.pointer (some ⟨w2.heap.size, 0, none⟩)) (.agg RC) _ hst rfl rfl ?_))
  obtain ⟨q, hq⟩ : ∃ q, w2.heap.size = q := ⟨_, rfl⟩
  rw [hq] at hh C3 ⊢
  generalize (w2.alloc (.cells Z 77)).setRow q RC = w3 at *
  have HC3 := Lib.hid ((HC1.out.trans C2 (by simp)).trans C3 (by simp))
  have HX3 := Lib.hid hh
  have HRI := Lib.hid (HR.chg0 C3)
  have HRS := Lib.hid HR.size
  have hldr := run_loadAt_rec w3 q RC _ hh HR.size
  have KP := Lib.hid (by
    have := cp_plan RC (recV m_given) ao rc 40 given_good none (fun _ => none) none 0 [] w3 (HL.out.chg HC3.out (by simp)) HRI.out (finds_none (noFinder_nil w3)) (fun _ => by simp [fX]) (Src.empty _ _) (by simp) (by simp) (fun _ => rfl)
    rewrite [given_cnt, given_plan] at this
    exact this)
  clear C2 hx CA hsz hzr hzs hst hh hcg C3 HR hao hone hq hZ KW
  go_wp2_with (refine wpList_load_y 77 (.tmp 1) rfl (by go_simp) (.pointer (some ⟨q, 0, none⟩)) (.agg RC) hldr rfl ?_)
  refine KP.out.mono ?_
  rintro e w4 ⟨C4, po, pc, rfl, hown, hnew⟩
  have HC4 := Lib.hid (HC3.out.trans C4 (by simp))
  have HX4 := Lib.hid ((C4.block q (lt_of_block HX3.out) (by simp)).trans HX3.out)
  have HPL := Lib.hid (ownsRow_src_any hown)
  obtain ⟨_, _, hv, hpc, _⟩ := ownsRow_slice hown
  cases hv
  have HPC := Lib.hid hpc
  have HRW := Lib.hid (fun w' (C : Chg [] w w') (C2 : Chg [] w4 w') => (HRI.out.chg0 C4).chg0 C2)
  have KB := Lib.hid (fun (a1 : Option Addr) (c1 : Nat) (a2 : Option Addr) (c2 qg : Nat) (w' : World) (C : Chg [] w w') (C2 : Chg [] w4 w') (hp : Src w' po (svs planG)) (hG : GotsAt w' (some ⟨qg, 0, none⟩) 2 (gotG a1 c1 a2 c2)) => by
    have := cp_build RC (recV m_given) ao rc 40 given_good planG po pc none (fun _ => none) none 0 [] (gotG a1 c1 a2 c2) (some ⟨qg, 0, none⟩) 2 w' (HL.out.chg C (by simp)) (HRW.out w' C C2) (finds_none (noFinder_nil w')) (fun _ => by simp [fX]) (Src.empty _ _) (by simp) (by simp) (fun _ => rfl) hp HPC.out (Nat.le_of_ble_eq_true rfl) hG (Nat.le_of_ble_eq_true rfl) (by
      intro k g hk
      match k, hk with
      | 0, hk => cases hk; exact Nat.le_of_ble_eq_true rfl
      | 1, hk => cases hk; exact Nat.le_of_ble_eq_true rfl)
    rewrite [given_build] at this
    exact this)
  have KF := Lib.hid (fun (w' : World) (_ : Chg [] w w') (hp : Src w' po (svs planG)) => by
    have := law_from planG po pc w' hp (by exact hpc) (Nat.le_of_ble_eq_true rfl) (by
      intro k s hk
      match k, hk with
      | 0, hk => cases hk; decide
      | 1, hk => cases hk; decide
      | 2, hk => cases hk; decide)
    rewrite [given_from] at this
    exact this)
  have KL := Lib.hid (fun (w' : World) (C : Chg [] w w') (C2 : Chg [] w4 w') => by
    have := cp_length RC (recV m_given) ao rc 2 w' (HRW.out w' C C2)
    rewrite [given_len2] at this
    exact this)
  clear hown hnew hpc HRI HX3 C4 hldr KP HC1 HC3
  go_upto_region 3 with (fail)
  refine wp_region_held_drew (S := fun w' => Chg [] w4 w') (by kernel_rfl) (Chg.drewN [] w4 1) (fun H0 => ?_)
  refine' tkH (i := 0) (v := .agg RC) rfl (Or.inl ⟨by rfl, ?hyu10⟩) H0 ?restu10
  case hyu10 =>
    intro w' hSw
    have s1 := hSw
    have hl := run_loadAt_rec w' q RC _ ((s1.block q (lt_of_block HX4.out) (by simp)).trans HX4.out) HRS.out
    simp [execOp, Act.eval, hl, Result.andThen]
  (try simp only [Act.put, List.getElem_toArray, List.getElem_cons_zero, List.setIfInBounds_toArray, List.set_cons_zero, List.set_cons_succ])
  refine' tkH (i := 1) (v := _) rfl (Or.inl ⟨by rfl, ?hyu21⟩) H0 ?restu21
  case hyu21 =>
    intro w' hSw
    have s1 := hSw
    go_simp
    try with_reducible rfl
  (try simp only [Act.put, List.getElem_toArray, List.getElem_cons_succ, List.getElem_cons_zero, List.setIfInBounds_toArray, List.set_cons_zero, List.set_cons_succ])
  refine wpAnyH_ready (rs := [2]) (by kernel_rfl) (by simp) (AllReadyH.cons rfl (fun K hK => ?_) AllReadyH.nil)
  go_simp
  refine (KT.out 120 16 (by decide) _).mono ?_
  rintro e y2 ⟨rfl, Cy2⟩
  go_simp
  refine hK.out _ _ (H0.trans Cy2 (by simp)) (fun HN1 => ?_)
  clear hK K
  refine wpAnyH_ready (rs := [3, 5]) (by kernel_rfl) (by simp) (AllReadyH.cons rfl (fun K hK => ?_) (AllReadyH.cons rfl (fun K hK => ?_) AllReadyH.nil))
  · obtain ⟨g3, c3, x3, hr3, hc3, M3⟩ := run_bytes_of_str (P := Tryd.prog) y2 9 25 5 (many 120 16) Tryd.underlying9 Tryd.underlying25 Tryd.underlying5
    rw [show (many 120 16).size = 16 from rfl] at hr3 hc3
    have HS3 := Lib.hid (show PV x3 [] (.slice (some ⟨g3, 0, none⟩) 16 c3) m_x16 from ⟨_, _, rfl, M3.src, hc3, (fun h => by cases h), fun _ a ha => by
      cases ha
      exact ⟨List.not_mem_nil, M3.new.2⟩⟩)
    have HM3 := Lib.hid M3.chg
    clear M3
    go_simp
    refine hK.out _ _ (HN1.trans HM3.out (by simp)) (fun HN2 => ?_)
    clear hK K hr3
    refine' tkH (i := 4) (v := _) rfl (Or.inl ⟨by rfl, ?hyu34⟩) HN2 ?restu34
    case hyu34 =>
      intro w' hSw
      have s1 := hSw
      go_simp
      try with_reducible rfl
    (try simp only [Act.put, List.getElem_toArray, List.getElem_cons_succ, List.getElem_cons_zero, List.setIfInBounds_toArray, List.set_cons_zero, List.set_cons_succ])
    refine wpAnyH_ready (rs := [5]) (by kernel_rfl) (by simp) (AllReadyH.cons rfl (fun K hK => ?_) AllReadyH.nil)
    go_simp
    refine (KT.out 121 8 (by decide) _).mono ?_
    rintro e y5 ⟨rfl, Cy5⟩
    go_simp
    refine hK.out _ _ (HN2.trans Cy5 (by simp)) (fun HN3 => ?_)
    clear hK K
    refine wpAnyH_ready (rs := [6]) (by kernel_rfl) (by simp) (AllReadyH.cons rfl (fun K hK => ?_) AllReadyH.nil)
    obtain ⟨g6, c6, x6, hr6, hc6, M6⟩ := run_bytes_of_str (P := Tryd.prog) y5 9 25 5 (many 121 8) Tryd.underlying9 Tryd.underlying25 Tryd.underlying5
    rw [show (many 121 8).size = 8 from rfl] at hr6 hc6
    have HS6 := Lib.hid (show PV x6 [] (.slice (some ⟨g6, 0, none⟩) 8 c6) m_y8 from ⟨_, _, rfl, M6.src, hc6, (fun h => by cases h), fun _ a ha => by
      cases ha
      exact ⟨List.not_mem_nil, M6.new.2⟩⟩)
    have HM6 := Lib.hid M6.chg
    clear M6
    go_simp
    refine hK.out _ _ (HN3.trans HM6.out (by simp)) (fun HN4 => ?_)
    clear hK K hr6
    refine' tkH (i := 7) (v := _) rfl (Or.inl ⟨by rfl, ?hyu47⟩) HN4 ?restu47
    case hyu47 =>
      intro w' hSw
      have s1 := hSw
      go_simp
      try with_reducible rfl
    (try simp only [Act.put, List.getElem_toArray, List.getElem_cons_succ, List.getElem_cons_zero, List.setIfInBounds_toArray, List.set_cons_zero, List.set_cons_succ])
    have hb2 := run_two_gots 0 2 (some ⟨g3, 0, none⟩) 16 c3 (some ⟨g6, 0, none⟩) 8 c6 x6
    have HP3 := Lib.hid (HS3.out.chg (show Chg [] x3 x6 from Cy5.trans HM6.out (by simp)) (by simp))
    have HP6 := Lib.hid (HS6.out.chg (show Chg [] x6 x6 from Chg.refl _ _) (by simp))
    have hxg := heap_alloc_new x6 (.cells #[.int .i64 0, .slice (some ⟨g3, 0, none⟩) 16 c3, .int .i64 2, .slice (some ⟨g6, 0, none⟩) 8 c6] 104)
    have CG := Chg.alloc [] x6 (.cells #[.int .i64 0, .slice (some ⟨g3, 0, none⟩) 16 c3, .int .i64 2, .slice (some ⟨g6, 0, none⟩) 8 c6] 104)
    have HGA := Lib.hid (gots_two HP3.out HP6.out)
    refine wpAnyH_ready (rs := [8]) (by kernel_rfl) (by simp) (AllReadyH.cons rfl (fun K hK => ?_) AllReadyH.nil)
    go_simp
    refine hK.out _ _ (HN4.trans CG (by simp)) (fun HG => ?_)
    clear hK K hb2
    obtain ⟨qg, hqg⟩ : ∃ qg, x6.heap.size = qg := ⟨_, rfl⟩
    rw [hqg] at HGA ⊢
    generalize x6.alloc (.cells #[.int .i64 0, .slice (some ⟨g3, 0, none⟩) 16 c3, .int .i64 2, .slice (some ⟨g6, 0, none⟩) 8 c6] 104) = xg at *
    clear hxg CG hqg HP3 HP6 HS3 HS6
    refine wpAnyH_ready (rs := [9]) (by kernel_rfl) (by simp) (AllReadyH.cons rfl (fun K hK => ?_) AllReadyH.nil)
    have KBB := Lib.hid (KB.out (some ⟨g3, 0, none⟩) c3 (some ⟨g6, 0, none⟩) c6 qg xg (HC4.out.trans HG (by simp)) HG (HPL.out.chg HG (by simp)) HGA.out)
    go_simp
    refine KBB.out.mono ?_
    rintro e xf ⟨Cf, bo, bc, no, nc, rfl, hbo, _, _, _⟩
    have HBO := Lib.hid hbo
    go_simp
    refine hK.out _ _ (HG.trans Cf (by simp)) (fun HF => ?_)
    clear hK K Cf hbo KBB HGA
    refine' tkH (i := 10) (v := _) rfl (Or.inl ⟨by rfl, ?hyu510⟩) HF ?restu510
    case hyu510 =>
      intro w' hSw
      have s1 := hSw
      go_simp
      try with_reducible rfl
    (try simp only [Act.put, List.getElem_toArray, List.getElem_cons_succ, List.getElem_cons_zero, List.setIfInBounds_toArray, List.set_cons_zero, List.set_cons_succ])
    refine' tkH (i := 11) (v := _) rfl (Or.inl ⟨by rfl, ?hyu511⟩) HF ?restu511
    case hyu511 =>
      intro w' hSw
      have s1 := hSw
      go_simp
      try with_reducible rfl
    (try simp only [Act.put, List.getElem_toArray, List.getElem_cons_succ, List.getElem_cons_zero, List.setIfInBounds_toArray, List.set_cons_zero, List.set_cons_succ])
    refine' tkH (i := 12) (v := _) rfl (Or.inl ⟨by rfl, ?hyu512⟩) HF ?restu512
    case hyu512 =>
      intro w' hSw
      have s1 := hSw
      go_simp
      try with_reducible rfl
    (try simp only [Act.put, List.getElem_toArray, List.getElem_cons_succ, List.getElem_cons_zero, List.setIfInBounds_toArray, List.set_cons_zero, List.set_cons_succ])
    refine' tkH (i := 13) (v := _) rfl (Or.inl ⟨by rfl, ?hyu513⟩) HF ?restu513
    case hyu513 =>
      intro w' hSw
      have s1 := hSw
      go_simp
      try with_reducible rfl
    (try simp only [Act.put, List.getElem_toArray, List.getElem_cons_succ, List.getElem_cons_zero, List.setIfInBounds_toArray, List.set_cons_zero, List.set_cons_succ])
    refine' tkH (i := 14) (v := _) rfl (Or.inl ⟨by rfl, ?hyu514⟩) HF ?restu514
    case hyu514 =>
      intro w' hSw
      have s1 := hSw
      go_simp
      try with_reducible rfl
    (try simp only [Act.put, List.getElem_toArray, List.getElem_cons_succ, List.getElem_cons_zero, List.setIfInBounds_toArray, List.set_cons_zero, List.set_cons_succ])
    refine' tkH (i := 15) (v := _) rfl (Or.inl ⟨by rfl, ?hyu515⟩) HF ?restu515
    case hyu515 =>
      intro w' hSw
      have s1 := hSw
      go_simp
      try with_reducible rfl
    (try simp only [Act.put, List.getElem_toArray, List.getElem_cons_succ, List.getElem_cons_zero, List.setIfInBounds_toArray, List.set_cons_zero, List.set_cons_succ])
    refine' tkH (i := 16) (v := _) rfl (Or.inl ⟨by rfl, ?hyu516⟩) HF ?restu516
    case hyu516 =>
      intro w' hSw
      have s1 := hSw
      go_simp
      try with_reducible rfl
    (try simp only [Act.put, List.getElem_toArray, List.getElem_cons_succ, List.getElem_cons_zero, List.setIfInBounds_toArray, List.set_cons_zero, List.set_cons_succ])
    refine wpAnyH_done (by kernel_rfl) ?_ _
    have HC5 := Lib.hid (HC4.out.trans HF (by simp))
    have HFX := Lib.hid HF
    have HX5 := Lib.hid ((HF.block q (lt_of_block HX4.out) (by simp)).trans HX4.out)
    have HP5 := Lib.hid (HPL.out.chg HF (by simp))
    have HBS := Lib.hid (ownsRow_src HBO.out)
    go_upto_region 4 with (fail)
    refine wp_region_held_drew (S := fun w' => Chg [] xf w') (by kernel_rfl) (Chg.drewN [] xf 1) (fun Q0 => ?_)
    refine' tkH (i := 0) (v := _) rfl (Or.inl ⟨by rfl, ?hyu60⟩) Q0 ?restu60
    case hyu60 =>
      intro w' hSw
      have s1 := hSw
      go_simp
      try with_reducible rfl
    (try simp only [Act.put, List.getElem_toArray, List.getElem_cons_zero, List.setIfInBounds_toArray, List.set_cons_zero, List.set_cons_succ])
    refine' tkH (i := 1) (v := _) rfl (Or.inl ⟨by rfl, ?hyu61⟩) Q0 ?restu61
    case hyu61 =>
      intro w' hSw
      have s1 := hSw
      go_simp
      try with_reducible rfl
    (try simp only [Act.put, List.getElem_toArray, List.getElem_cons_succ, List.getElem_cons_zero, List.setIfInBounds_toArray, List.set_cons_zero, List.set_cons_succ])
    refine' tkH (i := 2) (v := _) rfl (Or.inl ⟨by rfl, ?hyu62⟩) Q0 ?restu62
    case hyu62 =>
      intro w' hSw
      have s1 := hSw
      go_simp
      try with_reducible rfl
    (try simp only [Act.put, List.getElem_toArray, List.getElem_cons_succ, List.getElem_cons_zero, List.setIfInBounds_toArray, List.set_cons_zero, List.set_cons_succ])
    refine' tkH (i := 3) (v := _) rfl (Or.inl ⟨by rfl, ?hyu63⟩) Q0 ?restu63
    case hyu63 =>
      intro w' hSw
      have s1 := hSw
      go_simp
      try with_reducible rfl
    (try simp only [Act.put, List.getElem_toArray, List.getElem_cons_succ, List.getElem_cons_zero, List.setIfInBounds_toArray, List.set_cons_zero, List.set_cons_succ])
    refine wpAnyH_ready (rs := [4]) (by kernel_rfl) (by simp) (AllReadyH.cons rfl (fun K hK => ?_) AllReadyH.nil)
    go_simp
    refine (KF.out _ (HC5.out.trans Q0 (by simp)) (HP5.out.chg Q0 (by simp))).mono ?_
    rintro e y4 ⟨rfl, Cy4⟩
    go_simp
    refine hK.out _ _ (Q0.trans Cy4 (by simp)) (fun HN1 => ?_)
    clear hK K
    refine' tkH (i := 5) (v := .bool true) rfl (Or.inl ⟨by rfl, ?hyu75⟩) HN1 ?restu75
    case hyu75 =>
      intro w' hSw
      have s1 := hSw
      go_simp
      try rfl
    (try simp only [Act.put, List.getElem_toArray, List.getElem_cons_succ, List.getElem_cons_zero, List.setIfInBounds_toArray, List.set_cons_zero, List.set_cons_succ])
    refine' tkH (i := 6) (v := _) rfl (Or.inl ⟨by rfl, ?hyu86⟩) HN1 ?restu86
    case hyu86 =>
      intro w' hSw
      have s1 := hSw
      go_simp
      try with_reducible rfl
    (try simp only [Act.put, List.getElem_toArray, List.getElem_cons_succ, List.getElem_cons_zero, List.setIfInBounds_toArray, List.set_cons_zero, List.set_cons_succ])
    refine' tkH (i := 7) (v := _) rfl (Or.inl ⟨by rfl, ?hyu87⟩) HN1 ?restu87
    case hyu87 =>
      intro w' hSw
      have s1 := hSw
      go_simp
      try with_reducible rfl
    (try simp only [Act.put, List.getElem_toArray, List.getElem_cons_succ, List.getElem_cons_zero, List.setIfInBounds_toArray, List.set_cons_zero, List.set_cons_succ])
    refine' tkH (i := 8) (v := _) rfl (Or.inl ⟨by rfl, ?hyu88⟩) HN1 ?restu88
    case hyu88 =>
      intro w' hSw
      have s1 := hSw
      go_simp
      try with_reducible rfl
    (try simp only [Act.put, List.getElem_toArray, List.getElem_cons_succ, List.getElem_cons_zero, List.setIfInBounds_toArray, List.set_cons_zero, List.set_cons_succ])
    refine' tkH (i := 9) (v := _) rfl (Or.inl ⟨by rfl, ?hyu89⟩) HN1 ?restu89
    case hyu89 =>
      intro w' hSw
      have s1 := hSw
      go_simp
      try with_reducible rfl
    (try simp only [Act.put, List.getElem_toArray, List.getElem_cons_succ, List.getElem_cons_zero, List.setIfInBounds_toArray, List.set_cons_zero, List.set_cons_succ])
    refine' tkH (i := 10) (v := _) rfl (Or.inl ⟨by rfl, ?hyu810⟩) HN1 ?restu810
    case hyu810 =>
      intro w' hSw
      have s1 := hSw
      go_simp
      try with_reducible rfl
    (try simp only [Act.put, List.getElem_toArray, List.getElem_cons_succ, List.getElem_cons_zero, List.setIfInBounds_toArray, List.set_cons_zero, List.set_cons_succ])
    refine' tkH (i := 11) (v := _) rfl (Or.inl ⟨by rfl, ?hyu811⟩) HN1 ?restu811
    case hyu811 =>
      intro w' hSw
      have s1 := hSw
      go_simp
      try with_reducible rfl
    (try simp only [Act.put, List.getElem_toArray, List.getElem_cons_succ, List.getElem_cons_zero, List.setIfInBounds_toArray, List.set_cons_zero, List.set_cons_succ])
    refine' tkH (i := 12) (v := _) rfl (Or.inl ⟨by rfl, ?hyu812⟩) HN1 ?restu812
    case hyu812 =>
      intro w' hSw
      have s1 := hSw
      go_simp
      try with_reducible rfl
    (try simp only [Act.put, List.getElem_toArray, List.getElem_cons_succ, List.getElem_cons_zero, List.setIfInBounds_toArray, List.set_cons_zero, List.set_cons_succ])
    refine' tkH (i := 13) (v := _) rfl (Or.inl ⟨by rfl, ?hyu813⟩) HN1 ?restu813
    case hyu813 =>
      intro w' hSw
      have s1 := hSw
      go_simp
      try with_reducible rfl
    (try simp only [Act.put, List.getElem_toArray, List.getElem_cons_succ, List.getElem_cons_zero, List.setIfInBounds_toArray, List.set_cons_zero, List.set_cons_succ])
    refine' tkH (i := 14) (v := _) rfl (Or.inl ⟨by rfl, ?hyu814⟩) HN1 ?restu814
    case hyu814 =>
      intro w' hSw
      have s1 := hSw
      go_simp
      try with_reducible rfl
    (try simp only [Act.put, List.getElem_toArray, List.getElem_cons_succ, List.getElem_cons_zero, List.setIfInBounds_toArray, List.set_cons_zero, List.set_cons_succ])
    refine' tkH (i := 15) (v := _) rfl (Or.inl ⟨by rfl, ?hyu815⟩) HN1 ?restu815
    case hyu815 =>
      intro w' hSw
      have s1 := hSw
      go_simp
      try with_reducible rfl
    (try simp only [Act.put, List.getElem_toArray, List.getElem_cons_succ, List.getElem_cons_zero, List.setIfInBounds_toArray, List.set_cons_zero, List.set_cons_succ])
    refine' tkH (i := 16) (v := _) rfl (Or.inl ⟨by rfl, ?hyu816⟩) HN1 ?restu816
    case hyu816 =>
      intro w' hSw
      have s1 := hSw
      go_simp
      try with_reducible rfl
    (try simp only [Act.put, List.getElem_toArray, List.getElem_cons_succ, List.getElem_cons_zero, List.setIfInBounds_toArray, List.set_cons_zero, List.set_cons_succ])
    refine' tkH (i := 17) (v := _) rfl (Or.inl ⟨by rfl, ?hyu817⟩) HN1 ?restu817
    case hyu817 =>
      intro w' hSw
      have s1 := hSw
      go_simp
      try with_reducible rfl
    (try simp only [Act.put, List.getElem_toArray, List.getElem_cons_succ, List.getElem_cons_zero, List.setIfInBounds_toArray, List.set_cons_zero, List.set_cons_succ])
    refine' tkH (i := 18) (v := .string ⟨m_given.toArray⟩) rfl (Or.inl ⟨by rfl, ?hyu918⟩) HN1 ?restu918
    case hyu918 =>
      intro w' hSw
      have s1 := hSw
      have hl := run_str_of_bytes (P := Tryd.prog) w' 25 9 5 Tryd.underlying25 Tryd.underlying5 Tryd.underlying9 bo m_given.length bc m_given rfl (HBS.out.chg s1 (by simp))
      simp [execOp, Act.eval, hl, Result.andThen]
    (try simp only [Act.put, List.getElem_toArray, List.getElem_cons_succ, List.getElem_cons_zero, List.setIfInBounds_toArray, List.set_cons_zero, List.set_cons_succ])
    refine wpAnyH_ready (rs := [19]) (by kernel_rfl) (by simp) (AllReadyH.cons rfl (fun K hK => ?_) AllReadyH.nil)
    go_simp
    refine (KG.out _).mono ?_
    rintro e y5 ⟨gg, cg, rfl, _, hsg, _, _, C5⟩
    have HSG := Lib.hid hsg
    go_simp
    refine hK.out _ _ (HN1.trans C5 (by simp)) (fun HN5 => ?_)
    clear hK K hsg
    have HSG2 : Hid (∀ w', Chg [] y5 w' → Src w' (some ⟨gg, 0, none⟩) (bvs m_given)) := Lib.hid (fun w' C => HSG.out.chg C (by simp))
    refine wpAnyH_ready (rs := [20]) (by kernel_rfl) (by simp) (AllReadyH.cons rfl (fun K hK => ?_) AllReadyH.nil)
    have hl := run_str_of_bytes (P := Tryd.prog) y5 25 9 5 Tryd.underlying25 Tryd.underlying5 Tryd.underlying9 (some ⟨gg, 0, none⟩) m_given.length cg m_given rfl HSG.out
    go_simp
    refine hK.out _ _ HN5 (fun HN6 => ?_)
    clear hK K hl
    refine' tkH (i := 21) (v := .bool true) rfl (Or.inl ⟨by rfl, ?hyu1021⟩) HN6 ?restu1021
    case hyu1021 =>
      intro w' hSw
      have s1 := hSw
      go_simp
      try rfl
    (try simp only [Act.put, List.getElem_toArray, List.getElem_cons_succ, List.getElem_cons_zero, List.setIfInBounds_toArray, List.set_cons_zero, List.set_cons_succ])
    refine' tkH (i := 22) (v := _) rfl (Or.inl ⟨by rfl, ?hyu1122⟩) HN6 ?restu1122
    case hyu1122 =>
      intro w' hSw
      have s1 := hSw
      go_simp
      try with_reducible rfl
    (try simp only [Act.put, List.getElem_toArray, List.getElem_cons_succ, List.getElem_cons_zero, List.setIfInBounds_toArray, List.set_cons_zero, List.set_cons_succ])
    refine' tkH (i := 23) (v := _) rfl (Or.inl ⟨by rfl, ?hyu1123⟩) HN6 ?restu1123
    case hyu1123 =>
      intro w' hSw
      have s1 := hSw
      go_simp
      try with_reducible rfl
    (try simp only [Act.put, List.getElem_toArray, List.getElem_cons_succ, List.getElem_cons_zero, List.setIfInBounds_toArray, List.set_cons_zero, List.set_cons_succ])
    refine' tkH (i := 24) (v := .agg RC) rfl (Or.inl ⟨by rfl, ?hyu1224⟩) HN6 ?restu1224
    case hyu1224 =>
      intro w' hSw
      have s1 := hSw
      have hl := run_loadAt_rec w' q RC _ ((s1.block q (lt_of_block HX5.out) (by simp)).trans HX5.out) HRS.out
      simp [execOp, Act.eval, hl, Result.andThen]
    (try simp only [Act.put, List.getElem_toArray, List.getElem_cons_succ, List.getElem_cons_zero, List.setIfInBounds_toArray, List.set_cons_zero, List.set_cons_succ])
    refine wpAnyH_ready (rs := [25]) (by kernel_rfl) (by simp) (AllReadyH.cons rfl (fun K hK => ?_) AllReadyH.nil)
    go_simp
    refine (KL.out _ (HC5.out.trans HN6 (by simp)) (HFX.out.trans HN6 (by simp))).mono ?_
    rintro e y6 ⟨rfl, Cy6⟩
    go_simp
    refine hK.out _ _ (HN6.trans Cy6 (by simp)) (fun HN2 => ?_)
    clear hK K
    refine' tkH (i := 26) (v := _) rfl (Or.inl ⟨by rfl, ?hyu1326⟩) HN2 ?restu1326
    case hyu1326 =>
      intro w' hSw
      have s1 := hSw
      go_simp
      try with_reducible rfl
    (try simp only [Act.put, List.getElem_toArray, List.getElem_cons_succ, List.getElem_cons_zero, List.setIfInBounds_toArray, List.set_cons_zero, List.set_cons_succ])
    refine' tkH (i := 27) (v := _) rfl (Or.inl ⟨by rfl, ?hyu1327⟩) HN2 ?restu1327
    case hyu1327 =>
      intro w' hSw
      have s1 := hSw
      go_simp
      try with_reducible rfl
    (try simp only [Act.put, List.getElem_toArray, List.getElem_cons_succ, List.getElem_cons_zero, List.setIfInBounds_toArray, List.set_cons_zero, List.set_cons_succ])
    refine' tkH (i := 28) (v := _) rfl (Or.inl ⟨by rfl, ?hyu1428⟩) HN2 ?restu1428
    case hyu1428 =>
      intro w' hSw
      have s1 := hSw
      go_simp
      try with_reducible rfl
    refine wpAnyH_done (by kernel_rfl) ?_ _
    have HCF := Lib.hid (HC5.out.trans HN2 (by simp))
    go_wp2_with fail
    go_ret
    exact ⟨rfl, HCF.out⟩
  · go_simp
    refine (KT.out 121 8 (by decide) _).mono ?_
    rintro e y5 ⟨rfl, Cy5⟩
    go_simp
    refine hK.out _ _ (HN1.trans Cy5 (by simp)) (fun HN2 => ?_)
    clear hK K
    refine wpAnyH_ready (rs := [3, 6]) (by kernel_rfl) (by simp) (AllReadyH.cons rfl (fun K hK => ?_) (AllReadyH.cons rfl (fun K hK => ?_) AllReadyH.nil))
    · obtain ⟨g3, c3, x3, hr3, hc3, M3⟩ := run_bytes_of_str (P := Tryd.prog) y5 9 25 5 (many 120 16) Tryd.underlying9 Tryd.underlying25 Tryd.underlying5
      rw [show (many 120 16).size = 16 from rfl] at hr3 hc3
      have HS3 := Lib.hid (show PV x3 [] (.slice (some ⟨g3, 0, none⟩) 16 c3) m_x16 from ⟨_, _, rfl, M3.src, hc3, (fun h => by cases h), fun _ a ha => by
        cases ha
        exact ⟨List.not_mem_nil, M3.new.2⟩⟩)
      have HM3 := Lib.hid M3.chg
      clear M3
      go_simp
      refine hK.out _ _ (HN2.trans HM3.out (by simp)) (fun HN3 => ?_)
      clear hK K hr3
      refine' tkH (i := 4) (v := _) rfl (Or.inl ⟨by rfl, ?hyu154⟩) HN3 ?restu154
      case hyu154 =>
        intro w' hSw
        have s1 := hSw
        go_simp
        try with_reducible rfl
      (try simp only [Act.put, List.getElem_toArray, List.getElem_cons_succ, List.getElem_cons_zero, List.setIfInBounds_toArray, List.set_cons_zero, List.set_cons_succ])
      refine wpAnyH_ready (rs := [6]) (by kernel_rfl) (by simp) (AllReadyH.cons rfl (fun K hK => ?_) AllReadyH.nil)
      obtain ⟨g6, c6, x6, hr6, hc6, M6⟩ := run_bytes_of_str (P := Tryd.prog) x3 9 25 5 (many 121 8) Tryd.underlying9 Tryd.underlying25 Tryd.underlying5
      rw [show (many 121 8).size = 8 from rfl] at hr6 hc6
      have HS6 := Lib.hid (show PV x6 [] (.slice (some ⟨g6, 0, none⟩) 8 c6) m_y8 from ⟨_, _, rfl, M6.src, hc6, (fun h => by cases h), fun _ a ha => by
        cases ha
        exact ⟨List.not_mem_nil, M6.new.2⟩⟩)
      have HM6 := Lib.hid M6.chg
      clear M6
      go_simp
      refine hK.out _ _ (HN3.trans HM6.out (by simp)) (fun HN4 => ?_)
      clear hK K hr6
      refine' tkH (i := 7) (v := _) rfl (Or.inl ⟨by rfl, ?hyu167⟩) HN4 ?restu167
      case hyu167 =>
        intro w' hSw
        have s1 := hSw
        go_simp
        try with_reducible rfl
      (try simp only [Act.put, List.getElem_toArray, List.getElem_cons_succ, List.getElem_cons_zero, List.setIfInBounds_toArray, List.set_cons_zero, List.set_cons_succ])
      have hb2 := run_two_gots 0 2 (some ⟨g3, 0, none⟩) 16 c3 (some ⟨g6, 0, none⟩) 8 c6 x6
      have HP3 := Lib.hid (HS3.out.chg (show Chg [] x3 x6 from HM6.out) (by simp))
      have HP6 := Lib.hid (HS6.out.chg (show Chg [] x6 x6 from Chg.refl _ _) (by simp))
      have hxg := heap_alloc_new x6 (.cells #[.int .i64 0, .slice (some ⟨g3, 0, none⟩) 16 c3, .int .i64 2, .slice (some ⟨g6, 0, none⟩) 8 c6] 104)
      have CG := Chg.alloc [] x6 (.cells #[.int .i64 0, .slice (some ⟨g3, 0, none⟩) 16 c3, .int .i64 2, .slice (some ⟨g6, 0, none⟩) 8 c6] 104)
      have HGA := Lib.hid (gots_two HP3.out HP6.out)
      refine wpAnyH_ready (rs := [8]) (by kernel_rfl) (by simp) (AllReadyH.cons rfl (fun K hK => ?_) AllReadyH.nil)
      go_simp
      refine hK.out _ _ (HN4.trans CG (by simp)) (fun HG => ?_)
      clear hK K hb2
      obtain ⟨qg, hqg⟩ : ∃ qg, x6.heap.size = qg := ⟨_, rfl⟩
      rw [hqg] at HGA ⊢
      generalize x6.alloc (.cells #[.int .i64 0, .slice (some ⟨g3, 0, none⟩) 16 c3, .int .i64 2, .slice (some ⟨g6, 0, none⟩) 8 c6] 104) = xg at *
      clear hxg CG hqg HP3 HP6 HS3 HS6
      refine wpAnyH_ready (rs := [9]) (by kernel_rfl) (by simp) (AllReadyH.cons rfl (fun K hK => ?_) AllReadyH.nil)
      have KBB := Lib.hid (KB.out (some ⟨g3, 0, none⟩) c3 (some ⟨g6, 0, none⟩) c6 qg xg (HC4.out.trans HG (by simp)) HG (HPL.out.chg HG (by simp)) HGA.out)
      go_simp
      refine KBB.out.mono ?_
      rintro e xf ⟨Cf, bo, bc, no, nc, rfl, hbo, _, _, _⟩
      have HBO := Lib.hid hbo
      go_simp
      refine hK.out _ _ (HG.trans Cf (by simp)) (fun HF => ?_)
      clear hK K Cf hbo KBB HGA
      refine' tkH (i := 10) (v := _) rfl (Or.inl ⟨by rfl, ?hyu1710⟩) HF ?restu1710
      case hyu1710 =>
        intro w' hSw
        have s1 := hSw
        go_simp
        try with_reducible rfl
      (try simp only [Act.put, List.getElem_toArray, List.getElem_cons_succ, List.getElem_cons_zero, List.setIfInBounds_toArray, List.set_cons_zero, List.set_cons_succ])
      refine' tkH (i := 11) (v := _) rfl (Or.inl ⟨by rfl, ?hyu1711⟩) HF ?restu1711
      case hyu1711 =>
        intro w' hSw
        have s1 := hSw
        go_simp
        try with_reducible rfl
      (try simp only [Act.put, List.getElem_toArray, List.getElem_cons_succ, List.getElem_cons_zero, List.setIfInBounds_toArray, List.set_cons_zero, List.set_cons_succ])
      refine' tkH (i := 12) (v := _) rfl (Or.inl ⟨by rfl, ?hyu1712⟩) HF ?restu1712
      case hyu1712 =>
        intro w' hSw
        have s1 := hSw
        go_simp
        try with_reducible rfl
      (try simp only [Act.put, List.getElem_toArray, List.getElem_cons_succ, List.getElem_cons_zero, List.setIfInBounds_toArray, List.set_cons_zero, List.set_cons_succ])
      refine' tkH (i := 13) (v := _) rfl (Or.inl ⟨by rfl, ?hyu1713⟩) HF ?restu1713
      case hyu1713 =>
        intro w' hSw
        have s1 := hSw
        go_simp
        try with_reducible rfl
      (try simp only [Act.put, List.getElem_toArray, List.getElem_cons_succ, List.getElem_cons_zero, List.setIfInBounds_toArray, List.set_cons_zero, List.set_cons_succ])
      refine' tkH (i := 14) (v := _) rfl (Or.inl ⟨by rfl, ?hyu1714⟩) HF ?restu1714
      case hyu1714 =>
        intro w' hSw
        have s1 := hSw
        go_simp
        try with_reducible rfl
      (try simp only [Act.put, List.getElem_toArray, List.getElem_cons_succ, List.getElem_cons_zero, List.setIfInBounds_toArray, List.set_cons_zero, List.set_cons_succ])
      refine' tkH (i := 15) (v := _) rfl (Or.inl ⟨by rfl, ?hyu1715⟩) HF ?restu1715
      case hyu1715 =>
        intro w' hSw
        have s1 := hSw
        go_simp
        try with_reducible rfl
      (try simp only [Act.put, List.getElem_toArray, List.getElem_cons_succ, List.getElem_cons_zero, List.setIfInBounds_toArray, List.set_cons_zero, List.set_cons_succ])
      refine' tkH (i := 16) (v := _) rfl (Or.inl ⟨by rfl, ?hyu1716⟩) HF ?restu1716
      case hyu1716 =>
        intro w' hSw
        have s1 := hSw
        go_simp
        try with_reducible rfl
      (try simp only [Act.put, List.getElem_toArray, List.getElem_cons_succ, List.getElem_cons_zero, List.setIfInBounds_toArray, List.set_cons_zero, List.set_cons_succ])
      refine wpAnyH_done (by kernel_rfl) ?_ _
      have HC5 := Lib.hid (HC4.out.trans HF (by simp))
      have HFX := Lib.hid HF
      have HX5 := Lib.hid ((HF.block q (lt_of_block HX4.out) (by simp)).trans HX4.out)
      have HP5 := Lib.hid (HPL.out.chg HF (by simp))
      have HBS := Lib.hid (ownsRow_src HBO.out)
      go_upto_region 4 with (fail)
      refine wp_region_held_drew (S := fun w' => Chg [] xf w') (by kernel_rfl) (Chg.drewN [] xf 1) (fun Q0 => ?_)
      refine' tkH (i := 0) (v := _) rfl (Or.inl ⟨by rfl, ?hyu180⟩) Q0 ?restu180
      case hyu180 =>
        intro w' hSw
        have s1 := hSw
        go_simp
        try with_reducible rfl
      (try simp only [Act.put, List.getElem_toArray, List.getElem_cons_zero, List.setIfInBounds_toArray, List.set_cons_zero, List.set_cons_succ])
      refine' tkH (i := 1) (v := _) rfl (Or.inl ⟨by rfl, ?hyu181⟩) Q0 ?restu181
      case hyu181 =>
        intro w' hSw
        have s1 := hSw
        go_simp
        try with_reducible rfl
      (try simp only [Act.put, List.getElem_toArray, List.getElem_cons_succ, List.getElem_cons_zero, List.setIfInBounds_toArray, List.set_cons_zero, List.set_cons_succ])
      refine' tkH (i := 2) (v := _) rfl (Or.inl ⟨by rfl, ?hyu182⟩) Q0 ?restu182
      case hyu182 =>
        intro w' hSw
        have s1 := hSw
        go_simp
        try with_reducible rfl
      (try simp only [Act.put, List.getElem_toArray, List.getElem_cons_succ, List.getElem_cons_zero, List.setIfInBounds_toArray, List.set_cons_zero, List.set_cons_succ])
      refine' tkH (i := 3) (v := _) rfl (Or.inl ⟨by rfl, ?hyu183⟩) Q0 ?restu183
      case hyu183 =>
        intro w' hSw
        have s1 := hSw
        go_simp
        try with_reducible rfl
      (try simp only [Act.put, List.getElem_toArray, List.getElem_cons_succ, List.getElem_cons_zero, List.setIfInBounds_toArray, List.set_cons_zero, List.set_cons_succ])
      refine wpAnyH_ready (rs := [4]) (by kernel_rfl) (by simp) (AllReadyH.cons rfl (fun K hK => ?_) AllReadyH.nil)
      go_simp
      refine (KF.out _ (HC5.out.trans Q0 (by simp)) (HP5.out.chg Q0 (by simp))).mono ?_
      rintro e y4 ⟨rfl, Cy4⟩
      go_simp
      refine hK.out _ _ (Q0.trans Cy4 (by simp)) (fun HN1 => ?_)
      clear hK K
      refine' tkH (i := 5) (v := .bool true) rfl (Or.inl ⟨by rfl, ?hyu195⟩) HN1 ?restu195
      case hyu195 =>
        intro w' hSw
        have s1 := hSw
        go_simp
        try rfl
      (try simp only [Act.put, List.getElem_toArray, List.getElem_cons_succ, List.getElem_cons_zero, List.setIfInBounds_toArray, List.set_cons_zero, List.set_cons_succ])
      refine' tkH (i := 6) (v := _) rfl (Or.inl ⟨by rfl, ?hyu206⟩) HN1 ?restu206
      case hyu206 =>
        intro w' hSw
        have s1 := hSw
        go_simp
        try with_reducible rfl
      (try simp only [Act.put, List.getElem_toArray, List.getElem_cons_succ, List.getElem_cons_zero, List.setIfInBounds_toArray, List.set_cons_zero, List.set_cons_succ])
      refine' tkH (i := 7) (v := _) rfl (Or.inl ⟨by rfl, ?hyu207⟩) HN1 ?restu207
      case hyu207 =>
        intro w' hSw
        have s1 := hSw
        go_simp
        try with_reducible rfl
      (try simp only [Act.put, List.getElem_toArray, List.getElem_cons_succ, List.getElem_cons_zero, List.setIfInBounds_toArray, List.set_cons_zero, List.set_cons_succ])
      refine' tkH (i := 8) (v := _) rfl (Or.inl ⟨by rfl, ?hyu208⟩) HN1 ?restu208
      case hyu208 =>
        intro w' hSw
        have s1 := hSw
        go_simp
        try with_reducible rfl
      (try simp only [Act.put, List.getElem_toArray, List.getElem_cons_succ, List.getElem_cons_zero, List.setIfInBounds_toArray, List.set_cons_zero, List.set_cons_succ])
      refine' tkH (i := 9) (v := _) rfl (Or.inl ⟨by rfl, ?hyu209⟩) HN1 ?restu209
      case hyu209 =>
        intro w' hSw
        have s1 := hSw
        go_simp
        try with_reducible rfl
      (try simp only [Act.put, List.getElem_toArray, List.getElem_cons_succ, List.getElem_cons_zero, List.setIfInBounds_toArray, List.set_cons_zero, List.set_cons_succ])
      refine' tkH (i := 10) (v := _) rfl (Or.inl ⟨by rfl, ?hyu2010⟩) HN1 ?restu2010
      case hyu2010 =>
        intro w' hSw
        have s1 := hSw
        go_simp
        try with_reducible rfl
      (try simp only [Act.put, List.getElem_toArray, List.getElem_cons_succ, List.getElem_cons_zero, List.setIfInBounds_toArray, List.set_cons_zero, List.set_cons_succ])
      refine' tkH (i := 11) (v := _) rfl (Or.inl ⟨by rfl, ?hyu2011⟩) HN1 ?restu2011
      case hyu2011 =>
        intro w' hSw
        have s1 := hSw
        go_simp
        try with_reducible rfl
      (try simp only [Act.put, List.getElem_toArray, List.getElem_cons_succ, List.getElem_cons_zero, List.setIfInBounds_toArray, List.set_cons_zero, List.set_cons_succ])
      refine' tkH (i := 12) (v := _) rfl (Or.inl ⟨by rfl, ?hyu2012⟩) HN1 ?restu2012
      case hyu2012 =>
        intro w' hSw
        have s1 := hSw
        go_simp
        try with_reducible rfl
      (try simp only [Act.put, List.getElem_toArray, List.getElem_cons_succ, List.getElem_cons_zero, List.setIfInBounds_toArray, List.set_cons_zero, List.set_cons_succ])
      refine' tkH (i := 13) (v := _) rfl (Or.inl ⟨by rfl, ?hyu2013⟩) HN1 ?restu2013
      case hyu2013 =>
        intro w' hSw
        have s1 := hSw
        go_simp
        try with_reducible rfl
      (try simp only [Act.put, List.getElem_toArray, List.getElem_cons_succ, List.getElem_cons_zero, List.setIfInBounds_toArray, List.set_cons_zero, List.set_cons_succ])
      refine' tkH (i := 14) (v := _) rfl (Or.inl ⟨by rfl, ?hyu2014⟩) HN1 ?restu2014
      case hyu2014 =>
        intro w' hSw
        have s1 := hSw
        go_simp
        try with_reducible rfl
      (try simp only [Act.put, List.getElem_toArray, List.getElem_cons_succ, List.getElem_cons_zero, List.setIfInBounds_toArray, List.set_cons_zero, List.set_cons_succ])
      refine' tkH (i := 15) (v := _) rfl (Or.inl ⟨by rfl, ?hyu2015⟩) HN1 ?restu2015
      case hyu2015 =>
        intro w' hSw
        have s1 := hSw
        go_simp
        try with_reducible rfl
      (try simp only [Act.put, List.getElem_toArray, List.getElem_cons_succ, List.getElem_cons_zero, List.setIfInBounds_toArray, List.set_cons_zero, List.set_cons_succ])
      refine' tkH (i := 16) (v := _) rfl (Or.inl ⟨by rfl, ?hyu2016⟩) HN1 ?restu2016
      case hyu2016 =>
        intro w' hSw
        have s1 := hSw
        go_simp
        try with_reducible rfl
      (try simp only [Act.put, List.getElem_toArray, List.getElem_cons_succ, List.getElem_cons_zero, List.setIfInBounds_toArray, List.set_cons_zero, List.set_cons_succ])
      refine' tkH (i := 17) (v := _) rfl (Or.inl ⟨by rfl, ?hyu2017⟩) HN1 ?restu2017
      case hyu2017 =>
        intro w' hSw
        have s1 := hSw
        go_simp
        try with_reducible rfl
      (try simp only [Act.put, List.getElem_toArray, List.getElem_cons_succ, List.getElem_cons_zero, List.setIfInBounds_toArray, List.set_cons_zero, List.set_cons_succ])
      refine' tkH (i := 18) (v := .string ⟨m_given.toArray⟩) rfl (Or.inl ⟨by rfl, ?hyu2118⟩) HN1 ?restu2118
      case hyu2118 =>
        intro w' hSw
        have s1 := hSw
        have hl := run_str_of_bytes (P := Tryd.prog) w' 25 9 5 Tryd.underlying25 Tryd.underlying5 Tryd.underlying9 bo m_given.length bc m_given rfl (HBS.out.chg s1 (by simp))
        simp [execOp, Act.eval, hl, Result.andThen]
      (try simp only [Act.put, List.getElem_toArray, List.getElem_cons_succ, List.getElem_cons_zero, List.setIfInBounds_toArray, List.set_cons_zero, List.set_cons_succ])
      refine wpAnyH_ready (rs := [19]) (by kernel_rfl) (by simp) (AllReadyH.cons rfl (fun K hK => ?_) AllReadyH.nil)
      go_simp
      refine (KG.out _).mono ?_
      rintro e y5 ⟨gg, cg, rfl, _, hsg, _, _, C5⟩
      have HSG := Lib.hid hsg
      go_simp
      refine hK.out _ _ (HN1.trans C5 (by simp)) (fun HN5 => ?_)
      clear hK K hsg
      have HSG2 : Hid (∀ w', Chg [] y5 w' → Src w' (some ⟨gg, 0, none⟩) (bvs m_given)) := Lib.hid (fun w' C => HSG.out.chg C (by simp))
      refine wpAnyH_ready (rs := [20]) (by kernel_rfl) (by simp) (AllReadyH.cons rfl (fun K hK => ?_) AllReadyH.nil)
      have hl := run_str_of_bytes (P := Tryd.prog) y5 25 9 5 Tryd.underlying25 Tryd.underlying5 Tryd.underlying9 (some ⟨gg, 0, none⟩) m_given.length cg m_given rfl HSG.out
      go_simp
      refine hK.out _ _ HN5 (fun HN6 => ?_)
      clear hK K hl
      refine' tkH (i := 21) (v := .bool true) rfl (Or.inl ⟨by rfl, ?hyu2221⟩) HN6 ?restu2221
      case hyu2221 =>
        intro w' hSw
        have s1 := hSw
        go_simp
        try rfl
      (try simp only [Act.put, List.getElem_toArray, List.getElem_cons_succ, List.getElem_cons_zero, List.setIfInBounds_toArray, List.set_cons_zero, List.set_cons_succ])
      refine' tkH (i := 22) (v := _) rfl (Or.inl ⟨by rfl, ?hyu2322⟩) HN6 ?restu2322
      case hyu2322 =>
        intro w' hSw
        have s1 := hSw
        go_simp
        try with_reducible rfl
      (try simp only [Act.put, List.getElem_toArray, List.getElem_cons_succ, List.getElem_cons_zero, List.setIfInBounds_toArray, List.set_cons_zero, List.set_cons_succ])
      refine' tkH (i := 23) (v := _) rfl (Or.inl ⟨by rfl, ?hyu2323⟩) HN6 ?restu2323
      case hyu2323 =>
        intro w' hSw
        have s1 := hSw
        go_simp
        try with_reducible rfl
      (try simp only [Act.put, List.getElem_toArray, List.getElem_cons_succ, List.getElem_cons_zero, List.setIfInBounds_toArray, List.set_cons_zero, List.set_cons_succ])
      refine' tkH (i := 24) (v := .agg RC) rfl (Or.inl ⟨by rfl, ?hyu2424⟩) HN6 ?restu2424
      case hyu2424 =>
        intro w' hSw
        have s1 := hSw
        have hl := run_loadAt_rec w' q RC _ ((s1.block q (lt_of_block HX5.out) (by simp)).trans HX5.out) HRS.out
        simp [execOp, Act.eval, hl, Result.andThen]
      (try simp only [Act.put, List.getElem_toArray, List.getElem_cons_succ, List.getElem_cons_zero, List.setIfInBounds_toArray, List.set_cons_zero, List.set_cons_succ])
      refine wpAnyH_ready (rs := [25]) (by kernel_rfl) (by simp) (AllReadyH.cons rfl (fun K hK => ?_) AllReadyH.nil)
      go_simp
      refine (KL.out _ (HC5.out.trans HN6 (by simp)) (HFX.out.trans HN6 (by simp))).mono ?_
      rintro e y6 ⟨rfl, Cy6⟩
      go_simp
      refine hK.out _ _ (HN6.trans Cy6 (by simp)) (fun HN2 => ?_)
      clear hK K
      refine' tkH (i := 26) (v := _) rfl (Or.inl ⟨by rfl, ?hyu2526⟩) HN2 ?restu2526
      case hyu2526 =>
        intro w' hSw
        have s1 := hSw
        go_simp
        try with_reducible rfl
      (try simp only [Act.put, List.getElem_toArray, List.getElem_cons_succ, List.getElem_cons_zero, List.setIfInBounds_toArray, List.set_cons_zero, List.set_cons_succ])
      refine' tkH (i := 27) (v := _) rfl (Or.inl ⟨by rfl, ?hyu2527⟩) HN2 ?restu2527
      case hyu2527 =>
        intro w' hSw
        have s1 := hSw
        go_simp
        try with_reducible rfl
      (try simp only [Act.put, List.getElem_toArray, List.getElem_cons_succ, List.getElem_cons_zero, List.setIfInBounds_toArray, List.set_cons_zero, List.set_cons_succ])
      refine' tkH (i := 28) (v := _) rfl (Or.inl ⟨by rfl, ?hyu2628⟩) HN2 ?restu2628
      case hyu2628 =>
        intro w' hSw
        have s1 := hSw
        go_simp
        try with_reducible rfl
      refine wpAnyH_done (by kernel_rfl) ?_ _
      have HCF := Lib.hid (HC5.out.trans HN2 (by simp))
      go_wp2_with fail
      go_ret
      exact ⟨rfl, HCF.out⟩
    · obtain ⟨g6, c6, x6, hr6, hc6, M6⟩ := run_bytes_of_str (P := Tryd.prog) y5 9 25 5 (many 121 8) Tryd.underlying9 Tryd.underlying25 Tryd.underlying5
      rw [show (many 121 8).size = 8 from rfl] at hr6 hc6
      have HS6 := Lib.hid (show PV x6 [] (.slice (some ⟨g6, 0, none⟩) 8 c6) m_y8 from ⟨_, _, rfl, M6.src, hc6, (fun h => by cases h), fun _ a ha => by
        cases ha
        exact ⟨List.not_mem_nil, M6.new.2⟩⟩)
      have HM6 := Lib.hid M6.chg
      clear M6
      go_simp
      refine hK.out _ _ (HN2.trans HM6.out (by simp)) (fun HN3 => ?_)
      clear hK K hr6
      refine' tkH (i := 7) (v := _) rfl (Or.inl ⟨by rfl, ?hyu277⟩) HN3 ?restu277
      case hyu277 =>
        intro w' hSw
        have s1 := hSw
        go_simp
        try with_reducible rfl
      (try simp only [Act.put, List.getElem_toArray, List.getElem_cons_succ, List.getElem_cons_zero, List.setIfInBounds_toArray, List.set_cons_zero, List.set_cons_succ])
      refine wpAnyH_ready (rs := [3]) (by kernel_rfl) (by simp) (AllReadyH.cons rfl (fun K hK => ?_) AllReadyH.nil)
      obtain ⟨g3, c3, x3, hr3, hc3, M3⟩ := run_bytes_of_str (P := Tryd.prog) x6 9 25 5 (many 120 16) Tryd.underlying9 Tryd.underlying25 Tryd.underlying5
      rw [show (many 120 16).size = 16 from rfl] at hr3 hc3
      have HS3 := Lib.hid (show PV x3 [] (.slice (some ⟨g3, 0, none⟩) 16 c3) m_x16 from ⟨_, _, rfl, M3.src, hc3, (fun h => by cases h), fun _ a ha => by
        cases ha
        exact ⟨List.not_mem_nil, M3.new.2⟩⟩)
      have HM3 := Lib.hid M3.chg
      clear M3
      go_simp
      refine hK.out _ _ (HN3.trans HM3.out (by simp)) (fun HN4 => ?_)
      clear hK K hr3
      refine' tkH (i := 4) (v := _) rfl (Or.inl ⟨by rfl, ?hyu284⟩) HN4 ?restu284
      case hyu284 =>
        intro w' hSw
        have s1 := hSw
        go_simp
        try with_reducible rfl
      (try simp only [Act.put, List.getElem_toArray, List.getElem_cons_succ, List.getElem_cons_zero, List.setIfInBounds_toArray, List.set_cons_zero, List.set_cons_succ])
      have hb2 := run_two_gots 0 2 (some ⟨g3, 0, none⟩) 16 c3 (some ⟨g6, 0, none⟩) 8 c6 x3
      have HP3 := Lib.hid (HS3.out.chg (show Chg [] x3 x3 from Chg.refl _ _) (by simp))
      have HP6 := Lib.hid (HS6.out.chg (show Chg [] x6 x3 from HM3.out) (by simp))
      have hxg := heap_alloc_new x3 (.cells #[.int .i64 0, .slice (some ⟨g3, 0, none⟩) 16 c3, .int .i64 2, .slice (some ⟨g6, 0, none⟩) 8 c6] 104)
      have CG := Chg.alloc [] x3 (.cells #[.int .i64 0, .slice (some ⟨g3, 0, none⟩) 16 c3, .int .i64 2, .slice (some ⟨g6, 0, none⟩) 8 c6] 104)
      have HGA := Lib.hid (gots_two HP3.out HP6.out)
      refine wpAnyH_ready (rs := [8]) (by kernel_rfl) (by simp) (AllReadyH.cons rfl (fun K hK => ?_) AllReadyH.nil)
      go_simp
      refine hK.out _ _ (HN4.trans CG (by simp)) (fun HG => ?_)
      clear hK K hb2
      obtain ⟨qg, hqg⟩ : ∃ qg, x3.heap.size = qg := ⟨_, rfl⟩
      rw [hqg] at HGA ⊢
      generalize x3.alloc (.cells #[.int .i64 0, .slice (some ⟨g3, 0, none⟩) 16 c3, .int .i64 2, .slice (some ⟨g6, 0, none⟩) 8 c6] 104) = xg at *
      clear hxg CG hqg HP3 HP6 HS3 HS6
      refine wpAnyH_ready (rs := [9]) (by kernel_rfl) (by simp) (AllReadyH.cons rfl (fun K hK => ?_) AllReadyH.nil)
      have KBB := Lib.hid (KB.out (some ⟨g3, 0, none⟩) c3 (some ⟨g6, 0, none⟩) c6 qg xg (HC4.out.trans HG (by simp)) HG (HPL.out.chg HG (by simp)) HGA.out)
      go_simp
      refine KBB.out.mono ?_
      rintro e xf ⟨Cf, bo, bc, no, nc, rfl, hbo, _, _, _⟩
      have HBO := Lib.hid hbo
      go_simp
      refine hK.out _ _ (HG.trans Cf (by simp)) (fun HF => ?_)
      clear hK K Cf hbo KBB HGA
      refine' tkH (i := 10) (v := _) rfl (Or.inl ⟨by rfl, ?hyu2910⟩) HF ?restu2910
      case hyu2910 =>
        intro w' hSw
        have s1 := hSw
        go_simp
        try with_reducible rfl
      (try simp only [Act.put, List.getElem_toArray, List.getElem_cons_succ, List.getElem_cons_zero, List.setIfInBounds_toArray, List.set_cons_zero, List.set_cons_succ])
      refine' tkH (i := 11) (v := _) rfl (Or.inl ⟨by rfl, ?hyu2911⟩) HF ?restu2911
      case hyu2911 =>
        intro w' hSw
        have s1 := hSw
        go_simp
        try with_reducible rfl
      (try simp only [Act.put, List.getElem_toArray, List.getElem_cons_succ, List.getElem_cons_zero, List.setIfInBounds_toArray, List.set_cons_zero, List.set_cons_succ])
      refine' tkH (i := 12) (v := _) rfl (Or.inl ⟨by rfl, ?hyu2912⟩) HF ?restu2912
      case hyu2912 =>
        intro w' hSw
        have s1 := hSw
        go_simp
        try with_reducible rfl
      (try simp only [Act.put, List.getElem_toArray, List.getElem_cons_succ, List.getElem_cons_zero, List.setIfInBounds_toArray, List.set_cons_zero, List.set_cons_succ])
      refine' tkH (i := 13) (v := _) rfl (Or.inl ⟨by rfl, ?hyu2913⟩) HF ?restu2913
      case hyu2913 =>
        intro w' hSw
        have s1 := hSw
        go_simp
        try with_reducible rfl
      (try simp only [Act.put, List.getElem_toArray, List.getElem_cons_succ, List.getElem_cons_zero, List.setIfInBounds_toArray, List.set_cons_zero, List.set_cons_succ])
      refine' tkH (i := 14) (v := _) rfl (Or.inl ⟨by rfl, ?hyu2914⟩) HF ?restu2914
      case hyu2914 =>
        intro w' hSw
        have s1 := hSw
        go_simp
        try with_reducible rfl
      (try simp only [Act.put, List.getElem_toArray, List.getElem_cons_succ, List.getElem_cons_zero, List.setIfInBounds_toArray, List.set_cons_zero, List.set_cons_succ])
      refine' tkH (i := 15) (v := _) rfl (Or.inl ⟨by rfl, ?hyu2915⟩) HF ?restu2915
      case hyu2915 =>
        intro w' hSw
        have s1 := hSw
        go_simp
        try with_reducible rfl
      (try simp only [Act.put, List.getElem_toArray, List.getElem_cons_succ, List.getElem_cons_zero, List.setIfInBounds_toArray, List.set_cons_zero, List.set_cons_succ])
      refine' tkH (i := 16) (v := _) rfl (Or.inl ⟨by rfl, ?hyu2916⟩) HF ?restu2916
      case hyu2916 =>
        intro w' hSw
        have s1 := hSw
        go_simp
        try with_reducible rfl
      (try simp only [Act.put, List.getElem_toArray, List.getElem_cons_succ, List.getElem_cons_zero, List.setIfInBounds_toArray, List.set_cons_zero, List.set_cons_succ])
      refine wpAnyH_done (by kernel_rfl) ?_ _
      have HC5 := Lib.hid (HC4.out.trans HF (by simp))
      have HFX := Lib.hid HF
      have HX5 := Lib.hid ((HF.block q (lt_of_block HX4.out) (by simp)).trans HX4.out)
      have HP5 := Lib.hid (HPL.out.chg HF (by simp))
      have HBS := Lib.hid (ownsRow_src HBO.out)
      go_upto_region 4 with (fail)
      refine wp_region_held_drew (S := fun w' => Chg [] xf w') (by kernel_rfl) (Chg.drewN [] xf 1) (fun Q0 => ?_)
      refine' tkH (i := 0) (v := _) rfl (Or.inl ⟨by rfl, ?hyu300⟩) Q0 ?restu300
      case hyu300 =>
        intro w' hSw
        have s1 := hSw
        go_simp
        try with_reducible rfl
      (try simp only [Act.put, List.getElem_toArray, List.getElem_cons_zero, List.setIfInBounds_toArray, List.set_cons_zero, List.set_cons_succ])
      refine' tkH (i := 1) (v := _) rfl (Or.inl ⟨by rfl, ?hyu301⟩) Q0 ?restu301
      case hyu301 =>
        intro w' hSw
        have s1 := hSw
        go_simp
        try with_reducible rfl
      (try simp only [Act.put, List.getElem_toArray, List.getElem_cons_succ, List.getElem_cons_zero, List.setIfInBounds_toArray, List.set_cons_zero, List.set_cons_succ])
      refine' tkH (i := 2) (v := _) rfl (Or.inl ⟨by rfl, ?hyu302⟩) Q0 ?restu302
      case hyu302 =>
        intro w' hSw
        have s1 := hSw
        go_simp
        try with_reducible rfl
      (try simp only [Act.put, List.getElem_toArray, List.getElem_cons_succ, List.getElem_cons_zero, List.setIfInBounds_toArray, List.set_cons_zero, List.set_cons_succ])
      refine' tkH (i := 3) (v := _) rfl (Or.inl ⟨by rfl, ?hyu303⟩) Q0 ?restu303
      case hyu303 =>
        intro w' hSw
        have s1 := hSw
        go_simp
        try with_reducible rfl
      (try simp only [Act.put, List.getElem_toArray, List.getElem_cons_succ, List.getElem_cons_zero, List.setIfInBounds_toArray, List.set_cons_zero, List.set_cons_succ])
      refine wpAnyH_ready (rs := [4]) (by kernel_rfl) (by simp) (AllReadyH.cons rfl (fun K hK => ?_) AllReadyH.nil)
      go_simp
      refine (KF.out _ (HC5.out.trans Q0 (by simp)) (HP5.out.chg Q0 (by simp))).mono ?_
      rintro e y4 ⟨rfl, Cy4⟩
      go_simp
      refine hK.out _ _ (Q0.trans Cy4 (by simp)) (fun HN1 => ?_)
      clear hK K
      refine' tkH (i := 5) (v := .bool true) rfl (Or.inl ⟨by rfl, ?hyu315⟩) HN1 ?restu315
      case hyu315 =>
        intro w' hSw
        have s1 := hSw
        go_simp
        try rfl
      (try simp only [Act.put, List.getElem_toArray, List.getElem_cons_succ, List.getElem_cons_zero, List.setIfInBounds_toArray, List.set_cons_zero, List.set_cons_succ])
      refine' tkH (i := 6) (v := _) rfl (Or.inl ⟨by rfl, ?hyu326⟩) HN1 ?restu326
      case hyu326 =>
        intro w' hSw
        have s1 := hSw
        go_simp
        try with_reducible rfl
      (try simp only [Act.put, List.getElem_toArray, List.getElem_cons_succ, List.getElem_cons_zero, List.setIfInBounds_toArray, List.set_cons_zero, List.set_cons_succ])
      refine' tkH (i := 7) (v := _) rfl (Or.inl ⟨by rfl, ?hyu327⟩) HN1 ?restu327
      case hyu327 =>
        intro w' hSw
        have s1 := hSw
        go_simp
        try with_reducible rfl
      (try simp only [Act.put, List.getElem_toArray, List.getElem_cons_succ, List.getElem_cons_zero, List.setIfInBounds_toArray, List.set_cons_zero, List.set_cons_succ])
      refine' tkH (i := 8) (v := _) rfl (Or.inl ⟨by rfl, ?hyu328⟩) HN1 ?restu328
      case hyu328 =>
        intro w' hSw
        have s1 := hSw
        go_simp
        try with_reducible rfl
      (try simp only [Act.put, List.getElem_toArray, List.getElem_cons_succ, List.getElem_cons_zero, List.setIfInBounds_toArray, List.set_cons_zero, List.set_cons_succ])
      refine' tkH (i := 9) (v := _) rfl (Or.inl ⟨by rfl, ?hyu329⟩) HN1 ?restu329
      case hyu329 =>
        intro w' hSw
        have s1 := hSw
        go_simp
        try with_reducible rfl
      (try simp only [Act.put, List.getElem_toArray, List.getElem_cons_succ, List.getElem_cons_zero, List.setIfInBounds_toArray, List.set_cons_zero, List.set_cons_succ])
      refine' tkH (i := 10) (v := _) rfl (Or.inl ⟨by rfl, ?hyu3210⟩) HN1 ?restu3210
      case hyu3210 =>
        intro w' hSw
        have s1 := hSw
        go_simp
        try with_reducible rfl
      (try simp only [Act.put, List.getElem_toArray, List.getElem_cons_succ, List.getElem_cons_zero, List.setIfInBounds_toArray, List.set_cons_zero, List.set_cons_succ])
      refine' tkH (i := 11) (v := _) rfl (Or.inl ⟨by rfl, ?hyu3211⟩) HN1 ?restu3211
      case hyu3211 =>
        intro w' hSw
        have s1 := hSw
        go_simp
        try with_reducible rfl
      (try simp only [Act.put, List.getElem_toArray, List.getElem_cons_succ, List.getElem_cons_zero, List.setIfInBounds_toArray, List.set_cons_zero, List.set_cons_succ])
      refine' tkH (i := 12) (v := _) rfl (Or.inl ⟨by rfl, ?hyu3212⟩) HN1 ?restu3212
      case hyu3212 =>
        intro w' hSw
        have s1 := hSw
        go_simp
        try with_reducible rfl
      (try simp only [Act.put, List.getElem_toArray, List.getElem_cons_succ, List.getElem_cons_zero, List.setIfInBounds_toArray, List.set_cons_zero, List.set_cons_succ])
      refine' tkH (i := 13) (v := _) rfl (Or.inl ⟨by rfl, ?hyu3213⟩) HN1 ?restu3213
      case hyu3213 =>
        intro w' hSw
        have s1 := hSw
        go_simp
        try with_reducible rfl
      (try simp only [Act.put, List.getElem_toArray, List.getElem_cons_succ, List.getElem_cons_zero, List.setIfInBounds_toArray, List.set_cons_zero, List.set_cons_succ])
      refine' tkH (i := 14) (v := _) rfl (Or.inl ⟨by rfl, ?hyu3214⟩) HN1 ?restu3214
      case hyu3214 =>
        intro w' hSw
        have s1 := hSw
        go_simp
        try with_reducible rfl
      (try simp only [Act.put, List.getElem_toArray, List.getElem_cons_succ, List.getElem_cons_zero, List.setIfInBounds_toArray, List.set_cons_zero, List.set_cons_succ])
      refine' tkH (i := 15) (v := _) rfl (Or.inl ⟨by rfl, ?hyu3215⟩) HN1 ?restu3215
      case hyu3215 =>
        intro w' hSw
        have s1 := hSw
        go_simp
        try with_reducible rfl
      (try simp only [Act.put, List.getElem_toArray, List.getElem_cons_succ, List.getElem_cons_zero, List.setIfInBounds_toArray, List.set_cons_zero, List.set_cons_succ])
      refine' tkH (i := 16) (v := _) rfl (Or.inl ⟨by rfl, ?hyu3216⟩) HN1 ?restu3216
      case hyu3216 =>
        intro w' hSw
        have s1 := hSw
        go_simp
        try with_reducible rfl
      (try simp only [Act.put, List.getElem_toArray, List.getElem_cons_succ, List.getElem_cons_zero, List.setIfInBounds_toArray, List.set_cons_zero, List.set_cons_succ])
      refine' tkH (i := 17) (v := _) rfl (Or.inl ⟨by rfl, ?hyu3217⟩) HN1 ?restu3217
      case hyu3217 =>
        intro w' hSw
        have s1 := hSw
        go_simp
        try with_reducible rfl
      (try simp only [Act.put, List.getElem_toArray, List.getElem_cons_succ, List.getElem_cons_zero, List.setIfInBounds_toArray, List.set_cons_zero, List.set_cons_succ])
      refine' tkH (i := 18) (v := .string ⟨m_given.toArray⟩) rfl (Or.inl ⟨by rfl, ?hyu3318⟩) HN1 ?restu3318
      case hyu3318 =>
        intro w' hSw
        have s1 := hSw
        have hl := run_str_of_bytes (P := Tryd.prog) w' 25 9 5 Tryd.underlying25 Tryd.underlying5 Tryd.underlying9 bo m_given.length bc m_given rfl (HBS.out.chg s1 (by simp))
        simp [execOp, Act.eval, hl, Result.andThen]
      (try simp only [Act.put, List.getElem_toArray, List.getElem_cons_succ, List.getElem_cons_zero, List.setIfInBounds_toArray, List.set_cons_zero, List.set_cons_succ])
      refine wpAnyH_ready (rs := [19]) (by kernel_rfl) (by simp) (AllReadyH.cons rfl (fun K hK => ?_) AllReadyH.nil)
      go_simp
      refine (KG.out _).mono ?_
      rintro e y5 ⟨gg, cg, rfl, _, hsg, _, _, C5⟩
      have HSG := Lib.hid hsg
      go_simp
      refine hK.out _ _ (HN1.trans C5 (by simp)) (fun HN5 => ?_)
      clear hK K hsg
      have HSG2 : Hid (∀ w', Chg [] y5 w' → Src w' (some ⟨gg, 0, none⟩) (bvs m_given)) := Lib.hid (fun w' C => HSG.out.chg C (by simp))
      refine wpAnyH_ready (rs := [20]) (by kernel_rfl) (by simp) (AllReadyH.cons rfl (fun K hK => ?_) AllReadyH.nil)
      have hl := run_str_of_bytes (P := Tryd.prog) y5 25 9 5 Tryd.underlying25 Tryd.underlying5 Tryd.underlying9 (some ⟨gg, 0, none⟩) m_given.length cg m_given rfl HSG.out
      go_simp
      refine hK.out _ _ HN5 (fun HN6 => ?_)
      clear hK K hl
      refine' tkH (i := 21) (v := .bool true) rfl (Or.inl ⟨by rfl, ?hyu3421⟩) HN6 ?restu3421
      case hyu3421 =>
        intro w' hSw
        have s1 := hSw
        go_simp
        try rfl
      (try simp only [Act.put, List.getElem_toArray, List.getElem_cons_succ, List.getElem_cons_zero, List.setIfInBounds_toArray, List.set_cons_zero, List.set_cons_succ])
      refine' tkH (i := 22) (v := _) rfl (Or.inl ⟨by rfl, ?hyu3522⟩) HN6 ?restu3522
      case hyu3522 =>
        intro w' hSw
        have s1 := hSw
        go_simp
        try with_reducible rfl
      (try simp only [Act.put, List.getElem_toArray, List.getElem_cons_succ, List.getElem_cons_zero, List.setIfInBounds_toArray, List.set_cons_zero, List.set_cons_succ])
      refine' tkH (i := 23) (v := _) rfl (Or.inl ⟨by rfl, ?hyu3523⟩) HN6 ?restu3523
      case hyu3523 =>
        intro w' hSw
        have s1 := hSw
        go_simp
        try with_reducible rfl
      (try simp only [Act.put, List.getElem_toArray, List.getElem_cons_succ, List.getElem_cons_zero, List.setIfInBounds_toArray, List.set_cons_zero, List.set_cons_succ])
      refine' tkH (i := 24) (v := .agg RC) rfl (Or.inl ⟨by rfl, ?hyu3624⟩) HN6 ?restu3624
      case hyu3624 =>
        intro w' hSw
        have s1 := hSw
        have hl := run_loadAt_rec w' q RC _ ((s1.block q (lt_of_block HX5.out) (by simp)).trans HX5.out) HRS.out
        simp [execOp, Act.eval, hl, Result.andThen]
      (try simp only [Act.put, List.getElem_toArray, List.getElem_cons_succ, List.getElem_cons_zero, List.setIfInBounds_toArray, List.set_cons_zero, List.set_cons_succ])
      refine wpAnyH_ready (rs := [25]) (by kernel_rfl) (by simp) (AllReadyH.cons rfl (fun K hK => ?_) AllReadyH.nil)
      go_simp
      refine (KL.out _ (HC5.out.trans HN6 (by simp)) (HFX.out.trans HN6 (by simp))).mono ?_
      rintro e y6 ⟨rfl, Cy6⟩
      go_simp
      refine hK.out _ _ (HN6.trans Cy6 (by simp)) (fun HN2 => ?_)
      clear hK K
      refine' tkH (i := 26) (v := _) rfl (Or.inl ⟨by rfl, ?hyu3726⟩) HN2 ?restu3726
      case hyu3726 =>
        intro w' hSw
        have s1 := hSw
        go_simp
        try with_reducible rfl
      (try simp only [Act.put, List.getElem_toArray, List.getElem_cons_succ, List.getElem_cons_zero, List.setIfInBounds_toArray, List.set_cons_zero, List.set_cons_succ])
      refine' tkH (i := 27) (v := _) rfl (Or.inl ⟨by rfl, ?hyu3727⟩) HN2 ?restu3727
      case hyu3727 =>
        intro w' hSw
        have s1 := hSw
        go_simp
        try with_reducible rfl
      (try simp only [Act.put, List.getElem_toArray, List.getElem_cons_succ, List.getElem_cons_zero, List.setIfInBounds_toArray, List.set_cons_zero, List.set_cons_succ])
      refine' tkH (i := 28) (v := _) rfl (Or.inl ⟨by rfl, ?hyu3828⟩) HN2 ?restu3828
      case hyu3828 =>
        intro w' hSw
        have s1 := hSw
        go_simp
        try with_reducible rfl
      refine wpAnyH_done (by kernel_rfl) ?_ _
      have HCF := Lib.hid (HC5.out.trans HN2 (by simp))
      go_wp2_with fail
      go_ret
      exact ⟨rfl, HCF.out⟩
end Go.Proofs.YtfdhpjflkimihaaDoor
/- Law CopierKnown, walked. No conditions beyond those that each statement types. -/
namespace Go.Proofs.YtfdhpjflkimihaaDoor
open Go.RowKit

theorem own_capM {w : World} {B : Nat} {e : TypeId} {size : Nat} {ao : Option Addr} {n c : Nat} {xs : List Value} (h : w.ownsRow B e size (.slice ao n c) n xs) : n ≤ c ∧ (ao = none → c = 0) := by
  obtain ⟨_, _, hv, h1, h2⟩ := ownsRow_slice h
  cases hv
  exact ⟨h1, fun h => (h2 h).2⟩
def PlanO (w : World) (l : List StepV) (n : Nat) (e : Ending) (w' : World) : Prop := Chg [] w w' ∧ ∃ po pc, e = .returned (.tuple #[.slice po n pc, .int .i64 0]) ∧ w'.ownsRow 0 85 5 (.slice po n pc) n (svs l) ∧ ∀ k, (Value.slice po n pc).ownBlock = some k → w.heap.size ≤ k
theorem Planned.row {w : World} {l : List StepV} {e : Ending} {w' : World} (h : Planned w l e w') {n : Nat} (hn : l.length = n) : PlanO w l n e w' := by
  subst hn
  exact h
def IntsM (w : World) (l : List Int) (m : Nat) (e : Ending) (w' : World) : Prop := ∃ po pc, e = .returned (.slice po m pc) ∧ w'.ownsRow 0 3 1 (.slice po m pc) m (nvs l) ∧ Chg [] w w'
theorem IntsTo.short {w : World} {l : List Int} {e : Ending} {w' : World} (h : IntsTo w l e w') {m : Nat} (hm : l.length = m) : IntsM w l m e w' := by
  subst hm
  obtain ⟨po, pc, h1, h2, _, h4⟩ := h
  exact ⟨po, pc, h1, h2, h4⟩
def BuiltK (w : World) (X : List UInt8) (n : Nat) (E : List Int) (m : Nat) (R : Int) (e : Ending) (w' : World) : Prop :=
  Chg [] w w' ∧ ∃ bo bc no nc, e = .returned (.tuple #[.slice bo n bc, .slice no m nc, .int .i64 R]) ∧ w'.ownsRow 0 5 1 (.slice bo n bc) n (bvs X) ∧ w'.ownsRow 0 3 1 (.slice no m nc) m (nvs E)
theorem BuiltTo.known {w : World} {x : BuiltV} {e : Ending} {w' : World} (h : BuiltTo w x e w') {n m : Nat} (hn : x.out.length = n) (hm : x.bad.length = m) : BuiltK w x.out n x.bad m x.err e w' := by
  subst hn hm
  obtain ⟨C, bo, bc, no, nc, h1, h2, _, h3, _⟩ := h
  exact ⟨C, bo, bc, no, nc, h1, h2, h3⟩
theorem given_len3 : (recV m_given).len 3 = 0 := by unfold RecV.len; rw [if_pos (.inr (.inr (by rw [given_good.len]; decide)))]
theorem given_lenM : (recV m_given).len (-1) = 0 := by unfold RecV.len; rw [if_pos (.inr (.inl (by decide)))]
theorem planF_from {k : Nat} {s : StepV} (h : planF[k]? = some s) : 0 ≤ s.from_ ∧ s.from_ ≤ 9 := by
  have key : ∀ s ∈ planF, 0 ≤ s.from_ ∧ s.from_ ≤ 9 := by unfold planF; simp
  exact key s (List.mem_of_getElem? h)
theorem planN_from {k : Nat} {s : StepV} (h : planN[k]? = some s) : 0 ≤ s.from_ ∧ s.from_ ≤ 9 := by
  have key : ∀ s ∈ planN, 0 ≤ s.from_ ∧ s.from_ ≤ 9 := by unfold planN; simp
  exact key s (List.mem_of_getElem? h)
theorem load_place {w : World} {g : Nat} (h : Src w (some ⟨g, 0, none⟩) (svs planF)) : (Instr.loadAt 57 (.pointer (some ⟨g, 2, none⟩))).run Tryd.prog w = .ok (.agg #[.string ⟨#[97]⟩, .int .i64 0]) w := by
  refine run_loadAt_any (P := Tryd.prog) (w := w) ⟨g, 2, none⟩ 57 [.string knA, .int .i64 0] _ (fun j v hj => ?_) Tryd.underlying57 rfl (by kernel_rfl)
  have h0 := h.cell ⟨g, 0, none⟩ rfl 2 (.string knA) rfl
  have h1 := h.cell ⟨g, 0, none⟩ rfl 3 (.int .i64 0) rfl
  match j, hj with
  | 0, hj => cases hj; exact h0
  | 1, hj => cases hj; exact h1
  | j + 2, hj => simp at hj
theorem neq_place (w : World) : (binOp .neq 57 (.agg #[.string ⟨#[97]⟩, .int .i64 0]) (.agg #[.string ⟨#[97]⟩, .int .i64 0])).run Tryd.prog w = .ok (.bool false) w := by
  rw [run_neq_struct]
  go_simp
theorem step_alloc_y {P : Program} {ops : Array Oper} {o : Oper} {a : Act} {w : World} {K : Act → World → Prop} {Q : Exit → Act → World → Prop} {E : Prop} (t : TypeId) (ho : o.op = .alloc t) (hgd : Region.wanted o (yielded ops a.tmps) = true) (cs : Array Value)
    (hz : (zeroValue t).run P w = .ok (.agg cs) w) (h : K (a.put o.dst (.pointer (some ⟨w.heap.size, 0, none⟩))) (w.alloc (.cells cs t))) : if Region.wanted o (yielded ops a.tmps) = true then Oper.wp P o a w K Q else E := by
  rw [if_pos hgd]
  unfold Oper.wp
  simp [execOp, ho, Instr.alloc, hz, Result.andThen, newVar, newRow]
  exact h
/-- Two copies of a record in new memory. -/
structure TwoRec (w w' : World) (RC : Array Value) (qd ql : Nat) : Prop where
  C : Chg [] w w'
  hd : w'.heap[qd]? = some (.cells RC 77 (0, 0))
  hl : w'.heap[ql]? = some (.cells RC 77 (0, 0))
  ne : qd ≠ ql
  nd : w.heap.size ≤ qd
  nl : w.heap.size ≤ ql
theorem two_rec {w wb : World} {Z RC : Array Value} {qd ql : Nat} (C : Chg [] w wb) (hd : wb.heap[qd]? = some (.cells Z 77 (0, 0))) (hl : wb.heap[ql]? = some (.cells Z 77 (0, 0))) (ne : qd ≠ ql) (nd : w.heap.size ≤ qd) (nl : w.heap.size ≤ ql) (hz : Z.size = 27) (hR : RC.size = 27) (h1 : RC.all (·.oneCell') = true) :
    (Instr.storeAt 77 (.pointer (some ⟨qd, 0, none⟩)) (.agg RC)).run Tryd.prog wb = .ok () (wb.setRow qd RC) ∧ (Instr.storeAt 77 (.pointer (some ⟨ql, 0, none⟩)) (.agg RC)).run Tryd.prog (wb.setRow qd RC) = .ok () ((wb.setRow qd RC).setRow ql RC) ∧ Chg [] w (wb.setRow qd RC) ∧ TwoRec w ((wb.setRow qd RC).setRow ql RC) RC qd ql := by
  obtain ⟨a1, a2, a3⟩ := setRow_one (V := RC) hd (by rw [hR]; exact infoRec) (by rw [hz, hR]) h1
  have hl2 := ((Chg.setRow (S := [qd]) wb qd RC (.inl (by simp))).block ql (lt_of_block hl) (by simp; exact fun e => ne e.symm)).trans hl
  obtain ⟨b1, b2, b3⟩ := setRow_one (V := RC) hl2 (by rw [hR]; exact infoRec) (by rw [hz, hR]) h1
  have hd2 := ((Chg.setRow (S := [ql]) (wb.setRow qd RC) ql RC (.inl (by simp))).block qd (lt_of_block a2) (by simp; exact ne)).trans a2
  have C1 := a3 w C nd
  exact ⟨a1, b1, C1, b3 w C1 nl, hd2, b2, ne, nd, nl⟩
theorem src_two {w : World} {so : Option Addr} (h : Src w so (svs planG)) : Src w so (svs (planG.take 2)) := h.take 10
theorem row_same {w : World} {g c : Nat} (h : w.ownsRow 0 85 5 (.slice (some ⟨g, 0, none⟩) 3 c) 3 (svs planG)) :
    w.cell? ⟨g, 9, none⟩ = some (.int .i64 0) ∧ w.frozen? ⟨g, 9, none⟩ = false ∧ Src (w.setCell ⟨g, 9, none⟩ (.int .i64 1)) (some ⟨g, 0, none⟩) (svs planJ) := by
  have hs := ownsRow_src_any h
  have hc : w.cell? ⟨g, 9, none⟩ = some (.int .i64 0) := hs.cell ⟨g, 0, none⟩ rfl 9 (.int .i64 0) rfl
  rcases h.2 with ⟨h0, _⟩ | ⟨g', cap, cur, hv, _, hg, h1, h2, h3, h4⟩
  · cases h0
  · cases hv
    refine ⟨hc, frozen_of_row _ _ _ _ _ hg, ⟨fun h => by (cases h), fun a ha j u hu => ?_⟩⟩
    cases ha
    have hg2 := heap_setCell_same w g 9 cur 85 (.int .i64 1) hg
    have hadd : (⟨g, 0, none⟩ : Addr).add j = ⟨g, j, none⟩ := by unfold Addr.add; split <;> simp_all
    rw [hadd, cell_of_row _ _ _ _ _ _ hg2]
    by_cases hj : j = 9
    · subst hj
      have : (Value.int .i64 1) = u := Option.some.inj hu
      subst this
      rw [Array.getElem?_setIfInBounds_self_of_lt (by omega)]
    · rw [Array.getElem?_setIfInBounds_ne (Ne.symm hj)]
      have e : svs planJ = (svs planG).set 9 (.int .i64 1) := rfl
      rw [e, List.getElem?_set_ne (Ne.symm hj)] at hu
      have h5 := hs.cell ⟨g, 0, none⟩ rfl j u hu
      rw [hadd, cell_of_row _ _ _ _ _ _ hg] at h5
      exact h5
set_option maxRecDepth 100000 in
set_option maxHeartbeats 8000000 in
theorem copier_known (w : World) (hL : Laid w) : Calls Tryd.prog 13 #[] w (Holds w) := by
  have KA := Lib.hid (fun w' (C : Chg [] w w') => law_awake21 w' (hL.chg C (by simp)))
  have HL := Lib.hid hL
  have KG := Lib.hid (fun w' => law_given w')
  clear hL
  go_enter Tryd.func13, Tryd.ntmps13
  go_wp2_with fail
  refine (KG.out _).mono ?_
  rintro e w1 ⟨g0, c0, rfl, hc0, hs0, hg0, hg1, C1⟩
  have HC1 := Lib.hid C1
  have KW := Lib.hid (law_wanted m_given (some ⟨g0, 0, none⟩) c0 w1 (HL.out.chg C1 (by simp)) hs0 (by decide) hc0)
  clear hc0 hs0 hg0 hg1 C1
  go_wp2_with fail
  refine KW.out.mono ?_
  rintro e w2 ⟨C2, RC, ao, rc, rfl, HR, _, hone⟩
  have hx := heap_alloc_new w2 (.cells recZ 77)
  have CA := Chg.alloc [] w2 (.cells recZ 77)
  obtain ⟨Z, hZ⟩ : ∃ Z, recZ = Z := ⟨_, rfl⟩
  have hzr := zero_rec w2
  have hzs : Z.size = 27 := by rw [← hZ]; rfl
  rw [hZ] at hzr hx CA
  obtain ⟨hst, hh, hcg⟩ := setRow_one (V := RC) hx (by rw [HR.size]; exact infoRec) (by rw [hzs, HR.size]) hone
  have C3 := hcg w2 CA (Nat.le_refl _)
  go_upto_region 2 with (first | (refine wpList_alloc_x rfl 77 rfl (.agg Z) hzr ?_) | (refine wpList_store_y 77 (.tmp 1) (.tmp 26) rfl (by first | rfl | go_simp) (.pointer (some ⟨w2.heap.size, 0, none⟩)) (.agg RC) _ hst rfl rfl ?_))
  obtain ⟨q, hq⟩ : ∃ q, w2.heap.size = q := ⟨_, rfl⟩
  rw [hq] at hh C3 ⊢
  generalize (w2.alloc (.cells Z 77)).setRow q RC = w3 at *
  have HC3 := Lib.hid ((HC1.out.trans C2 (by simp)).trans C3 (by simp))
  have HX3 := Lib.hid hh
  have HRI := Lib.hid (HR.chg0 C3)
  have HRS := Lib.hid HR.size
  have HONE := Lib.hid hone
  clear C2 hx CA hzr hzs hst hh hcg C3 HR hone hq hZ KW HC1 KG
  have HLD := Lib.hid (fun w' (C : Chg [] w3 w') => run_loadAt_rec w' q RC _ ((C.block q (lt_of_block HX3.out) (by simp)).trans HX3.out) HRS.out)
  have HLW := Lib.hid (fun w' (C : Chg [] w3 w') => HL.out.chg (HC3.out.trans C (by simp)) (by simp))
  have KPL := Lib.hid (fun w' (C : Chg [] w3 w') (p : Option Addr) (fo : HKey → Option (Pl × List UInt8)) (l : List StepV) (h1 : FindsAs w' p fo) (h2 : ∀ k, (fX (fo k)).length ≤ 128) (h3 : planL (recV m_given) 40 [] fo 3 = l) (h4 : l.length = 3) => show Calls Tryd.prog 44 #[.agg RC, .pointer p, .slice none 0 0] w' (PlanO w' l 3) from by
    have := cp_plan RC (recV m_given) ao rc 40 given_good p fo none 0 [] w' (HLW.out w' C) (HRI.out.chg0 C) h1 h2 (Src.empty _ _) (by simp) (by simp) (fun _ => rfl)
    rw [given_cnt, h3] at this
    exact this.mono (fun e w2 h => h.row h4))
  have KLEN := Lib.hid (fun (x : Int) w' (C : Chg [] w3 w') => cp_length RC (recV m_given) ao rc x w' (HRI.out.chg0 C))
  have KBD := Lib.hid (fun w' (C : Chg [] w3 w') (so : Option Addr) (n sc : Nat) (l : List StepV) (hs : Src w' so (svs l)) (hl : l.length = n) (hn : n ≤ sc) (hn6 : n ≤ 1000000) (G : List GotV) (go : Option Addr) (gn gc : Nat) (hG : GotsAt w' go gc G) (hgn : G.length = gn) (hg6 : gn ≤ 1000000) (hGx : ∀ (k : Nat) (g : GotV), G[k]? = some g → g.xs.length ≤ 1000000) => show Calls Tryd.prog 54 #[.agg RC, .slice so n sc, .pointer none, .slice none 0 0, .slice go gn gc] w' (BuiltTo w' (buildV (recV m_given) 40 [] (fun _ => none) G l)) from by
    subst hl hgn
    exact cp_build RC (recV m_given) ao rc 40 given_good l so sc none (fun _ => none) none 0 [] G go gc w' (HLW.out w' C) (HRI.out.chg0 C) (finds_none (noFinder_nil w')) (fun _ => Nat.zero_le _) (Src.empty _ _) (by simp) (by simp) (fun _ => rfl) hs hn hn6 hG hg6 hGx)
  have KP1 := Lib.hid (KPL.out w3 (Chg.refl _ _) none (fun _ => none) planG (finds_none (noFinder_nil w3)) (fun _ => Nat.zero_le _) given_plan rfl)
  have hldr := HLD.out w3 (Chg.refl _ _)
  go_wp2_with (refine wpList_load_y 77 (.tmp 1) rfl (by first | rfl | go_simp) (.pointer (some ⟨q, 0, none⟩)) (.agg RC) hldr rfl ?_)
  refine KP1.out.mono ?_
  rintro e w4 ⟨C4, po, pc, rfl, hrow, hnew⟩
  obtain ⟨g1, rfl⟩ := ownsRow_head hrow (by decide)
  have hpc : 3 ≤ pc := (own_capM hrow).1
  have H34 := Lib.hid C4
  have HROW := Lib.hid hrow
  have HG1 := Lib.hid (show w3.heap.size ≤ g1 ∧ g1 < w4.heap.size from ⟨hnew g1 rfl, ownsRow_lt hrow g1 rfl⟩)
  have HS4 := Lib.hid (ownsRow_src_any hrow)
  clear C4 hrow hnew KP1 hldr
  have KAS := Lib.hid ((cp_asked planG (some ⟨g1, 0, none⟩) pc w4 HS4.out hpc (by decide)).mono (fun e w2 h => show IntsM w4 [0, 2] 2 e w2 from by rw [given_ask] at h; exact h.short rfl))
  go_wp2_with fail
  refine KAS.out.mono ?_
  rintro e w5 ⟨ko, kc, rfl, hown, C5⟩
  obtain ⟨g2, rfl⟩ := ownsRow_head hown (by decide)
  have hkc : 2 ≤ kc := (own_capM hown).1
  have H45 := Lib.hid C5
  have HS5 := Lib.hid (ownsRow_src hown)
  have KA1 := Lib.hid (KA.out w5 ((HC3.out.trans H34.out (by simp)).trans C5 (by simp)))
  clear C5 hown KAS
  go_wp2_with fail
  refine KA1.out.mono ?_
  rintro e w6 ⟨rfl, C6⟩
  have H46 := Lib.hid (H45.out.trans C6 (by simp))
  have H36 := Lib.hid (H34.out.trans H46.out (by simp))
  have c9 : w6.cell? ⟨g1, 9, none⟩ = some (.int .i64 0) := (HS4.out.chg H46.out (by simp)).cell ⟨g1, 0, none⟩ rfl 9 (.int .i64 0) rfl
  have ca0 : w6.cell? ⟨g2, 0, none⟩ = some (.int .i64 0) := (HS5.out.chg C6 (by simp)).cell ⟨g2, 0, none⟩ rfl 0 (.int .i64 0) rfl
  have ca1 : w6.cell? ⟨g2, 1, none⟩ = some (.int .i64 2) := (HS5.out.chg C6 (by simp)).cell ⟨g2, 0, none⟩ rfl 1 (.int .i64 2) rfl
  have hldr := HLD.out w6 H36.out
  have KL1 := Lib.hid (by
    have := KLEN.out 3 w6 H36.out
    rewrite [given_len3] at this
    exact this)
  clear C6 KA1
  go_wp2_with (refine wpList_load_y 77 (.tmp 1) rfl (by first | rfl | go_simp) (.pointer (some ⟨q, 0, none⟩)) (.agg RC) hldr rfl ?_)
  refine KL1.out.mono ?_
  rintro e w7 ⟨rfl, C7⟩
  have H37 := Lib.hid (H36.out.trans C7 (by simp))
  have H47 := Lib.hid (H46.out.trans C7 (by simp))
  have hldr := HLD.out w7 H37.out
  have KL2 := Lib.hid (by
    have := KLEN.out (-1) w7 H37.out
    rewrite [given_lenM] at this
    exact this)
  clear C7 c9 ca0 ca1 KL1
  go_wp2_with (refine wpList_load_y 77 (.tmp 1) rfl (by first | rfl | go_simp) (.pointer (some ⟨q, 0, none⟩)) (.agg RC) hldr rfl ?_)
  refine KL2.out.mono ?_
  rintro e w8 ⟨rfl, C8⟩
  have H38 := Lib.hid (H37.out.trans C8 (by simp))
  have H48 := Lib.hid (H47.out.trans C8 (by simp))
  clear C8 KL2 hldr
  have KNF := Lib.hid (blk_new w8)
  go_wp2_with fail
  refine KNF.out.mono ?_
  rintro e w9 ⟨fb, S, rfl, hF, hS, C9⟩
  have H39 := Lib.hid (H38.out.trans C9 (by simp))
  have H49 := Lib.hid (H48.out.trans C9 (by simp))
  have HF9 := Lib.hid hF
  have H89 := Lib.hid C9
  have HSN := Lib.hid (show ∀ z ∈ S, w8.heap.size ≤ z from hS)
  have KT := Lib.hid (law_times 120 16 (by decide) w9)
  clear hF hS C9 KNF
  go_wp2_with fail
  refine KT.out.mono ?_
  rintro e w10 ⟨rfl, C10⟩
  have HC910 := Lib.hid C10
  clear C10 KT
  go_wp2_with (refine wpList_bytes_of_str _ (by first | rfl | go_simp) 9 25 _ rfl 5 Tryd.underlying9 Tryd.underlying25 Tryd.underlying5 (many 120 16) rfl 16 rfl m_x16 rfl ?_)
  intro g c w11 hc M
  have HC911 := Lib.hid (HC910.out.trans M.chg (by simp))
  have KAD := Lib.hid (by
    have := blk_add fb [] S ⟨#[97]⟩ m_x16 (some ⟨g, 0, none⟩) c w11 (HLW.out w11 (H39.out.trans HC911.out (by simp))) (HF9.out.chg HC911.out (by simp)) (by simp) M.src hc (fun h => by cases h) (fun a ha hm => by
      cases ha
      have h1 : g < w9.heap.size := HF9.out.ltS _ hm
      have h2 := M.new.1
      have h3 := HC910.out.size
      omega) (by decide)
    rewrite [show Fadd [] ⟨#[97]⟩ m_x16 = filA from filA_eq] at this
    exact this)
  clear M hc
  go_wp2_with fail
  refine KAD.out.mono ?_
  rintro e w12 ⟨rfl, S', hF', C12, hS'⟩
  have H812 := Lib.hid (show Chg [] w8 w12 from ((show Chg [] w8 w9 from H89.out).trans HC911.out (by simp)).trans C12 (fun z hz => .inr (HSN.out z hz)))
  have H312 := Lib.hid (H38.out.trans H812.out (by simp))
  have H412 := Lib.hid (H48.out.trans H812.out (by simp))
  have KP2 := Lib.hid (KPL.out w12 H312.out (some ⟨fb, 0, none⟩) (findL filA) planF (finds_at hF' (by decide)) (findL_short _) given_planF rfl)
  have hldr := HLD.out w12 H312.out
  clear C12 hF' hS' KAD HC910 HC911 HF9 HSN
  go_wp2_with (refine wpList_load_y 77 (.tmp 1) rfl (by first | rfl | go_simp) (.pointer (some ⟨q, 0, none⟩)) (.agg RC) hldr rfl ?_)
  refine KP2.out.mono ?_
  rintro e w13 ⟨C13, mo, mc, rfl, hrow, _⟩
  obtain ⟨g3, rfl⟩ := ownsRow_head hrow (by decide)
  have hmc : 3 ≤ mc := (own_capM hrow).1
  have H313 := Lib.hid (H312.out.trans C13 (by simp))
  have H413 := Lib.hid (H412.out.trans C13 (by simp))
  have HM13 := Lib.hid (ownsRow_src_any hrow)
  clear C13 hrow KP2 hldr
  go_upto_region 9 with (fail)
  have H3R := Lib.hid H313.out
  refine wp_region_held_drew (S := fun w' => Chg [] w13 w') (by kernel_rfl) ((Chg.drewN [] w13 1)) (fun H0 => ?_)
  refine' tkH (i := 0) (v := .agg RC) rfl (Or.inl ⟨by rfl, ?hya0⟩) H0 ?resta0
  case hya0 =>
    intro w' hSw
    have s1 := hSw
    have hl := HLD.out w' (H3R.out.trans s1 (by simp))
    simp [execOp, Act.eval, hl, Result.andThen]
  (try simp only [Act.put, List.getElem_toArray, List.getElem_cons_zero, List.setIfInBounds_toArray, List.set_cons_zero, List.set_cons_succ])
  refine wpAnyH_ready (rs := [1]) (by kernel_rfl) (by simp) (AllReadyH.cons rfl (fun K hK => ?_) AllReadyH.nil)
  go_simp
  refine (law_times 122 16 (by decide) _).mono ?_
  rintro e y1 ⟨rfl, Cy⟩
  go_simp
  refine hK.out _ _ (H0.trans Cy (by simp)) (fun H1 => ?_)
  clear hK K Cy
  refine wpAnyH_ready (rs := [2]) (by kernel_rfl) (by simp) (AllReadyH.cons rfl (fun K hK => ?_) AllReadyH.nil)
  go_simp
  refine (law_times 120 16 (by decide) _).mono ?_
  rintro e y2 ⟨rfl, Cy⟩
  go_simp
  refine hK.out _ _ (H1.trans Cy (by simp)) (fun H2 => ?_)
  clear hK K Cy
  refine' tkH (i := 3) (v := .string (many 122 16 ++ many 120 16)) rfl (Or.inl ⟨by rfl, ?hya3⟩) H2 ?resta3
  case hya3 =>
    intro w' hSw
    have s1 := hSw
    have z1 : (many 122 16).size = 16 := rfl
    have z2 : (many 120 16).size = 16 := rfl
    go_simp
    try simp [z1, z2]
  (try simp only [Act.put, List.getElem_toArray, List.getElem_cons_succ, List.getElem_cons_zero, List.setIfInBounds_toArray, List.set_cons_zero, List.set_cons_succ])
  obtain ⟨gz, cz, wz, hrz, hcz, hMz⟩ := run_bytes_of_str (P := Tryd.prog) y2 9 25 5 (many 122 16 ++ many 120 16) Tryd.underlying9 Tryd.underlying25 Tryd.underlying5
  refine wpAnyH_ready (rs := [4]) (by kernel_rfl) (by simp) (AllReadyH.cons rfl (fun K hK => ?_) AllReadyH.nil)
  have hsz : (many 122 16 ++ many 120 16).size = 32 := rfl
  rw [hsz] at hrz hcz
  have HZX := Lib.hid (show Src wz (some ⟨gz, 0, none⟩) (bvs m_zx) from hMz.src)
  have HCZ := Lib.hid hcz
  go_simp
  refine hK.out _ _ (H2.trans hMz.chg (by simp)) (fun H3 => ?_)
  clear hK K hrz hcz hMz hsz
  have KPN := Lib.hid (show Calls Tryd.prog 44 #[.agg RC, .pointer none, .slice (some ⟨gz, 0, none⟩) 32 cz] wz (PlanO wz planN 3) from by
    have := cp_plan RC (recV m_given) ao rc 40 given_good none (fun _ => none) (some ⟨gz, 0, none⟩) cz m_zx wz (HLW.out wz (H3R.out.trans H3 (by simp))) (HRI.out.chg0 (H3R.out.trans H3 (by simp))) (finds_none (noFinder_nil wz)) (fun _ => Nat.zero_le _) HZX.out (by decide) HCZ.out (fun h => by cases h)
    rw [given_cnt, given_planN] at this
    exact this.mono (fun e w2 h => h.row rfl))
  refine wpAnyH_ready (rs := [5]) (by kernel_rfl) (by simp) (AllReadyH.cons rfl (fun K hK => ?_) AllReadyH.nil)
  go_simp
  refine KPN.out.mono ?_
  rintro e w14 ⟨C14, no, nc, rfl, hrow, _⟩
  obtain ⟨g4, rfl⟩ := ownsRow_head hrow (by decide)
  have hnc : 3 ≤ nc := (own_capM hrow).1
  have HN14 := Lib.hid (ownsRow_src_any hrow)
  go_simp
  refine hK.out _ _ (H3.trans C14 (by simp)) (fun H4 => ?_)
  clear hK K C14 hrow KPN
  refine' tkH (i := 6) (v := _) rfl (Or.inl ⟨by rfl, ?hya6⟩) H4 ?resta6
  case hya6 =>
    intro w' hSw
    have s1 := hSw
    go_simp
    try with_reducible rfl
  (try simp only [Act.put, List.getElem_toArray, List.getElem_cons_succ, List.getElem_cons_zero, List.setIfInBounds_toArray, List.set_cons_zero, List.set_cons_succ])
  refine' tkH (i := 7) (v := _) rfl (Or.inl ⟨by rfl, ?hya7⟩) H4 ?resta7
  case hya7 =>
    intro w' hSw
    have s1 := hSw
    go_simp
    try with_reducible rfl
  (try simp only [Act.put, List.getElem_toArray, List.getElem_cons_succ, List.getElem_cons_zero, List.setIfInBounds_toArray, List.set_cons_zero, List.set_cons_succ])
  refine' tkH (i := 8) (v := _) rfl (Or.inl ⟨by rfl, ?hya8⟩) H4 ?resta8
  case hya8 =>
    intro w' hSw
    have s1 := hSw
    go_simp
    try with_reducible rfl
  (try simp only [Act.put, List.getElem_toArray, List.getElem_cons_succ, List.getElem_cons_zero, List.setIfInBounds_toArray, List.set_cons_zero, List.set_cons_succ])
  refine' tkH (i := 9) (v := _) rfl (Or.inl ⟨by rfl, ?hya9⟩) H4 ?resta9
  case hya9 =>
    intro w' hSw
    have s1 := hSw
    go_simp
    try with_reducible rfl
  (try simp only [Act.put, List.getElem_toArray, List.getElem_cons_succ, List.getElem_cons_zero, List.setIfInBounds_toArray, List.set_cons_zero, List.set_cons_succ])
  refine' tkH (i := 10) (v := _) rfl (Or.inl ⟨by rfl, ?hya10⟩) H4 ?resta10
  case hya10 =>
    intro w' hSw
    have s1 := hSw
    go_simp
    try with_reducible rfl
  (try simp only [Act.put, List.getElem_toArray, List.getElem_cons_succ, List.getElem_cons_zero, List.setIfInBounds_toArray, List.set_cons_zero, List.set_cons_succ])
  refine wpAnyH_done (by kernel_rfl) ?_ _
  have H1314 := Lib.hid H4
  have H314 := Lib.hid (H313.out.trans H4 (by simp))
  have H414 := Lib.hid (H413.out.trans H4 (by simp))
  clear H0 H1 H2 H3 H4 H3R HZX HCZ
  go_upto_region 10 with (fail)
  have H3R := Lib.hid H314.out
  have H4R := Lib.hid H414.out
  refine wp_region_held_drew (S := fun w' => Chg [] w14 w') (by kernel_rfl) ((Chg.drewN [] w14 1)) (fun H0 => ?_)
  refine' tkH (i := 0) (v := .agg RC) rfl (Or.inl ⟨by rfl, ?hyb0⟩) H0 ?restb0
  case hyb0 =>
    intro w' hSw
    have s1 := hSw
    have hl := HLD.out w' (H3R.out.trans s1 (by simp))
    simp [execOp, Act.eval, hl, Result.andThen]
  (try simp only [Act.put, List.getElem_toArray, List.getElem_cons_zero, List.setIfInBounds_toArray, List.set_cons_zero, List.set_cons_succ])
  refine' tkH (i := 1) (v := _) rfl (Or.inl ⟨by rfl, ?hyb1⟩) H0 ?restb1
  case hyb1 =>
    intro w' hSw
    have s1 := hSw
    go_simp
    try with_reducible rfl
  (try simp only [Act.put, List.getElem_toArray, List.getElem_cons_succ, List.getElem_cons_zero, List.setIfInBounds_toArray, List.set_cons_zero, List.set_cons_succ])
  refine wpAnyH_ready (rs := [2]) (by kernel_rfl) (by simp) (AllReadyH.cons rfl (fun K hK => ?_) AllReadyH.nil)
  go_simp
  refine (law_times 122 8 (by decide) _).mono ?_
  rintro e y1 ⟨rfl, Cy⟩
  go_simp
  refine hK.out _ _ (H0.trans Cy (by simp)) (fun H1 => ?_)
  clear hK K Cy
  obtain ⟨gz, cz, wz, hrz, hcz, hMz⟩ := run_bytes_of_str (P := Tryd.prog) y1 9 25 5 (many 122 8) Tryd.underlying9 Tryd.underlying25 Tryd.underlying5
  refine wpAnyH_ready (rs := [3]) (by kernel_rfl) (by simp) (AllReadyH.cons rfl (fun K hK => ?_) AllReadyH.nil)
  have hsz : (many 122 8).size = 8 := rfl
  rw [hsz] at hrz hcz
  have HPZ := Lib.hid (show PV wz [] (.slice (some ⟨gz, 0, none⟩) m_z8.length cz) m_z8 from ⟨_, _, rfl, hMz.src, hcz, (fun h => by cases h), fun _ a ha => ⟨by simp, by cases ha; exact hMz.new.2⟩⟩)
  go_simp
  refine hK.out _ _ (H1.trans hMz.chg (by simp)) (fun H2 => ?_)
  clear hK K hrz hcz hMz hsz
  refine' tkH (i := 4) (v := _) rfl (Or.inl ⟨by rfl, ?hyb4⟩) H2 ?restb4
  case hyb4 =>
    intro w' hSw
    have s1 := hSw
    go_simp
    try with_reducible rfl
  (try simp only [Act.put, List.getElem_toArray, List.getElem_cons_succ, List.getElem_cons_zero, List.setIfInBounds_toArray, List.set_cons_zero, List.set_cons_succ])
  refine wpAnyH_ready (rs := [5]) (by kernel_rfl) (by simp) (AllReadyH.cons rfl (fun K hK => ?_) AllReadyH.nil)
  have CB := Chg.alloc [] wz (.cells #[.int .i64 2, .slice (some ⟨gz, 0, none⟩) 8 cz] 104)
  have HSG := Lib.hid (src_row wz #[.int .i64 2, .slice (some ⟨gz, 0, none⟩) 8 cz] 104 (0, 0))
  have HGA := Lib.hid (show GotsAt (wz.alloc (.cells #[.int .i64 2, .slice (some ⟨gz, 0, none⟩) 8 cz] 104)) (some ⟨wz.heap.size, 0, none⟩) 1 [⟨2, some ⟨gz, 0, none⟩, m_z8, cz⟩] from ⟨HSG.out, Nat.le_refl _, (fun h => by cases h), fun k g hg => by
    cases k with
    | zero => cases hg; exact HPZ.out.chg CB (by simp)
    | succ k => simp at hg⟩)
  go_simp
  refine hK.out _ _ (H2.trans CB (by simp)) (fun H3 => ?_)
  clear hK K CB
  obtain ⟨qg, hqg⟩ : ∃ qg, wz.heap.size = qg := ⟨_, rfl⟩
  rw [hqg] at HGA
  try rw [hqg]
  generalize wz.alloc (.cells #[.int .i64 2, .slice (some ⟨gz, 0, none⟩) 8 cz] 104) = wy at *
  have KB1 := Lib.hid (by
    have := (KBD.out wy (H3R.out.trans H3 (by simp)) (some ⟨g1, 0, none⟩) 3 pc planG (HS4.out.chg (H4R.out.trans H3 (by simp)) (by simp)) rfl hpc (by decide) [⟨2, some ⟨gz, 0, none⟩, m_z8, cz⟩] (some ⟨qg, 0, none⟩) 1 1 HGA.out rfl (by decide) (fun k g hg => by
      cases k with
      | zero => cases hg; show m_z8.length ≤ 1000000; decide
      | succ k => simp at hg))
    rewrite [given_buildZ] at this
    exact this.mono (fun e w2 h => show BuiltK wy [] 0 [0, 1, 2] 3 14 e w2 from h.known rfl rfl))
  refine wpAnyH_ready (rs := [6]) (by kernel_rfl) (by simp) (AllReadyH.cons rfl (fun K hK => ?_) AllReadyH.nil)
  go_simp
  refine KB1.out.mono ?_
  rintro e w15 ⟨C15, bo, bc, no2, nc2, rfl, _, hbad⟩
  obtain ⟨g5, rfl⟩ := ownsRow_head hbad (by decide)
  have hb5 : 3 ≤ nc2 := (own_capM hbad).1
  have HB15 := Lib.hid (ownsRow_src hbad)
  go_simp
  refine hK.out _ _ (H3.trans C15 (by simp)) (fun H4 => ?_)
  clear hK K C15 hbad KB1 HGA HSG HPZ hqg
  refine' tkH (i := 7) (v := _) rfl (Or.inl ⟨by rfl, ?hyb7⟩) H4 ?restb7
  case hyb7 =>
    intro w' hSw
    have s1 := hSw
    go_simp
    try with_reducible rfl
  (try simp only [Act.put, List.getElem_toArray, List.getElem_cons_succ, List.getElem_cons_zero, List.setIfInBounds_toArray, List.set_cons_zero, List.set_cons_succ])
  refine' tkH (i := 8) (v := _) rfl (Or.inl ⟨by rfl, ?hyb8⟩) H4 ?restb8
  case hyb8 =>
    intro w' hSw
    have s1 := hSw
    go_simp
    try with_reducible rfl
  (try simp only [Act.put, List.getElem_toArray, List.getElem_cons_succ, List.getElem_cons_zero, List.setIfInBounds_toArray, List.set_cons_zero, List.set_cons_succ])
  refine' tkH (i := 9) (v := _) rfl (Or.inl ⟨by rfl, ?hyb9⟩) H4 ?restb9
  case hyb9 =>
    intro w' hSw
    have s1 := hSw
    go_simp
    try with_reducible rfl
  (try simp only [Act.put, List.getElem_toArray, List.getElem_cons_succ, List.getElem_cons_zero, List.setIfInBounds_toArray, List.set_cons_zero, List.set_cons_succ])
  refine' tkH (i := 10) (v := _) rfl (Or.inl ⟨by rfl, ?hyb10⟩) H4 ?restb10
  case hyb10 =>
    intro w' hSw
    have s1 := hSw
    go_simp
    try with_reducible rfl
  (try simp only [Act.put, List.getElem_toArray, List.getElem_cons_succ, List.getElem_cons_zero, List.setIfInBounds_toArray, List.set_cons_zero, List.set_cons_succ])
  refine' tkH (i := 11) (v := _) rfl (Or.inl ⟨by rfl, ?hyb11⟩) H4 ?restb11
  case hyb11 =>
    intro w' hSw
    have s1 := hSw
    go_simp
    try with_reducible rfl
  (try simp only [Act.put, List.getElem_toArray, List.getElem_cons_succ, List.getElem_cons_zero, List.setIfInBounds_toArray, List.set_cons_zero, List.set_cons_succ])
  refine' tkH (i := 12) (v := _) rfl (Or.inl ⟨by rfl, ?hyb12⟩) H4 ?restb12
  case hyb12 =>
    intro w' hSw
    have s1 := hSw
    go_simp
    try with_reducible rfl
  (try simp only [Act.put, List.getElem_toArray, List.getElem_cons_succ, List.getElem_cons_zero, List.setIfInBounds_toArray, List.set_cons_zero, List.set_cons_succ])
  refine' tkH (i := 13) (v := _) rfl (Or.inl ⟨by rfl, ?hyb13⟩) H4 ?restb13
  case hyb13 =>
    intro w' hSw
    have s1 := hSw
    go_simp
    try with_reducible rfl
  (try simp only [Act.put, List.getElem_toArray, List.getElem_cons_succ, List.getElem_cons_zero, List.setIfInBounds_toArray, List.set_cons_zero, List.set_cons_succ])
  refine wpAnyH_done (by kernel_rfl) ?_ _
  have H1415 := Lib.hid H4
  have H315 := Lib.hid (H314.out.trans H4 (by simp))
  have H415 := Lib.hid (H414.out.trans H4 (by simp))
  clear H0 H1 H2 H3 H4 H3R H4R
  have KF1 := Lib.hid (by
    have := law_from planF (some ⟨g3, 0, none⟩) mc w15 (HM13.out.chg (H1314.out.trans H1415.out (by simp)) (by simp)) hmc (by decide) (fun k s h => planF_from h)
    rewrite [given_fromF] at this
    exact this)
  go_wp2_with fail
  refine KF1.out.mono ?_
  rintro e w16 ⟨rfl, C16⟩
  have H1316 := Lib.hid ((H1314.out.trans H1415.out (by simp)).trans C16 (by simp))
  have H1416 := Lib.hid (H1415.out.trans C16 (by simp))
  have H316 := Lib.hid (H315.out.trans C16 (by simp))
  have H416 := Lib.hid (H415.out.trans C16 (by simp))
  have HB16 := Lib.hid (HB15.out.chg C16 (by simp))
  have hlp := load_place (HM13.out.chg H1316.out (by simp))
  have KF2 := Lib.hid (fun w' (C : Chg [] w16 w') => by
    have := law_from planN (some ⟨g4, 0, none⟩) nc w' (HN14.out.chg (H1416.out.trans C (by simp)) (by simp)) hnc (by decide) (fun k s h => planN_from h)
    rewrite [given_fromN] at this
    exact this)
  clear C16 KF1 H1314 H1415
  have hqq := neq_place w16
  go_wp2_with (first | (refine wpList_load_y 57 (.tmp 107) rfl (by first | rfl | go_simp) (.pointer (some ⟨g3, 2, none⟩)) (.agg #[.string ⟨#[97]⟩, .int .i64 0]) hlp rfl ?_))
  refine (KF2.out _ (Chg.refl _ _)).mono ?_
  rintro e w17 ⟨rfl, C17⟩
  have H317 := Lib.hid (H316.out.trans C17 (by simp))
  have H417 := Lib.hid (H416.out.trans C17 (by simp))
  have cb0 : w17.cell? ⟨g5, 0, none⟩ = some (.int .i64 0) := (HB16.out.chg C17 (by simp)).cell ⟨g5, 0, none⟩ rfl 0 (.int .i64 0) rfl
  have cb1 : w17.cell? ⟨g5, 1, none⟩ = some (.int .i64 1) := (HB16.out.chg C17 (by simp)).cell ⟨g5, 0, none⟩ rfl 1 (.int .i64 1) rfl
  have cb2 : w17.cell? ⟨g5, 2, none⟩ = some (.int .i64 2) := (HB16.out.chg C17 (by simp)).cell ⟨g5, 0, none⟩ rfl 2 (.int .i64 2) rfl
  clear C17 KF2 hlp hqq
  go_upto_region 13 with (fail)
  clear cb0 cb1 cb2
  obtain ⟨Z2, hZ2⟩ : ∃ Z2, recZ = Z2 := ⟨_, rfl⟩
  have hzr2 : ∀ w', (zeroValue 77).run Tryd.prog w' = .ok (.agg Z2) w' := fun w' => by rw [← hZ2]; exact zero_rec w'
  have hzs2 : Z2.size = 27 := by rw [← hZ2]; rfl
  have H3R := Lib.hid H317.out
  clear hZ2
  go_cut [13, 14] (fun v13 v14 w' => ∃ qd ql : Nat, v13 = .pointer (some ⟨qd, 0, none⟩) ∧ v14 = .pointer (some ⟨ql, 0, none⟩) ∧ Hid (TwoRec w17 w' RC qd ql))
  case first =>
    refine wp_region_held_drew (S := fun w' => Chg [] w17 w') (by kernel_rfl) ((Chg.drewN [] w17 1)) (fun H0 => ?_)
    refine' tkH (i := 0) (v := .agg RC) rfl (Or.inl ⟨by rfl, ?hyc0⟩) H0 ?restc0
    case hyc0 =>
      intro w' hSw
      have s1 := hSw
      have hl := HLD.out w' (H3R.out.trans s1 (by simp))
      simp [execOp, Act.eval, hl, Result.andThen]
    (try simp only [Act.put, List.getElem_toArray, List.getElem_cons_zero, List.setIfInBounds_toArray, List.set_cons_zero, List.set_cons_succ])
    refine' tkH (i := 1) (v := .agg RC) rfl (Or.inl ⟨by rfl, ?hyc1⟩) H0 ?restc1
    case hyc1 =>
      intro w' hSw
      have s1 := hSw
      have hl := HLD.out w' (H3R.out.trans s1 (by simp))
      simp [execOp, Act.eval, hl, Result.andThen]
    (try simp only [Act.put, List.getElem_toArray, List.getElem_cons_succ, List.getElem_cons_zero, List.setIfInBounds_toArray, List.set_cons_zero, List.set_cons_succ])
    refine wpAnyH_ready (rs := [2, 3]) (by kernel_rfl) (by simp) (AllReadyH.cons rfl (fun K hK => ?_) (AllReadyH.cons rfl (fun K hK => ?_) AllReadyH.nil))
    · refine step_alloc_y 77 rfl rfl Z2 (hzr2 _) ?_
      have CA := H0.trans (Chg.alloc [] w17.drew (.cells Z2 77)) (by simp)
      refine hK.out _ _ CA (fun H1 => ?_)
      clear hK K
      have hq1 := heap_alloc_new w17.drew (.cells Z2 77)
      have hn1 : w17.heap.size ≤ w17.drew.heap.size := H0.size
      obtain ⟨q1, hqq1⟩ : ∃ q1, w17.drew.heap.size = q1 := ⟨_, rfl⟩
      rw [hqq1] at hq1 hn1
      try rw [hqq1]
      generalize w17.drew.alloc (.cells Z2 77) = wa at *
      refine wpAnyH_ready (rs := [3]) (by kernel_rfl) (by simp) (AllReadyH.cons rfl (fun K hK => ?_) AllReadyH.nil)
      refine step_alloc_y 77 rfl rfl Z2 (hzr2 _) ?_
      have CB := CA.trans (Chg.alloc [] wa (.cells Z2 77)) (by simp)
      refine hK.out _ _ CB (fun H2 => ?_)
      clear hK K
      have hq2 := heap_alloc_new wa (.cells Z2 77)
      have hq1b := ((Chg.alloc [] wa (.cells Z2 77)).block q1 (lt_of_block hq1) (by simp)).trans hq1
      have hlt1 := lt_of_block hq1
      have hn2 := CA.size
      obtain ⟨q2, hqq2⟩ : ∃ q2, wa.heap.size = q2 := ⟨_, rfl⟩
      rw [hqq2] at hq2 hn2 hlt1
      try rw [hqq2]
      generalize wa.alloc (.cells Z2 77) = wb at *
      obtain ⟨hs1, hs2, C1, TR⟩ := two_rec CB hq1b hq2 (by omega) hn1 hn2 hzs2 HRS.out HONE.out
      have HTR := Lib.hid TR
      clear TR
      refine wpAnyH_ready (rs := [4]) (by kernel_rfl) (by simp) (AllReadyH.cons rfl (fun K hK => ?_) AllReadyH.nil)
      refine step_store_y 77 (.tmp 13) (.tmp 149) rfl rfl _ _ _ hs1 rfl rfl ?_
      refine hK.out _ _ C1 (fun H3 => ?_)
      clear hK K
      refine wpAnyH_ready (rs := [5]) (by kernel_rfl) (by simp) (AllReadyH.cons rfl (fun K hK => ?_) AllReadyH.nil)
      refine step_store_y 77 (.tmp 14) (.tmp 150) rfl rfl _ _ _ hs2 rfl rfl ?_
      refine hK.out _ _ HTR.out.C (fun H4 => ?_)
      clear hK K
      refine wpAnyH_done (by kernel_rfl) ?_ _
      clear H0 H1 H2 H3 H4 hs1 hs2 CA CB C1
      (try simp only [Act.put, List.getElem_toArray, List.getElem_cons_succ, List.getElem_cons_zero, List.setIfInBounds_toArray, List.set_cons_zero, List.set_cons_succ])
      go_wp2_with fail
      go_meet
      case rel => exact ⟨q1, q2, rfl, rfl, HTR⟩
    · refine step_alloc_y 77 rfl rfl Z2 (hzr2 _) ?_
      have CA := H0.trans (Chg.alloc [] w17.drew (.cells Z2 77)) (by simp)
      refine hK.out _ _ CA (fun H1 => ?_)
      clear hK K
      have hq1 := heap_alloc_new w17.drew (.cells Z2 77)
      have hn1 : w17.heap.size ≤ w17.drew.heap.size := H0.size
      obtain ⟨q1, hqq1⟩ : ∃ q1, w17.drew.heap.size = q1 := ⟨_, rfl⟩
      rw [hqq1] at hq1 hn1
      try rw [hqq1]
      generalize w17.drew.alloc (.cells Z2 77) = wa at *
      refine wpAnyH_ready (rs := [2]) (by kernel_rfl) (by simp) (AllReadyH.cons rfl (fun K hK => ?_) AllReadyH.nil)
      refine step_alloc_y 77 rfl rfl Z2 (hzr2 _) ?_
      have CB := CA.trans (Chg.alloc [] wa (.cells Z2 77)) (by simp)
      refine hK.out _ _ CB (fun H2 => ?_)
      clear hK K
      have hq2 := heap_alloc_new wa (.cells Z2 77)
      have hq1b := ((Chg.alloc [] wa (.cells Z2 77)).block q1 (lt_of_block hq1) (by simp)).trans hq1
      have hlt1 := lt_of_block hq1
      have hn2 := CA.size
      obtain ⟨q2, hqq2⟩ : ∃ q2, wa.heap.size = q2 := ⟨_, rfl⟩
      rw [hqq2] at hq2 hn2 hlt1
      try rw [hqq2]
      generalize wa.alloc (.cells Z2 77) = wb at *
      obtain ⟨hs1, hs2, C1, TR⟩ := two_rec CB hq2 hq1b (by omega) hn2 hn1 hzs2 HRS.out HONE.out
      have HTR := Lib.hid TR
      clear TR
      refine wpAnyH_ready (rs := [4]) (by kernel_rfl) (by simp) (AllReadyH.cons rfl (fun K hK => ?_) AllReadyH.nil)
      refine step_store_y 77 (.tmp 13) (.tmp 149) rfl rfl _ _ _ hs1 rfl rfl ?_
      refine hK.out _ _ C1 (fun H3 => ?_)
      clear hK K
      refine wpAnyH_ready (rs := [5]) (by kernel_rfl) (by simp) (AllReadyH.cons rfl (fun K hK => ?_) AllReadyH.nil)
      refine step_store_y 77 (.tmp 14) (.tmp 150) rfl rfl _ _ _ hs2 rfl rfl ?_
      refine hK.out _ _ HTR.out.C (fun H4 => ?_)
      clear hK K
      refine wpAnyH_done (by kernel_rfl) ?_ _
      clear H0 H1 H2 H3 H4 hs1 hs2 CA CB C1
      (try simp only [Act.put, List.getElem_toArray, List.getElem_cons_succ, List.getElem_cons_zero, List.setIfInBounds_toArray, List.set_cons_zero, List.set_cons_succ])
      go_wp2_with fail
      go_meet
      case rel => exact ⟨q2, q1, rfl, rfl, HTR⟩
  case rest =>
  obtain ⟨qd, ql, rfl, rfl, HTR⟩ := hcut
  clear hzr2 hzs2 H3R
  have hne : qd ≠ ql := HTR.out.ne
  have hne2 : ql ≠ qd := Ne.symm hne
  have hd := HTR.out.hd
  have hl := HTR.out.hl
  have H1718 := Lib.hid HTR.out.C
  have hcd : wc.cell? ⟨qd, 1, none⟩ = some (.int .i64 1) := by rw [cell_of_row _ _ _ _ _ _ hd]; exact HRI.out.kind
  have hfd : wc.frozen? ⟨qd, 1, none⟩ = false := frozen_of_row _ _ _ _ _ hd
  have hd2 := heap_setCell_same wc qd 1 RC 77 (.int .i64 2) hd
  have hl2 := (heap_setCell_other wc ⟨qd, 1, none⟩ ql (.int .i64 2) hne2).trans hl
  have C1 : Chg [qd] wc (wc.setCell ⟨qd, 1, none⟩ (.int .i64 2)) := Chg.setCell _ _ _ (.inl (by simp))
  have hcl : (wc.setCell ⟨qd, 1, none⟩ (.int .i64 2)).cell? ⟨ql, 3, none⟩ = some (.int .i64 40) := by rw [cell_of_row _ _ _ _ _ _ hl2]; exact HRI.out.long
  have hfl : (wc.setCell ⟨qd, 1, none⟩ (.int .i64 2)).frozen? ⟨ql, 3, none⟩ = false := frozen_of_row _ _ _ _ _ hl2
  have hl3 := heap_setCell_same (wc.setCell ⟨qd, 1, none⟩ (.int .i64 2)) ql 3 RC 77 (.int .i64 49) hl2
  have hd3 := (heap_setCell_other (wc.setCell ⟨qd, 1, none⟩ (.int .i64 2)) ⟨ql, 3, none⟩ qd (.int .i64 49) hne).trans hd2
  have C2 : Chg [ql] (wc.setCell ⟨qd, 1, none⟩ (.int .i64 2)) ((wc.setCell ⟨qd, 1, none⟩ (.int .i64 2)).setCell ⟨ql, 3, none⟩ (.int .i64 49)) := Chg.setCell _ _ _ (.inl (by simp))
  have H1719 := Lib.hid (show Chg [] w17 ((wc.setCell ⟨qd, 1, none⟩ (.int .i64 2)).setCell ⟨ql, 3, none⟩ (.int .i64 49)) from (H1718.out.trans C1 (fun z hz => .inr (by rw [List.mem_singleton.1 hz]; exact HTR.out.nd))).trans C2 (fun z hz => .inr (by rw [List.mem_singleton.1 hz]; exact HTR.out.nl)))
  clear hd hl hd2 hl2 C1 C2
  go_upto_region 15 with (fail)
  have HD3 := Lib.hid hd3
  have HL3 := Lib.hid hl3
  generalize (wc.setCell ⟨qd, 1, none⟩ (.int .i64 2)).setCell ⟨ql, 3, none⟩ (.int .i64 49) = w19 at *
  clear hcd hfd hcl hfl hd3 hl3 hne hne2 HTR H1718
  have H319 := Lib.hid (H317.out.trans H1719.out (by simp))
  have H419 := Lib.hid (H417.out.trans H1719.out (by simp))
  have hldr := run_loadAt_rec w19 qd _ _ HD3.out (by rw [Array.size_setIfInBounds]; exact HRS.out)
  have KPD := Lib.hid (by
    have := cp_plan_not _ recD ao rc (by rw [recD_want]; decide) none (.slice none 0 0) w19 (recD_is (HRI.out.chg0 H319.out))
    rewrite [recD_want] at this
    exact this)
  obtain ⟨RD, hRD⟩ : ∃ RD, RC.setIfInBounds 1 (.int .i64 2) = RD := ⟨_, rfl⟩
  rw [hRD] at hldr KPD
  go_wp2_with (refine wpList_load_y 77 (.tmp 13) rfl (by first | rfl | go_simp) (.pointer (some ⟨qd, 0, none⟩)) (.agg RD) hldr rfl ?_)
  refine KPD.out.mono ?_
  rintro e w20 ⟨rfl, C20⟩
  have H320 := Lib.hid (H319.out.trans C20 (by simp))
  have H420 := Lib.hid (H419.out.trans C20 (by simp))
  have hldr := run_loadAt_rec w20 ql _ _ ((C20.block ql (lt_of_block HL3.out) (by simp)).trans HL3.out) (by rw [Array.size_setIfInBounds]; exact HRS.out)
  have KPG := Lib.hid (by
    have := cp_plan_not _ recG ao rc (by rw [recG_want]; decide) none (.slice none 0 0) w20 (recG_is (HRI.out.chg0 H320.out))
    rewrite [recG_want] at this
    exact this)
  obtain ⟨RG, hRG⟩ : ∃ RG, RC.setIfInBounds 3 (.int .i64 49) = RG := ⟨_, rfl⟩
  rw [hRG] at hldr KPG
  clear C20 KPD hRD hRG HD3 HL3
  go_wp2_with (refine wpList_load_y 77 (.tmp 14) rfl (by first | rfl | go_simp) (.pointer (some ⟨ql, 0, none⟩)) (.agg RG) hldr rfl ?_)
  refine KPG.out.mono ?_
  rintro e w21 ⟨rfl, C21⟩
  have H321 := Lib.hid (H320.out.trans C21 (by simp))
  have H421 := Lib.hid (H420.out.trans C21 (by simp))
  clear C21 KPG hldr
  go_upto_region 17 with (fail)
  have H3R := Lib.hid H321.out
  have HGZ : ∀ w', GotsAt w' none 0 [] := fun w' => ⟨Src.empty _ _, Nat.le_refl _, fun _ => rfl, fun k g h => by simp at h⟩
  have hpc2 : 2 ≤ pc := by omega
  have hpci : (2 : Int) ≤ pc := by omega
  have KBI := Lib.hid (fun w' (C : Chg [] w21 w') => by
    have := KBD.out w' (H321.out.trans C (by simp)) (some ⟨g1, 0, none⟩) 2 pc (planG.take 2) (src_two (HS4.out.chg (H421.out.trans C (by simp)) (by simp))) rfl hpc2 (by decide) [] none 0 0 (HGZ w') rfl (by decide) (fun k g h => by simp at h)
    rewrite [given_buildI] at this
    exact this.mono (fun e w2 h => show BuiltK w' [] 0 [] 0 2 e w2 from h.known rfl rfl))
  refine wp_region_held_drew (S := fun w' => Chg [] w21 w') (by kernel_rfl) ((Chg.drewN [] w21 1)) (fun H0 => ?_)
  refine' tkH (i := 0) (v := .agg RC) rfl (Or.inl ⟨by rfl, ?hyd0⟩) H0 ?restd0
  case hyd0 =>
    intro w' hSw
    have s1 := hSw
    have hl := HLD.out w' (H3R.out.trans s1 (by simp))
    simp [execOp, Act.eval, hl, Result.andThen]
  (try simp only [Act.put, List.getElem_toArray, List.getElem_cons_zero, List.setIfInBounds_toArray, List.set_cons_zero, List.set_cons_succ])
  refine' tkH (i := 1) (v := _) rfl (Or.inl ⟨by rfl, ?hyd1⟩) H0 ?restd1
  case hyd1 =>
    intro w' hSw
    have s1 := hSw
    go_simp
    try with_reducible rfl
  (try simp only [Act.put, List.getElem_toArray, List.getElem_cons_succ, List.getElem_cons_zero, List.setIfInBounds_toArray, List.set_cons_zero, List.set_cons_succ])
  refine' tkH (i := 2) (v := _) rfl (Or.inl ⟨by rfl, ?hyd2⟩) H0 ?restd2
  case hyd2 =>
    intro w' hSw
    have s1 := hSw
    go_simp
    try with_reducible rfl
  (try simp only [Act.put, List.getElem_toArray, List.getElem_cons_succ, List.getElem_cons_zero, List.setIfInBounds_toArray, List.set_cons_zero, List.set_cons_succ])
  refine wpAnyH_ready (rs := [3]) (by kernel_rfl) (by simp) (AllReadyH.cons rfl (fun K hK => ?_) AllReadyH.nil)
  go_simp
  refine (KBI.out _ H0).mono ?_
  rintro e w22 ⟨C22, bo2, bc2, no3, nc3, rfl, _, _⟩
  go_simp
  refine hK.out _ _ (H0.trans C22 (by simp)) (fun H1 => ?_)
  clear hK K C22
  refine' tkH (i := 4) (v := _) rfl (Or.inl ⟨by rfl, ?hyd4⟩) H1 ?restd4
  case hyd4 =>
    intro w' hSw
    have s1 := hSw
    go_simp
    try with_reducible rfl
  (try simp only [Act.put, List.getElem_toArray, List.getElem_cons_succ, List.getElem_cons_zero, List.setIfInBounds_toArray, List.set_cons_zero, List.set_cons_succ])
  refine' tkH (i := 5) (v := _) rfl (Or.inl ⟨by rfl, ?hyd5⟩) H1 ?restd5
  case hyd5 =>
    intro w' hSw
    have s1 := hSw
    go_simp
    try with_reducible rfl
  (try simp only [Act.put, List.getElem_toArray, List.getElem_cons_succ, List.getElem_cons_zero, List.setIfInBounds_toArray, List.set_cons_zero, List.set_cons_succ])
  refine' tkH (i := 6) (v := _) rfl (Or.inl ⟨by rfl, ?hyd6⟩) H1 ?restd6
  case hyd6 =>
    intro w' hSw
    have s1 := hSw
    go_simp
    try with_reducible rfl
  (try simp only [Act.put, List.getElem_toArray, List.getElem_cons_succ, List.getElem_cons_zero, List.setIfInBounds_toArray, List.set_cons_zero, List.set_cons_succ])
  refine' tkH (i := 7) (v := _) rfl (Or.inl ⟨by rfl, ?hyd7⟩) H1 ?restd7
  case hyd7 =>
    intro w' hSw
    have s1 := hSw
    go_simp
    try with_reducible rfl
  (try simp only [Act.put, List.getElem_toArray, List.getElem_cons_succ, List.getElem_cons_zero, List.setIfInBounds_toArray, List.set_cons_zero, List.set_cons_succ])
  refine' tkH (i := 8) (v := _) rfl (Or.inl ⟨by rfl, ?hyd8⟩) H1 ?restd8
  case hyd8 =>
    intro w' hSw
    have s1 := hSw
    go_simp
    try with_reducible rfl
  (try simp only [Act.put, List.getElem_toArray, List.getElem_cons_succ, List.getElem_cons_zero, List.setIfInBounds_toArray, List.set_cons_zero, List.set_cons_succ])
  refine' tkH (i := 9) (v := _) rfl (Or.inl ⟨by rfl, ?hyd9⟩) H1 ?restd9
  case hyd9 =>
    intro w' hSw
    have s1 := hSw
    go_simp
    try with_reducible rfl
  (try simp only [Act.put, List.getElem_toArray, List.getElem_cons_succ, List.getElem_cons_zero, List.setIfInBounds_toArray, List.set_cons_zero, List.set_cons_succ])
  refine' tkH (i := 10) (v := _) rfl (Or.inl ⟨by rfl, ?hyd10⟩) H1 ?restd10
  case hyd10 =>
    intro w' hSw
    have s1 := hSw
    go_simp
    try with_reducible rfl
  (try simp only [Act.put, List.getElem_toArray, List.getElem_cons_succ, List.getElem_cons_zero, List.setIfInBounds_toArray, List.set_cons_zero, List.set_cons_succ])
  refine wpAnyH_done (by kernel_rfl) ?_ _
  have H322 := Lib.hid (H321.out.trans H1 (by simp))
  have H422 := Lib.hid (H421.out.trans H1 (by simp))
  clear H0 H1 H3R KBI
  have hr22 := ownsRow_chg HROW.out H422.out (by simp)
  obtain ⟨hc9, hf9, hs9⟩ := row_same hr22
  have C23 : Chg [g1] w22 (w22.setCell ⟨g1, 9, none⟩ (.int .i64 1)) := Chg.setCell _ _ _ (.inl (by simp))
  have H323 := Lib.hid (show Chg [] w3 (w22.setCell ⟨g1, 9, none⟩ (.int .i64 1)) from H322.out.trans C23 (fun z hz => .inr (by rw [List.mem_singleton.1 hz]; exact HG1.out.1)))
  clear hr22 C23
  go_upto_region 19 with (fail)
  have HS9 := Lib.hid hs9
  generalize w22.setCell ⟨g1, 9, none⟩ (.int .i64 1) = w23 at *
  clear hc9 hf9 hs9
  have hldr := HLD.out w23 H323.out
  have KBJ := Lib.hid (by
    have := KBD.out w23 H323.out (some ⟨g1, 0, none⟩) 3 pc planJ HS9.out rfl hpc (by decide) [] none 0 0 (HGZ w23) rfl (by decide) (fun k g h => by simp at h)
    rewrite [given_buildJ] at this
    exact this.mono (fun e w2 h => show BuiltK w23 [] 0 [] 0 2 e w2 from h.known rfl rfl))
  go_wp2_with (refine wpList_load_y 77 (.tmp 1) rfl (by first | rfl | go_simp) (.pointer (some ⟨q, 0, none⟩)) (.agg RC) hldr rfl ?_)
  refine KBJ.out.mono ?_
  rintro e w24 ⟨C24, bo3, bc3, no4, nc4, rfl, _, _⟩
  have HCE := Lib.hid (HC3.out.trans (H323.out.trans C24 (by simp)) (by simp))
  clear C24 KBJ hldr HGZ
  go_wp2_with fail
  go_ret
  exact ⟨rfl, HCE.out⟩
end Go.Proofs.YtfdhpjflkimihaaDoor
