/- What the law BlockKnown does: true, and it leaves what was there. No conditions beyond those that each statement types. -/
import Derived.Test.YtfdhpjflkimihaaDoorBkPa
namespace Go.Proofs.YtfdhpjflkimihaaDoor
open Go.RowKit

set_option maxRecDepth 100000 in
set_option maxHeartbeats 16000000 in
theorem block_known (w : World) (hL : Laid w) : Calls Tryd.prog 8 #[] w (Holds w) := by
  have HL := Lib.hid hL
  clear hL
  have C1 := Chg.alloc [] w (.cells szC 3)
  have x1 := heap_alloc_new w (.cells szC 3)
  have C2 := Chg.alloc [] (w.alloc (.cells szC 3)) (.cells ctC 3)
  have x2 := heap_alloc_new (w.alloc (.cells szC 3)) (.cells ctC 3)
  have sz1 : (w.alloc (.cells szC 3)).heap.size = w.heap.size + 1 := by simp
  go_enter Tryd.func8, Tryd.ntmps8
  go_upto_region 3 with (fail)
  rw [sz1] at x2
  change Code.wp _ _ _ _ ((w.alloc (.cells szC 3)).alloc (.cells ctC 3))
  obtain ⟨g1, hg1⟩ : ∃ g1, w.heap.size = g1 := ⟨_, rfl⟩
  have HX := Lib.hid ((C2.block _ (lt_of_block x1) (by simp)).trans x1)
  have HX2 := Lib.hid x2
  have HC0 := Lib.hid (C1.trans C2 (by simp))
  rw [hg1] at HX HX2 ⊢
  clear C1 C2 x1 x2 sz1 hg1
  generalize (w.alloc (.cells szC 3)).alloc (.cells ctC 3) = wt at *
  go_wp2_with fail
  go_loopw [3] (fun v wr => ∃ (q j : Nat), v = .int .i64 (q : Int) ∧ q ≤ 18 ∧ Hid (q = 2 * j) ∧ Hid (Chg [] wt wr)) (fun v _ => 18 - (intOf v).toNat)
  case atStart => exact ⟨0, 0, rfl, Nat.zero_le _, Lib.hid rfl, Lib.hid (Chg.refl _ _)⟩
  case round =>
    obtain ⟨q, j, rfl, hq, HQJ, HC⟩ := hrel
    by_cases hlt : q < 18
    · have e1 : (q : Int) < 18 := by omega
      have e0 : (0 : Int) ≤ q := Int.natCast_nonneg _
      have e2 : (q : Int) + 1 < 18 := by have := HQJ.out; omega
      obtain ⟨xa, xb, ha, hb, hab⟩ := sz_at j (by have := HQJ.out; omega)
      rw [← HQJ.out] at ha hb
      have HA := Lib.hid ha
      have HB := Lib.hid hb
      have HW1 : Hid (IntKind.i64.wrap ((q : Int) + 1) = (q : Int) + 1) := Lib.hid (by rw [IntKind.wrap_i64]; omega)
      have HW2 : Hid (wrap64 ((q : Int) + 1) = (q : Int) + 1) := Lib.hid (by unfold wrap64; omega)
      have hn1 : ((q : Int) + 1).toNat = q + 1 := by omega
      have e3 : (0 : Int) ≤ (q : Int) + 1 := by omega
      have KS := Lib.hid (fun w' => by
        have := blk_size xa w'
        rewrite [hab] at this
        exact this)
      clear ha hb hab
      go_wp2_with fail
      refine wp_region_held_drew (S := fun w' => w'.heap[g1]? = some (.cells szC 3 (0, 0))) (by kernel_rfl) (((HC.out.block g1 (lt_of_block HX.out) (by simp)).trans HX.out)) (fun H0 => ?_)
      refine' wpAnyH_take (i := 0) (v := _) rfl (by kernel_rfl) (by kernel_rfl) (by kernel_rfl) (fun _ _ _ h => h) (Or.inl ⟨by rfl, ?hya0⟩) H0 ?resta0
      case hya0 =>
        intro w' hSw
        have s1 := hSw
        go_simp
        try with_reducible rfl
      (try simp only [Act.put, List.getElem_toArray, List.getElem_cons_zero, List.setIfInBounds_toArray, List.set_cons_zero, List.set_cons_succ])
      refine' wpAnyH_take (i := 1) (v := _) rfl (by kernel_rfl) (by kernel_rfl) (by kernel_rfl) (fun _ _ _ h => h) (Or.inl ⟨by rfl, ?hya1⟩) H0 ?resta1
      case hya1 =>
        intro w' hSw
        have s1 := hSw
        go_simp
        try with_reducible rfl
      (try simp only [Act.put, List.getElem_toArray, List.getElem_cons_succ, List.getElem_cons_zero, List.setIfInBounds_toArray, List.set_cons_zero, List.set_cons_succ])
      refine' wpAnyH_take (i := 2) (v := _) rfl (by kernel_rfl) (by kernel_rfl) (by kernel_rfl) (fun _ _ _ h => h) (Or.inl ⟨by rfl, ?hya2⟩) H0 ?resta2
      case hya2 =>
        intro w' hSw
        have s1 := hSw
        go_simp
        try with_reducible rfl
      (try simp only [Act.put, List.getElem_toArray, List.getElem_cons_succ, List.getElem_cons_zero, List.setIfInBounds_toArray, List.set_cons_zero, List.set_cons_succ])
      refine' wpAnyH_take (i := 3) (v := _) rfl (by kernel_rfl) (by kernel_rfl) (by kernel_rfl) (fun _ _ _ h => h) (Or.inl ⟨by rfl, ?hya3⟩) H0 ?resta3
      case hya3 =>
        intro w' hSw
        have s1 := hSw
        have hc := (show w'.cell? ⟨g1, q, none⟩ = some (.int .i64 xa) by rw [cell_of_row _ _ _ _ _ _ s1]; exact HA.out)
        go_simp
        try with_reducible rfl
      (try simp only [Act.put, List.getElem_toArray, List.getElem_cons_succ, List.getElem_cons_zero, List.setIfInBounds_toArray, List.set_cons_zero, List.set_cons_succ])
      refine' wpAnyH_take (i := 5) (v := _) rfl (by kernel_rfl) (by kernel_rfl) (by kernel_rfl) (fun _ _ _ h => h) (Or.inl ⟨by rfl, ?hya5⟩) H0 ?resta5
      case hya5 =>
        intro w' hSw
        have s1 := hSw
        go_simp
        try with_reducible rfl
      (try simp only [Act.put, List.getElem_toArray, List.getElem_cons_succ, List.getElem_cons_zero, List.setIfInBounds_toArray, List.set_cons_zero, List.set_cons_succ])
      refine' wpAnyH_take (i := 6) (v := _) rfl (by kernel_rfl) (by kernel_rfl) (by kernel_rfl) (fun _ _ _ h => h) (Or.inl ⟨by rfl, ?hya6⟩) H0 ?resta6
      case hya6 =>
        intro w' hSw
        have s1 := hSw
        go_simp
        try with_reducible rfl
      (try simp only [Act.put, List.getElem_toArray, List.getElem_cons_succ, List.getElem_cons_zero, List.setIfInBounds_toArray, List.set_cons_zero, List.set_cons_succ])
      refine' wpAnyH_take (i := 7) (v := .int .i64 ((q : Int) + 1)) rfl (by kernel_rfl) (by kernel_rfl) (by kernel_rfl) (fun _ _ _ h => h) (Or.inl ⟨by rfl, ?hya7⟩) H0 ?resta7
      case hya7 =>
        intro w' hSw
        have s1 := hSw
        go_simp
        first | exact HW1.out | exact HW2.out
      (try simp only [Act.put, List.getElem_toArray, List.getElem_cons_succ, List.getElem_cons_zero, List.setIfInBounds_toArray, List.set_cons_zero, List.set_cons_succ])
      refine' wpAnyH_take (i := 8) (v := _) rfl (by kernel_rfl) (by kernel_rfl) (by kernel_rfl) (fun _ _ _ h => h) (Or.inl ⟨by rfl, ?hya8⟩) H0 ?resta8
      case hya8 =>
        intro w' hSw
        have s1 := hSw
        go_simp
        try with_reducible rfl
      (try simp only [Act.put, List.getElem_toArray, List.getElem_cons_succ, List.getElem_cons_zero, List.setIfInBounds_toArray, List.set_cons_zero, List.set_cons_succ])
      refine' wpAnyH_take (i := 9) (v := _) rfl (by kernel_rfl) (by kernel_rfl) (by kernel_rfl) (fun _ _ _ h => h) (Or.inl ⟨by rfl, ?hya9⟩) H0 ?resta9
      case hya9 =>
        intro w' hSw
        have s1 := hSw
        have hc := (show w'.cell? ⟨g1, q + 1, none⟩ = some (.int .i64 xb) by rw [cell_of_row _ _ _ _ _ _ s1]; exact HB.out)
        go_simp
        try with_reducible rfl
      (try simp only [Act.put, List.getElem_toArray, List.getElem_cons_succ, List.getElem_cons_zero, List.setIfInBounds_toArray, List.set_cons_zero, List.set_cons_succ])
      refine wpAnyH_ready (rs := [4]) (by kernel_rfl) (by simp) (AllReadyH.cons rfl (fun K hK => ?_) AllReadyH.nil)
      go_simp
      refine (KS.out _).mono ?_
      rintro e wy ⟨rfl, rfl⟩
      go_simp
      refine hK.out _ _ H0 (fun H1 => ?_)
      clear hK K
      refine' wpAnyH_take (i := 10) (v := _) rfl (by kernel_rfl) (by kernel_rfl) (by kernel_rfl) (fun _ _ _ h => h) (Or.inl ⟨by rfl, ?hya10⟩) H1 ?resta10
      case hya10 =>
        intro w' hSw
        have s1 := hSw
        go_simp
        try with_reducible rfl
      (try simp only [Act.put, List.getElem_toArray, List.getElem_cons_succ, List.getElem_cons_zero, List.setIfInBounds_toArray, List.set_cons_zero, List.set_cons_succ])
      refine wpAnyH_done (by kernel_rfl) ?_ _
      have HC2 : Hid (Chg [] wt (wr.drew)) := Lib.hid (HC.out.trans (Chg.drewN [] wr 1) (by simp))
      clear H0 H1 HC
      go_wp2_with fail
      go_roundw
      case rel => exact ⟨q + 2, j + 1, by go_num, by omega, Lib.hid (by have := HQJ.out; omega), HC2⟩
      case measure => simp [intOf] <;> omega
    · have e1 : ¬ (q : Int) < 18 := by omega
      generalize wr = wu at *
      have HXn := Lib.hid ((HC.out.block _ (lt_of_block HX2.out) (by simp)).trans HX2.out)
      have HCn := Lib.hid (HC0.out.trans HC.out (by simp))
      clear HX HX2 HC HC0 hq HQJ hlt
      have HX := HXn
      have HC0 := HCn
      clear HXn HCn
      go_wp2_with fail
      go_loopw [4] (fun v wr => ∃ (q j : Nat), v = .int .i64 (q : Int) ∧ q ≤ 16 ∧ Hid (q = 2 * j) ∧ Hid (Chg [] wu wr)) (fun v _ => 16 - (intOf v).toNat)
      case atStart => exact ⟨0, 0, rfl, Nat.zero_le _, Lib.hid rfl, Lib.hid (Chg.refl _ _)⟩
      case round =>
        obtain ⟨q, j, rfl, hq, HQJ, HC⟩ := hrel
        by_cases hlt : q < 16
        · have e1 : (q : Int) < 16 := by omega
          have e0 : (0 : Int) ≤ q := Int.natCast_nonneg _
          have e2 : (q : Int) + 1 < 16 := by have := HQJ.out; omega
          obtain ⟨xa, xb, ha, hb, hab⟩ := ct_at j (by have := HQJ.out; omega)
          rw [← HQJ.out] at ha hb
          have HA := Lib.hid ha
          have HB := Lib.hid hb
          have HW1 : Hid (IntKind.i64.wrap ((q : Int) + 1) = (q : Int) + 1) := Lib.hid (by rw [IntKind.wrap_i64]; omega)
          have HW2 : Hid (wrap64 ((q : Int) + 1) = (q : Int) + 1) := Lib.hid (by unfold wrap64; omega)
          have hn1 : ((q : Int) + 1).toNat = q + 1 := by omega
          have e3 : (0 : Int) ≤ (q : Int) + 1 := by omega
          have KS := Lib.hid (fun w' => by
            have := blk_count xa w'
            rewrite [hab] at this
            exact this)
          clear ha hb hab
          go_wp2_with fail
          refine wp_region_held_drew (S := fun w' => w'.heap[(g1 + 1)]? = some (.cells ctC 3 (0, 0))) (by kernel_rfl) (((HC.out.block (g1 + 1) (lt_of_block HX.out) (by simp)).trans HX.out)) (fun H0 => ?_)
          refine' wpAnyH_take (i := 0) (v := _) rfl (by kernel_rfl) (by kernel_rfl) (by kernel_rfl) (fun _ _ _ h => h) (Or.inl ⟨by rfl, ?hyb0⟩) H0 ?restb0
          case hyb0 =>
            intro w' hSw
            have s1 := hSw
            go_simp
            try with_reducible rfl
          (try simp only [Act.put, List.getElem_toArray, List.getElem_cons_zero, List.setIfInBounds_toArray, List.set_cons_zero, List.set_cons_succ])
          refine' wpAnyH_take (i := 1) (v := _) rfl (by kernel_rfl) (by kernel_rfl) (by kernel_rfl) (fun _ _ _ h => h) (Or.inl ⟨by rfl, ?hyb1⟩) H0 ?restb1
          case hyb1 =>
            intro w' hSw
            have s1 := hSw
            go_simp
            try with_reducible rfl
          (try simp only [Act.put, List.getElem_toArray, List.getElem_cons_succ, List.getElem_cons_zero, List.setIfInBounds_toArray, List.set_cons_zero, List.set_cons_succ])
          refine' wpAnyH_take (i := 2) (v := _) rfl (by kernel_rfl) (by kernel_rfl) (by kernel_rfl) (fun _ _ _ h => h) (Or.inl ⟨by rfl, ?hyb2⟩) H0 ?restb2
          case hyb2 =>
            intro w' hSw
            have s1 := hSw
            go_simp
            try with_reducible rfl
          (try simp only [Act.put, List.getElem_toArray, List.getElem_cons_succ, List.getElem_cons_zero, List.setIfInBounds_toArray, List.set_cons_zero, List.set_cons_succ])
          refine' wpAnyH_take (i := 3) (v := _) rfl (by kernel_rfl) (by kernel_rfl) (by kernel_rfl) (fun _ _ _ h => h) (Or.inl ⟨by rfl, ?hyb3⟩) H0 ?restb3
          case hyb3 =>
            intro w' hSw
            have s1 := hSw
            have hc := (show w'.cell? ⟨(g1 + 1), q, none⟩ = some (.int .i64 xa) by rw [cell_of_row _ _ _ _ _ _ s1]; exact HA.out)
            go_simp
            try with_reducible rfl
          (try simp only [Act.put, List.getElem_toArray, List.getElem_cons_succ, List.getElem_cons_zero, List.setIfInBounds_toArray, List.set_cons_zero, List.set_cons_succ])
          refine' wpAnyH_take (i := 5) (v := _) rfl (by kernel_rfl) (by kernel_rfl) (by kernel_rfl) (fun _ _ _ h => h) (Or.inl ⟨by rfl, ?hyb5⟩) H0 ?restb5
          case hyb5 =>
            intro w' hSw
            have s1 := hSw
            go_simp
            try with_reducible rfl
          (try simp only [Act.put, List.getElem_toArray, List.getElem_cons_succ, List.getElem_cons_zero, List.setIfInBounds_toArray, List.set_cons_zero, List.set_cons_succ])
          refine' wpAnyH_take (i := 6) (v := _) rfl (by kernel_rfl) (by kernel_rfl) (by kernel_rfl) (fun _ _ _ h => h) (Or.inl ⟨by rfl, ?hyb6⟩) H0 ?restb6
          case hyb6 =>
            intro w' hSw
            have s1 := hSw
            go_simp
            try with_reducible rfl
          (try simp only [Act.put, List.getElem_toArray, List.getElem_cons_succ, List.getElem_cons_zero, List.setIfInBounds_toArray, List.set_cons_zero, List.set_cons_succ])
          refine' wpAnyH_take (i := 7) (v := .int .i64 ((q : Int) + 1)) rfl (by kernel_rfl) (by kernel_rfl) (by kernel_rfl) (fun _ _ _ h => h) (Or.inl ⟨by rfl, ?hyb7⟩) H0 ?restb7
          case hyb7 =>
            intro w' hSw
            have s1 := hSw
            go_simp
            first | exact HW1.out | exact HW2.out
          (try simp only [Act.put, List.getElem_toArray, List.getElem_cons_succ, List.getElem_cons_zero, List.setIfInBounds_toArray, List.set_cons_zero, List.set_cons_succ])
          refine' wpAnyH_take (i := 8) (v := _) rfl (by kernel_rfl) (by kernel_rfl) (by kernel_rfl) (fun _ _ _ h => h) (Or.inl ⟨by rfl, ?hyb8⟩) H0 ?restb8
          case hyb8 =>
            intro w' hSw
            have s1 := hSw
            go_simp
            try with_reducible rfl
          (try simp only [Act.put, List.getElem_toArray, List.getElem_cons_succ, List.getElem_cons_zero, List.setIfInBounds_toArray, List.set_cons_zero, List.set_cons_succ])
          refine' wpAnyH_take (i := 9) (v := _) rfl (by kernel_rfl) (by kernel_rfl) (by kernel_rfl) (fun _ _ _ h => h) (Or.inl ⟨by rfl, ?hyb9⟩) H0 ?restb9
          case hyb9 =>
            intro w' hSw
            have s1 := hSw
            have hc := (show w'.cell? ⟨(g1 + 1), q + 1, none⟩ = some (.int .i64 xb) by rw [cell_of_row _ _ _ _ _ _ s1]; exact HB.out)
            go_simp
            try with_reducible rfl
          (try simp only [Act.put, List.getElem_toArray, List.getElem_cons_succ, List.getElem_cons_zero, List.setIfInBounds_toArray, List.set_cons_zero, List.set_cons_succ])
          refine wpAnyH_ready (rs := [4]) (by kernel_rfl) (by simp) (AllReadyH.cons rfl (fun K hK => ?_) AllReadyH.nil)
          go_simp
          refine (KS.out _).mono ?_
          rintro e wy ⟨rfl, rfl⟩
          go_simp
          refine hK.out _ _ H0 (fun H1 => ?_)
          clear hK K
          refine' wpAnyH_take (i := 10) (v := _) rfl (by kernel_rfl) (by kernel_rfl) (by kernel_rfl) (fun _ _ _ h => h) (Or.inl ⟨by rfl, ?hyb10⟩) H1 ?restb10
          case hyb10 =>
            intro w' hSw
            have s1 := hSw
            go_simp
            try with_reducible rfl
          (try simp only [Act.put, List.getElem_toArray, List.getElem_cons_succ, List.getElem_cons_zero, List.setIfInBounds_toArray, List.set_cons_zero, List.set_cons_succ])
          refine wpAnyH_done (by kernel_rfl) ?_ _
          have HC2 : Hid (Chg [] wu (wr.drew)) := Lib.hid (HC.out.trans (Chg.drewN [] wr 1) (by simp))
          clear H0 H1 HC
          go_wp2_with fail
          go_roundw
          case rel => exact ⟨q + 2, j + 1, by go_num, by omega, Lib.hid (by have := HQJ.out; omega), HC2⟩
          case measure => simp [intOf] <;> omega
        · have e1 : ¬ (q : Int) < 16 := by omega
          generalize wr = wa at *
          have HCA := Lib.hid (HC0.out.trans HC.out (by simp))
          clear HX HC0 HC hq HQJ hlt
          have kc := fun (w : World) (C : Array Value) (n c : Nat) => Lib.run_convert_bytes_const (P := Tryd.prog) w 25 5 C n c Tryd.underlying25 Tryd.underlying5
          go_upto_region 14 with (fail)
          change Code.wp _ _ _ _ (wa.alloc (.cells (bvs m_b17).toArray 5 (17, 18)))
          have CB := Chg.alloc [] wa (.cells (bvs m_b17).toArray 5 (17, 18))
          have hsb := src_litb m_b17 wa 5 (17, 18)
          obtain ⟨gB, hgB⟩ : ∃ gB, wa.heap.size = gB := ⟨_, rfl⟩
          rw [hgB] at hsb ⊢
          generalize wa.alloc (.cells (bvs m_b17).toArray 5 (17, 18)) = wb at *
          have HCB := Lib.hid (HCA.out.trans CB (by simp))
          have HSB := Lib.hid (fun (w' : World) (C : Chg [] wb w') => hsb.chg C (by simp))
          clear kc CB hsb HCA hgB
          have HLW := Lib.hid (fun (w' : World) (C : Chg [] wb w') => HL.out.chg (HCB.out.trans C (by simp)) (by simp))
          go_wp2_with fail
          refine (law_two wb (HLW.out wb (Chg.refl _ _))).mono ?_
          rintro e w1 ⟨b, S, rfl, H1, hS1, C1⟩
          have HF1 := Lib.hid H1
          have HS1 := Lib.hid hS1
          have HC1 := Lib.hid C1
          clear H1 hS1 C1
          go_wp2_with fail
          refine (repeat_one 120 16 (by omega) w1).mono ?_
          rintro e w2 ⟨rfl, C2⟩
          have HC2 := Lib.hid (HC1.out.trans C2 (by simp))
          have HF2 := Lib.hid (HF1.out.chg C2 (by simp))
          clear C2 HF1 HC1
          go_wp2_with fail
          refine (law_awake w2 (HLW.out _ HC2.out)).mono ?_
          rintro e w3 ⟨rfl, C3⟩
          have HC3 := Lib.hid (HC2.out.trans C3 (by simp))
          have HF3 := Lib.hid (HF2.out.chg C3 (by simp))
          clear C3 HF2 HC2
          have KP := Lib.hid (fun (i : Int) (w' : World) (C : Chg [] wb w') => blk_Part m_b17 (some ⟨gB, 0, none⟩) 17 i w' (HSB.out w' C) (by decide))
          rw [show m_b17.length = 17 from rfl] at KP
          have K4 := KP.out 0 w3 HC3.out
          rw [part0] at K4
          have HK4 := Lib.hid K4
          clear K4
          go_wp2_with fail
          refine HK4.out.mono ?_
          rintro e w4 ⟨a4, c4, rfl, ho4, _, C4⟩
          have HC4 := Lib.hid (HC3.out.trans C4 (by simp))
          have HF4 := Lib.hid (HF3.out.chg C4 (by simp))
          have hs4 := ownsRow_src ho4
          rw [show m_b16.length = 16 from rfl]
          clear C4 ho4 HF3 HC3 HK4
          go_wp2_with (refine wpList_str_of_bytes _ (by first | rfl | go_simp) 25 9 (.tmp 62) rfl 5 Tryd.underlying25 Tryd.underlying5 Tryd.underlying9 a4 16 c4 rfl ⟨#[97, 98, 99, 100, 101, 102, 103, 104, 105, 106, 107, 108, 109, 110, 111, 112]⟩ rfl hs4 ?_)
          clear hs4
          have K5 := KP.out 1 w4 HC4.out
          rw [part1] at K5
          have HK5 := Lib.hid K5
          clear K5
          go_wp2_with fail
          refine HK5.out.mono ?_
          rintro e w5 ⟨a5, c5, rfl, ho5, _, C5⟩
          have HC5 := Lib.hid (HC4.out.trans C5 (by simp))
          have HF5 := Lib.hid (HF4.out.chg C5 (by simp))
          have hs5 := ownsRow_src ho5
          rw [show ([113] : List UInt8).length = 1 from rfl]
          clear C5 ho5 HF4 HC4 HK5
          go_wp2_with (refine wpList_str_of_bytes _ (by first | rfl | go_simp) 25 9 (.tmp 68) rfl 5 Tryd.underlying25 Tryd.underlying5 Tryd.underlying9 a5 1 c5 rfl ⟨#[113]⟩ rfl hs5 ?_)
          clear hs5
          have K6 := KP.out 2 w5 HC5.out
          rw [part2] at K6
          have HK6 := Lib.hid K6
          clear K6
          go_wp2_with fail
          refine HK6.out.mono ?_
          rintro e w6 ⟨a6, c6, rfl, ho6, _, C6⟩
          have HC6 := Lib.hid (HC5.out.trans C6 (by simp))
          have HF6 := Lib.hid (HF5.out.chg C6 (by simp))
          rw [show ([] : List UInt8).length = 0 from rfl]
          clear C6 ho6 HF5 HC5 HK6
          have K7 := KP.out (-1) w6 HC6.out
          rw [partm] at K7
          have HK7 := Lib.hid K7
          clear K7
          go_wp2_with fail
          refine HK7.out.mono ?_
          rintro e w7 ⟨a7, c7, rfl, ho7, _, C7⟩
          have HC7 := Lib.hid (HC6.out.trans C7 (by simp))
          have HF7 := Lib.hid (HF6.out.chg C7 (by simp))
          rw [show ([] : List UInt8).length = 0 from rfl]
          clear C7 ho7 HF6 HC6 HK7
          have HSW := Lib.hid (fun x hx => Nat.le_trans HCB.out.size (HS1.out x hx))
          have KN := Lib.hid (by
            obtain ⟨_, _, bf, bp, fv, pv, HI, _⟩ := HF7.out
            exact blk_len b bf bp twoF _ fv pv S w7 HI)
          clear KP
          go_wp2_with fail
          refine KN.out.mono ?_
          rintro e w8 ⟨rfl, rfl⟩
          rw [show twoF.length = 2 from rfl]
          have KF := blk_forget b twoF S nmA w7 (HLW.out _ HC7.out) HF7.out (by decide)
          rw [has_two] at KF
          have HKF := Lib.hid KF
          clear KF KN
          go_wp2_with fail
          refine HKF.out.mono ?_
          rintro e w8 ⟨rfl, S8, H8, C8, hS8⟩
          rw [two_del] at H8
          have HF8 := Lib.hid H8
          have HC8 : Hid (Chg [] wb w8) := Lib.hid (HC7.out.trans C8 (fun x hx => .inr (HS1.out x hx)))
          have HS8 : Hid (∀ x ∈ S8, wb.heap.size ≤ x) := Lib.hid (fun x hx => (hS8 x hx).elim (HS1.out x) (Nat.le_trans HC7.out.size))
          clear H8 C8 hS8 HKF HF7 HC7
          have KF := blk_forget b oneF S8 nmA w8 (HLW.out _ HC8.out) HF8.out (by decide)
          rw [has_one] at KF
          have HKF := Lib.hid KF
          clear KF
          go_wp2_with fail
          refine HKF.out.mono ?_
          rintro e w9 ⟨rfl, S9, H9, C9, hS9⟩
          rw [one_del] at H9
          have HF9 := Lib.hid H9
          have HC9 : Hid (Chg [] wb w9) := Lib.hid (HC8.out.trans C9 (fun x hx => .inr (HS8.out x hx)))
          have HS9 : Hid (∀ x ∈ S9, wb.heap.size ≤ x) := Lib.hid (fun x hx => (hS9 x hx).elim (HS8.out x) (Nat.le_trans HC8.out.size))
          clear H9 C9 hS9 HKF HF8 HC8 HS8 HSW HS1
          go_wp2_with fail
          refine (law_finds b oneF S9 nmB 0 w9 (HLW.out _ HC9.out) HF9.out (by decide) find_one (fun _ => by kernel_rfl)).mono ?_
          rintro e w10 ⟨rfl, C10⟩
          have HC10 := Lib.hid (HC9.out.trans C10 (by simp))
          have HF10 := Lib.hid (HF9.out.chg C10 (by simp))
          clear C10 HF9 HC9
          have KN := Lib.hid (fun (w' : World) (C : Chg [] w10 w') => by
            obtain ⟨_, _, bf, bp, fv, pv, HI, _⟩ := HF10.out.chg C (by simp)
            exact blk_len b bf bp oneF _ fv pv S9 w' HI)
          go_wp2_with fail
          refine (KN.out w10 (Chg.refl _ _)).mono ?_
          rintro e w11 ⟨rfl, rfl⟩
          rw [show oneF.length = 1 from rfl]
          have hmk : ∀ w, (Instr.makeSlice 25 (.int .i64 4097) (.int .i64 4097)).run Tryd.prog w = .ok (.slice (some ⟨w.heap.size, 0, none⟩) 4097 4097) (w.alloc (.cells (madeCells #[.int .u8 0] 4097) 5)) := fun w => run_make_row' (P := Tryd.prog) 25 5 (.int .u8 0) 1 Tryd.underlying25 Tryd.infoU8' rfl .i64 .i64 4097 (by decide) (by decide) w
          have CZ := Chg.alloc [] w10 (.cells (madeCells #[.int .u8 0] 4097) 5)
          have KL := blk_List zer (some ⟨w10.heap.size, 0, none⟩) 4097 _ (HLW.out _ (HC10.out.trans CZ (by simp))) (zer_src w10) (by rw [zer_len]; exact Nat.le_refl _)
          rw [zer_list, zer_len] at KL
          have HKL := Lib.hid KL
          have HCZ := Lib.hid (HC10.out.trans CZ (by simp))
          have HC1Z := Lib.hid CZ
          clear KL CZ
          go_wp2_with fail
          refine HKL.out.mono ?_
          rintro e w12 ⟨C12, rfl⟩
          have HC12 := Lib.hid (HCZ.out.trans C12 (by simp))
          have HD12 := Lib.hid (HC1Z.out.trans C12 (by simp))
          have CG := Chg.alloc [] w12 (.cells #[.map none, .map none] 69)
          have hxg := heap_alloc_new w12 (.cells #[.map none, .map none] 69)
          clear C12 HKL HCZ HC1Z
          obtain ⟨gz, hgz⟩ : ∃ gz, w12.heap.size = gz := ⟨_, rfl⟩
          rw [hgz] at hxg
          obtain ⟨D0, hD0⟩ : ∃ D0, hashC (digest []) = D0 := ⟨_, rfl⟩
          have KS := Lib.hid (fun (w' : World) (C : Chg [] wb w') => by
            have := sha_digest [] none 0 w' (HLW.out w' C) (Src.empty _ _) (by decide) (by decide) (fun a ha => by cases ha)
            rewrite [hashV, hD0] at this
            exact this)
          have KFN := Lib.hid (fun (p : Option Addr) (w' : World) (h : NoFinder p w') => by
            have := blk_find_no p (hkey (digest [])) w' h
            rewrite [hkV_hkey, hashV, hD0] at this
            exact this)
          clear hD0
          go_wp2_with fail
          try rw [hgz]
          generalize w12.alloc (.cells #[.map none, .map none] 69) = w13 at *
          have HC13 := Lib.hid (HC12.out.trans CG (by simp))
          have HGZ : Hid (w10.heap.size ≤ gz) := Lib.hid (by have := HD12.out.size; omega)
          have HD13 := Lib.hid (HD12.out.trans CG (by simp))
          have HXG := Lib.hid hxg
          have HNZ := Lib.hid (fun (w' : World) (C : Chg [] w13 w') => noFinder_zero (b := gz) (w := w') (by rw [cell_of_row _ _ _ _ _ _ ((C.block gz (lt_of_block hxg) (by simp)).trans hxg)]; rfl))
          have HNN := Lib.hid (fun (w' : World) => noFinder_nil w')
          clear CG hxg HC12 HD12
          refine (KS.out _ HC13.out).mono ?_
          rintro e w14 ⟨rfl, C14⟩
          have HE14 := Lib.hid C14
          clear C14
          go_wp2_with fail
          refine (KFN.out none w14 (HNN.out w14)).mono ?_
          rintro e w15 ⟨C15, rfl⟩
          have HE15 := Lib.hid (HE14.out.trans C15 (by simp))
          have CP := Chg.alloc [] w15 (.cells #[.string ⟨#[]⟩, .int .i64 0] 57)
          clear C15 HE14
          go_upto_region 22 with (fail)
          generalize w15.alloc (.cells #[.string ⟨#[]⟩, .int .i64 0] 57) = w16 at *
          have HE16 := Lib.hid (HE15.out.trans CP (by simp))
          clear CP HE15
          go_wp2_with fail
          refine (KS.out _ (HC13.out.trans HE16.out (by simp))).mono ?_
          rintro e w17 ⟨rfl, C17⟩
          have HE17 := Lib.hid (HE16.out.trans C17 (by simp))
          clear C17 HE16
          go_wp2_with fail
          refine (KFN.out _ w17 (HNZ.out w17 HE17.out)).mono ?_
          rintro e w18 ⟨C18, rfl⟩
          have HE18 := Lib.hid (HE17.out.trans C18 (by simp))
          have CP := Chg.alloc [] w18 (.cells #[.string ⟨#[]⟩, .int .i64 0] 57)
          clear C18 HE17 KS KFN
          go_upto_region 23 with (fail)
          generalize w18.alloc (.cells #[.string ⟨#[]⟩, .int .i64 0] 57) = w19 at *
          have HE19 := Lib.hid (HE18.out.trans CP (by simp))
          have CZ := Chg.alloc [] w19 (.cells (madeCells #[.int .u8 0] 4097) 5)
          have HE20 := Lib.hid (HE19.out.trans CZ (by simp))
          have KA := blk_add_long b oneF S9 ⟨#[99]⟩ zer (some ⟨w19.heap.size, 0, none⟩) 4097 _ (HLW.out _ (HC13.out.trans HE20.out (by simp))) (HF10.out.chg (HD13.out.trans HE20.out (by simp)) (by simp)) (zer_src w19) (by rw [zer_len]; exact Nat.le_refl _) (by rw [zer_len]; decide)
          rw [zer_len] at KA
          have HKA := Lib.hid KA
          clear KA CZ CP HE18
          go_wp2_with fail
          refine HKA.out.mono ?_
          rintro e w21 ⟨rfl, S21, H21, C21, hS21⟩
          have HF21 := Lib.hid H21
          have HE21 : Hid (Chg [] wb w21) := Lib.hid ((HC13.out.trans HE20.out (by simp)).trans C21 (fun x hx => .inr (HS9.out x hx)))
          have hzz := (C21.block gz (by have := HE20.out.size; have := lt_of_block HXG.out; omega) (fun hm => by have := HF10.out.ltS gz hm; have := HD13.out.size; have := HGZ.out; omega)).trans ((HE20.out.block gz (lt_of_block HXG.out) (by simp)).trans HXG.out)
          have HNZ2 := Lib.hid (fun (w' : World) (C : Chg [] w21 w') => noFinder_zero (b := gz) (w := w') (by rw [cell_of_row _ _ _ _ _ _ ((C.block gz (lt_of_block hzz) (by simp)).trans hzz)]; rfl))
          have KN := Lib.hid (by
            obtain ⟨_, _, bf, bp, fv, pv, HI, _⟩ := HF21.out
            exact blk_len b bf bp oneF _ fv pv S21 w21 HI)
          clear H21 C21 hS21 HKA hzz HNZ HE20 hmk
          go_wp2_with fail
          refine KN.out.mono ?_
          rintro e w22 ⟨rfl, rfl⟩
          rw [show oneF.length = 1 from rfl]
          go_wp2_with fail
          refine (blk_add_not none nmA none 0 0 w21 (HNN.out w21)).mono ?_
          rintro e w22 ⟨rfl, rfl⟩
          go_wp2_with fail
          refine (blk_add_not _ nmA none 0 0 w21 (HNZ2.out w21 (Chg.refl _ _))).mono ?_
          rintro e w22 ⟨rfl, rfl⟩
          go_wp2_with fail
          refine (blk_forget_not none nmA w21 (HNN.out w21)).mono ?_
          rintro e w22 ⟨rfl, C22⟩
          go_wp2_with fail
          refine (blk_forget_not _ nmA w22 (HNZ2.out w22 C22)).mono ?_
          rintro e w23 ⟨rfl, C23⟩
          have HE23 := Lib.hid (C22.trans C23 (by simp))
          clear C22 C23
          go_wp2_with fail
          refine (blk_len_not none w23 (HNN.out w23)).mono ?_
          rintro e w24 ⟨rfl, rfl⟩
          go_wp2_with fail
          refine (blk_len_not _ w23 (HNZ2.out w23 HE23.out)).mono ?_
          rintro e w24 ⟨rfl, rfl⟩
          go_wp2_with fail
          go_ret
          exact ⟨rfl, (HCB.out.trans HE21.out (by simp)).trans HE23.out (by simp)⟩
end Go.Proofs.YtfdhpjflkimihaaDoor
