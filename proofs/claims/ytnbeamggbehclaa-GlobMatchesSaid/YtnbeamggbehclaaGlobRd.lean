/- The reference's whole, walked. No conditions beyond those that each statement types. -/
import Derived.Test.YtnbeamggbehclaaGlobRc
namespace Go.Proofs.Ytnbeamggbehclaa
open Go.RowKit

theorem cell_put {w : World} {b o b' o' : Nat} {v u : Value} (h : w.cell? ⟨b', o', none⟩ = some u) (hne : b' ≠ b ∨ o' ≠ o) : (w.setCell ⟨b, o, none⟩ v).cell? ⟨b', o', none⟩ = some u :=
  (World.cell?_setCell_other _ _ _ _ (by intro e; cases e; simp at hne)).trans h

set_option maxRecDepth 100000 in
set_option maxHeartbeats 16000000 in
theorem ref_whole (m : Mk) (root : Bool) (pa : Option Addr) (pn pc : Nat) (es : List REl) (s : ByteArray) (W : World) (hE : ElsAt 0 W pa pn pc es) (hs : s.size ≤ 1000) (hn : pn ≤ 1000) (hes : ∀ p ∈ es, p.2.2.1 ≤ 1000000) :
    Calls Try.prog 30 #[.agg (patC m root pa pn pc), .string s] W fun e w' => e = .returned (.bool (mat m.fold (es.map (·.1)) s.data.toList)) ∧ Chg [] W w' := by
  obtain ⟨fold, hfold⟩ : ∃ f, m.fold = f := ⟨_, rfl⟩
  rw [hfold]
  obtain ⟨l, hl⟩ : ∃ l, s.data.toList = l := ⟨_, rfl⟩
  obtain ⟨els, hels⟩ : ∃ els, es.map (·.1) = els := ⟨_, rfl⟩
  obtain ⟨F, hF⟩ : ∃ F, tabF fold els l = F := ⟨_, rfl⟩
  have hmat : mat fold (es.map (·.1)) s.data.toList = F 0 0 := by rw [hels, hl, ← hF]; rfl
  rw [hmat]
  have hlen : els.length = pn := by rw [← hels, List.length_map, hE.len]
  have hll : l.length = s.size := by rw [← hl]; rfl
  have HL := Lib.hid hl
  have HELS := Lib.hid hels
  have HF := Lib.hid hF
  have HLEN := Lib.hid hlen
  have HLL := Lib.hid hll
  have HFOLD := Lib.hid hfold
  have HE := Lib.hid hE
  have HES := Lib.hid hes
  clear hmat hl hels hF hlen hll hfold hE hes
  obtain ⟨N, hN⟩ : ∃ N, pn + 1 = N := ⟨_, rfl⟩
  obtain ⟨M, hM⟩ : ∃ M, s.size + 1 = M := ⟨_, rfl⟩
  have hmk := fun w => run_make_row' (P := Try.prog) 80 56 (.slice none 0 0) 24 Try.underlying80 Try.infoSlB rfl .i64 .i64 N (by omega) (by omega) w
  have hmk2 := fun w => run_make_row' (P := Try.prog) 56 4 (.bool false) 1 Try.underlying56 Try.infoB rfl .i64 .i64 M (by omega) (by omega) w
  have hwN : IntKind.i64.wrap ((pn : Int) + 1) = N := by rw [IntKind.wrap_i64]; omega
  have hwM : IntKind.i64.wrap ((s.size : Int) + 1) = M := by rw [IntKind.wrap_i64]; omega
  have hx := heap_alloc_new W (.cells (patC m root pa pn pc) 29)
  have C1 := Chg.alloc [] W (.cells (patC m root pa pn pc) 29)
  have hs1 : (W.alloc (.cells (patC m root pa pn pc) 29)).heap.size = W.heap.size + 1 := by simp
  have HN := Lib.hid hN
  have HM := Lib.hid hM
  clear hN hM
  go_enter Try.func30, Try.ntmps30
  go_upto_region 1 with (fail)
  generalize W.alloc (.cells (patC m root pa pn pc) 29) = w1 at *
  obtain ⟨g0, hg⟩ : ∃ g, W.heap.size = g := ⟨_, rfl⟩
  rw [hg] at hx hs1 ⊢
  have c4 : w1.cell? ⟨g0, 4, none⟩ = some (.slice pa pn pc) := by rw [cell_of_row _ _ _ _ _ _ hx]; rfl
  have R1 := World.rowIs_made w1 (.slice none 0 0) N 56
  have C2 := Chg.alloc [] w1 (.cells (madeCells #[.slice none 0 0] N) 56)
  rw [hs1] at R1
  have HG := Lib.hid hg
  clear hg
  go_upto_region 3 with (fail)
  generalize w1.alloc (.cells (madeCells #[.slice none 0 0] N) 56) = w2 at *
  (try rw [hs1])
  have HT : Hid (TbAt W w2 (patC m root pa pn pc) g0 (g0 + 1) pn s.size F (pn + 1)) := Lib.hid ⟨(C2.block _ (lt_of_block hx) (by simp)).trans hx, C1.trans C2 (by simp), _, by rw [HN.out]; exact R1, by have := HG.out; omega, by omega, fun h => by omega⟩
  clear hx hs1 c4 R1 C1 C2
  go_wp2_with fail
  go_loopw [8] (fun v wr => ∃ k : Nat, v = .int .i64 ((k : Int) - 1) ∧ k ≤ pn + 1 ∧ Hid (TbAt W wr (patC m root pa pn pc) g0 (g0 + 1) pn s.size F k)) (fun v _ => (intOf v + 1).toNat)
  case atStart => exact ⟨pn + 1, by go_num, Nat.le_refl _, HT⟩
  case round =>
    obtain ⟨k, rfl, hk, hT⟩ := hrel
    clear HT
    rcases Nat.eq_zero_or_pos k with hk0 | hk0
    · subst hk0
      obtain ⟨h0, h1, V, h5, h2, h3, h6⟩ := hT.out
      obtain ⟨B, b1, b2, b3⟩ := h6 (by omega)
      have c1 := h5.cell (i := 0) (by omega)
      rw [b2] at c1
      have c2 := b3.cell (i := 0) (by omega)
      unfold sl at c1
      rw [HM.out] at c1
      have p0 : 0 < N := by have := HN.out; omega
      have p1 : 0 < M := by have := HM.out; omega
      have HC := Lib.hid h1
      clear h0 h1 h5 h2 h3 h6 b1 b2 b3
      go_wp2_with fail
      go_ret
      exact ⟨rfl, HC.out⟩
    · obtain ⟨i, rfl⟩ : ∃ i, k = i + 1 := ⟨k - 1, by omega⟩
      have hip : i ≤ pn := by omega
      have hwi : ((i + 1 : Nat) : Int) - 1 = i := by omega
      have hi0 : (0 : Int) ≤ i := by omega
      have hiN : (i : Int) < N := by have := HN.out; omega
      have HR : Hid (TbIn W ((wr.alloc (.cells (madeCells #[.bool false] M) 4)).setCell ⟨g0 + 1, i, none⟩ (.slice (some ⟨wr.heap.size, 0, none⟩) M M)) (patC m root pa pn pc) g0 (g0 + 1) wr.heap.size pn s.size F i M) := Lib.hid (by
        have := hT.out.row hip
        unfold sl at this
        rwa [HM.out] at this)
      obtain ⟨_, _, V, h5, _⟩ := hT.out
      have x1 := (h5.alloc (.cells (madeCells #[.bool false] M) 4)).cell (i := i) (by omega)
      have x2 := (h5.alloc (.cells (madeCells #[.bool false] M) 4)).frozen i
      clear h5 hT
      rw [hwi]
      go_upto_region 7 with (fail)
      generalize (wr.alloc (.cells (madeCells #[.bool false] M) 4)).setCell ⟨g0 + 1, i, none⟩ (.slice (some ⟨wr.heap.size, 0, none⟩) M M) = w3 at *
      obtain ⟨R, hRr⟩ : ∃ R, wr.heap.size = R := ⟨_, rfl⟩
      rw [hRr] at HR ⊢
      clear x1 x2 hRr hwi
      obtain ⟨wo, hwo⟩ : ∃ wo : World, wo = wr := ⟨_, rfl⟩
      clear hwo
      go_wp2_with fail
      go_loopw [9] (fun v wq => ∃ q : Nat, v = .int .i64 ((q : Int) - 1) ∧ q ≤ M ∧ Hid (TbIn W wq (patC m root pa pn pc) g0 (g0 + 1) R pn s.size F i q)) (fun v _ => (intOf v + 1).toNat)
      case atStart => exact ⟨M, by have := HM.out; rw [← this]; go_num, Nat.le_refl _, HR⟩
      case round =>
        obtain ⟨q, rfl, hq, hT⟩ := hrel
        clear HR
        rcases Nat.eq_zero_or_pos q with hq0 | hq0
        · subst hq0
          have HT := Lib.hid hT.out.done
          clear hT
          go_wp2_with fail
          go_roundw
          case rel => exact ⟨i, by go_num, by omega, HT⟩
          case measure => simp [intOf] <;> omega
        · obtain ⟨j, rfl⟩ : ∃ j, q = j + 1 := ⟨q - 1, by omega⟩
          have hwj : ((j + 1 : Nat) : Int) - 1 = j := by omega
          have hj0 : (0 : Int) ≤ j := by omega
          have hjM : (j : Int) < M := by omega
          have hjM' : j < M := by omega
          have hiN' : i < N := by have := HN.out; omega
          have hjs : j ≤ s.size := by have := HM.out; omega
          obtain ⟨h0, h1, h2, h3, h4, V, h5, h6, h7, f, h8, h9⟩ := hT.out
          have x1 := h5.cell (i := i) (by omega)
          rw [h6] at x1
          unfold sl at x1
          rw [HM.out] at x1
          have y1 := h8.frozen j
          have y2 := h8.cell (i := j) (by omega)
          rw [hwj]
          rcases Nat.eq_or_lt_of_le hip with hin | hin
          · subst hin
            have HP : Hid (∀ b, F i j = b → TbIn W (wr.setCell ⟨R, j, none⟩ (.bool b)) (patC m root pa i pc) g0 (g0 + 1) R i s.size F i j) := Lib.hid (fun b hb => hT.out.put b hb)
            have HV : Hid (F i j = ((j : Int) == s.size)) := Lib.hid (by
              rw [← HF.out]
              have e := tabF_end fold els l j (by have := HLL.out; omega)
              rw [HLEN.out] at e
              rw [e, HLL.out, Bool.eq_iff_iff, beq_iff_eq, beq_iff_eq]
              omega)
            clear h0 h1 h2 h3 h4 h5 h6 h7 h8 h9 hT
            go_wp2_with fail
            go_roundw
            case rel => exact ⟨j, by go_num, by omega, Lib.hid (HP.out _ HV.out)⟩
            case measure => simp [intOf] <;> omega
          · have hin1 : ((i : Int) == pn) = false := beq_eq_false_iff_ne.2 (by omega)
            have hin2 : (i : Int) < pn := by omega
            obtain ⟨B, b1, b2, b3, b4⟩ := h7 hin
            have x3 := h5.cell (i := i + 1) (by omega)
            rw [b3] at x3
            unfold sl at x3
            rw [HM.out] at x3
            have x4 := b4.cell (i := j) (by omega)
            obtain ⟨⟨x, a, n, c⟩, hp⟩ : ∃ p, es[i]? = some p := ⟨_, List.getElem?_eq_getElem (by have := HE.out.len; omega)⟩
            have hEw := HE.out.chg h1 (by simp)
            obtain ⟨ge, rfl, hcell⟩ := elsAt_get hEw hp
            have hload := load_elr_at wr ge (i * 4) x a n c hcell
            have hrg := hEw.rg _ (List.mem_of_getElem? hp)
            have hcn := HES.out _ (List.mem_of_getElem? hp)
            have hxi : els[i]? = some x := by rw [← HELS.out, List.getElem?_map, hp]; rfl
            have cb4 : wr.cell? ⟨g0, 4, none⟩ = some (.slice (some ⟨ge, 0, none⟩) pn pc) := by rw [cell_of_row _ _ _ _ _ _ h0]; rfl
            have C4 := Chg.alloc [] wr (.cells (elC x a n c) 53)
            have hx4 := heap_alloc_new wr (.cells (elC x a n c) 53)
            have h04 := (C4.block _ (lt_of_block h0) (by simp)).trans h0
            have KH : Hid (∀ k (b : UInt8), Calls Try.prog 46 #[.agg (patC m root (some ⟨ge, 0, none⟩) pn pc), .agg (elC x a n c), bv b] ((wr.alloc (.cells (elC x a n c) 53)).drewN k) fun e w' => e = .returned (.bool (x.holds' fold b)) ∧ Chg [] ((wr.alloc (.cells (elC x a n c) 53)).drewN k) w') := Lib.hid (fun k b => by
              have := ref_holds m root (some ⟨ge, 0, none⟩) pn pc x a n c b ((wr.alloc (.cells (elC x a n c) 53)).drewN k) ((hrg.chg C4 (by simp)).chg (Chg.drewN [] _ k) (by simp)) hcn
              rwa [HFOLD.out] at this)
            have HX := Lib.hid (show els[i]? = some x from hxi)
            have HT4 := Lib.hid (hT.out.chg C4)
            clear h0 h1 h2 h3 h4 h5 h6 h7 h8 h9 hT b1 b2 b3 b4 hp hEw hcell hrg hxi C4 hcn
            go_upto_region 13 with (first
              | refine wpList_load_y 53 (.tmp 51) rfl rfl (.pointer (some ⟨ge, i * 4, none⟩)) (.agg (elC x a n c)) hload rfl ?_
              | refine wpList_store_y 53 (.tmp 10) (.tmp 52) rfl rfl (.pointer (some ⟨wr.heap.size, 0, none⟩)) (.agg (elC x a n c)) _ (run_storeAt_new wr _ #[.int .i64 0, .int .u8 0, .bool false, .slice none 0 0] (elC x a n c) Try.infoElR rfl (elC_one ..)) rfl rfl ?_)
            clear x1 x3 x4 y1 y2 cb4 hload
            obtain ⟨gx, hgx⟩ : ∃ gx, wr.heap.size = gx := ⟨_, rfl⟩
            rw [hgx] at hx4
            generalize wr.alloc (.cells (elC x a n c) 53) = w4 at *
            (try rw [hgx])
            clear hgx
            obtain ⟨Bq, hB⟩ : ∃ b, isAt fold x l j = b := ⟨_, rfl⟩
            have HB := Lib.hid hB
            clear hB
            simp only [Act.put]
            go_cut [11] (fun v w' => v = .bool Bq ∧ Chg [] w4 w')
            case first =>
              by_cases hj : j < s.size
              · have hj' : (j : Int) < s.size := by omega
                have p0 : w4.cell? ⟨g0, 0, none⟩ = some (.bool m.neg) := by rw [cell_of_row _ _ _ _ _ _ h04]; rfl
                have p1 : w4.cell? ⟨g0, 1, none⟩ = some (.bool m.fold) := by rw [cell_of_row _ _ _ _ _ _ h04]; rfl
                have p2 : w4.cell? ⟨g0, 2, none⟩ = some (.bool m.del) := by rw [cell_of_row _ _ _ _ _ _ h04]; rfl
                have p3 : w4.cell? ⟨g0, 3, none⟩ = some (.bool root) := by rw [cell_of_row _ _ _ _ _ _ h04]; rfl
                have p4 : w4.cell? ⟨g0, 4, none⟩ = some (.slice (some ⟨ge, 0, none⟩) pn pc) := by rw [cell_of_row _ _ _ _ _ _ h04]; rfl
                have q0 : w4.cell? ⟨gx, 0, none⟩ = some (.int .i64 x.kind) := by rw [cell_of_row _ _ _ _ _ _ hx4]; rfl
                have q1 : w4.cell? ⟨gx, 1, none⟩ = some (.int .u8 x.b.toNat) := by rw [cell_of_row _ _ _ _ _ _ hx4]; rfl
                have q2 : w4.cell? ⟨gx, 2, none⟩ = some (.bool x.no) := by rw [cell_of_row _ _ _ _ _ _ hx4]; rfl
                have q3 : w4.cell? ⟨gx, 3, none⟩ = some (.slice a n c) := by rw [cell_of_row _ _ _ _ _ _ hx4]; rfl
                have HV : Hid (x.holds' fold s[j] = Bq) := Lib.hid (by
                  rw [← HB.out, isAt, HLL.out, decide_eq_true hj, Bool.true_and]
                  have h2 := data_get hj
                  rw [HL.out] at h2
                  rw [List.getD, h2]
                  rfl)
                have KC := KH.out 1 s[j]
                rw [HV.out] at KC
                have HK := Lib.hid KC
                clear hx4 h04 KC KH
                go_still_tail 9, (by kernel_rfl)
                change wpList _ _ _ _ _ w4.drew
                go_wp2_with fail
                refine HK.out.mono ?_
                rintro e w5 ⟨rfl, C5⟩
                go_wp2_with fail
                go_meet
                case rel => exact ⟨rfl, (Chg.drewN [] w4 1).trans C5 (by simp)⟩
              · have HV : Hid (Bq = false) := Lib.hid (by rw [← HB.out, isAt, HLL.out, decide_eq_false hj]; rfl)
                have hj1 : decide ((j : Int) < s.size) = false := decide_eq_false (by omega)
                have hj2 : decide (j < s.size) = false := decide_eq_false hj
                have hj3 : ¬ (j : Int) < s.size := by omega
                go_quiet (fail)
                go_wp2_with fail
                go_meet
                case rel => exact ⟨by rw [HV.out], Chg.drewN _ _ _⟩
            case rest =>
            rename_i hK0
            obtain ⟨rfl, C5⟩ := hcut
            refine hK0 _ _ ?_
            clear hK0
            have HT5 := Lib.hid (HT4.out.chg C5)
            have hx5 := (C5.block _ (lt_of_block hx4) (by simp)).trans hx4
            clear HT4 C5 hx4 h04 KH
            go_upto_region 14 with (fail)
            go_cut [71] (fun v w' => v = .bool x.many ∧ wc = w')
            case first =>
              have q0 : wc.cell? ⟨gx, 0, none⟩ = some (.int .i64 x.kind) := by rw [cell_of_row _ _ _ _ _ _ hx5]; rfl
              clear hx5
              cases x with
              | all => replace q0 : wc.cell? ⟨gx, 0, none⟩ = some (.int .i64 1) := q0; go_wp2_with fail; go_meet; case rel => exact ⟨rfl, rfl⟩
              | some => replace q0 : wc.cell? ⟨gx, 0, none⟩ = some (.int .i64 2) := q0; go_wp2_with fail; go_meet; case rel => exact ⟨rfl, rfl⟩
              | any => replace q0 : wc.cell? ⟨gx, 0, none⟩ = some (.int .i64 3) := q0; go_wp2_with fail; go_meet; case rel => exact ⟨rfl, rfl⟩
              | set no rs => replace q0 : wc.cell? ⟨gx, 0, none⟩ = some (.int .i64 4) := q0; go_wp2_with fail; go_meet; case rel => exact ⟨rfl, rfl⟩
              | byt d => replace q0 : wc.cell? ⟨gx, 0, none⟩ = some (.int .i64 5) := q0; go_wp2_with fail; go_meet; case rel => exact ⟨rfl, rfl⟩
            case rest =>
            rename_i hK0
            obtain ⟨rfl, rfl⟩ := hcut
            refine hK0 _ _ ?_
            clear hK0
            obtain ⟨h0, h1, h2, h3, h4, V, h5, h6, h7, f, h8, h9⟩ := HT5.out
            obtain ⟨B, b1, b2, b3, b4⟩ := h7 hin
            have x1 := h5.cell (i := i) (by omega)
            have x3 := h5.cell (i := i + 1) (by omega)
            rw [h6] at x1
            rw [b3] at x3
            unfold sl at x1 x3
            rw [HM.out] at x1 x3
            have y1 := h8.frozen j
            have y2 := h8.cell (i := j) (by omega)
            have hll := HLL.out
            have hwi1 : IntKind.i64.wrap ((i : Int) + 1) = (i : Int) + 1 := by rw [IntKind.wrap_i64]; omega
            have hwj1 : IntKind.i64.wrap ((j : Int) + 1) = (j : Int) + 1 := by rw [IntKind.wrap_i64]; omega
            have hti : ((i : Int) + 1).toNat = i + 1 := by omega
            have htj : ((j : Int) + 1).toNat = j + 1 := by omega
            have hiN1 : (i : Int) + 1 < N := by have := HN.out; omega
            have hiN2 : i + 1 < N := by have := HN.out; omega
            have hi1 : (0 : Int) ≤ (i : Int) + 1 := by omega
            have hj1 : (0 : Int) ≤ (j : Int) + 1 := by omega
            have HJ : Hid (Bq = true → j < s.size) := Lib.hid (fun h => by
              have h2 := HB.out
              rw [h, isAt] at h2
              simp only [Bool.and_eq_true, decide_eq_true_eq] at h2
              omega)
            have HP : Hid (∀ b, F i j = b → Hid (TbIn W (wc.drew.setCell ⟨R, j, none⟩ (.bool b)) (patC m root (some ⟨ge, 0, none⟩) pn pc) g0 (g0 + 1) R pn s.size F i j)) := Lib.hid (fun b hb => Lib.hid ((HT5.out.chg (Chg.drewN [] wc 1)).put b hb))
            obtain ⟨mn, hmn⟩ : ∃ b, x.many = b := ⟨_, rfl⟩
            rw [hmn]
            have hBR : B ≠ R := by omega
            have hGR : g0 + 1 ≠ R := by omega
            cases mn with
            | true =>
              have HE1 : Hid (F i j = (F (i + 1) j || (Bq && F i (j + 1)))) := Lib.hid (by rw [← HF.out, tabF_many fold els l i j x HX.out hmn (by omega), HB.out])
              have x4 := b4.cell (i := j) (by omega)
              have HX5 : Hid (j < s.size → wc.cell? ⟨R, j + 1, none⟩ = some (.bool (F i (j + 1)))) := Lib.hid (fun hj => by rw [h8.cell (i := j + 1) (by omega), h9 (j + 1) (by omega) (by omega)])
              clear h0 h1 h2 h3 h4 h5 h6 h7 h8 h9 b1 b2 b3 b4 hmn hll hx5 HT5
              obtain ⟨f1, hf1⟩ : ∃ b, F (i + 1) j = b := ⟨_, rfl⟩
              rw [hf1] at x4 HE1
              clear hf1
              cases f1 with
              | true =>
                have HV : Hid (F i j = true) := Lib.hid (by rw [HE1.out]; rfl)
                go_upto_region 15 with (fail)
                refine wp_region_held_drew (S := fun w' => w'.cell? ⟨g0 + 1, i, none⟩ = some (.slice (some ⟨R, 0, none⟩) M M) ∧ w'.cell? ⟨g0 + 1, i + 1, none⟩ = some (.slice (some ⟨B, 0, none⟩) M M) ∧ w'.cell? ⟨B, j, none⟩ = some (.bool true)) (by kernel_rfl) ⟨x1, x3, x4⟩ (fun H0 => ?_)
                refine' wpAnyH_take (i := 0) (v := _) rfl (by kernel_rfl) (by kernel_rfl) (by kernel_rfl) (fun _ _ _ h => h) (Or.inl ⟨by rfl, ?hya0⟩) H0 ?resta0
                case hya0 =>
                  intro w' hSw
                  obtain ⟨z0, z1, z2⟩ := hSw
                  go_simp
                  try with_reducible rfl
                (try simp only [Act.put, List.getElem_toArray, List.getElem_cons_zero, List.setIfInBounds_toArray, List.set_cons_zero, List.set_cons_succ])
                refine' wpAnyH_take (i := 1) (v := _) rfl (by kernel_rfl) (by kernel_rfl) (by kernel_rfl) (fun _ _ _ h => h) (Or.inl ⟨by rfl, ?hya1⟩) H0 ?resta1
                case hya1 =>
                  intro w' hSw
                  obtain ⟨z0, z1, z2⟩ := hSw
                  go_simp
                  try with_reducible rfl
                (try simp only [Act.put, List.getElem_toArray, List.getElem_cons_succ, List.getElem_cons_zero, List.setIfInBounds_toArray, List.set_cons_zero, List.set_cons_succ])
                refine' wpAnyH_take (i := 2) (v := _) rfl (by kernel_rfl) (by kernel_rfl) (by kernel_rfl) (fun _ _ _ h => h) (Or.inl ⟨by rfl, ?hya2⟩) H0 ?resta2
                case hya2 =>
                  intro w' hSw
                  obtain ⟨z0, z1, z2⟩ := hSw
                  go_simp
                  try with_reducible rfl
                (try simp only [Act.put, List.getElem_toArray, List.getElem_cons_succ, List.getElem_cons_zero, List.setIfInBounds_toArray, List.set_cons_zero, List.set_cons_succ])
                refine' wpAnyH_take (i := 3) (v := _) rfl (by kernel_rfl) (by kernel_rfl) (by kernel_rfl) (fun _ _ _ h => h) (Or.inl ⟨by rfl, ?hya3⟩) H0 ?resta3
                case hya3 =>
                  intro w' hSw
                  obtain ⟨z0, z1, z2⟩ := hSw
                  go_simp
                  try with_reducible rfl
                (try simp only [Act.put, List.getElem_toArray, List.getElem_cons_succ, List.getElem_cons_zero, List.setIfInBounds_toArray, List.set_cons_zero, List.set_cons_succ])
                refine' wpAnyH_take (i := 4) (v := _) rfl (by kernel_rfl) (by kernel_rfl) (by kernel_rfl) (fun _ _ _ h => h) (Or.inl ⟨by rfl, ?hya4⟩) H0 ?resta4
                case hya4 =>
                  intro w' hSw
                  obtain ⟨z0, z1, z2⟩ := hSw
                  go_simp
                  try with_reducible rfl
                (try simp only [Act.put, List.getElem_toArray, List.getElem_cons_succ, List.getElem_cons_zero, List.setIfInBounds_toArray, List.set_cons_zero, List.set_cons_succ])
                refine' wpAnyH_take (i := 5) (v := _) rfl (by kernel_rfl) (by kernel_rfl) (by kernel_rfl) (fun _ _ _ h => h) (Or.inl ⟨by rfl, ?hya5⟩) H0 ?resta5
                case hya5 =>
                  intro w' hSw
                  obtain ⟨z0, z1, z2⟩ := hSw
                  go_simp
                  try with_reducible rfl
                (try simp only [Act.put, List.getElem_toArray, List.getElem_cons_succ, List.getElem_cons_zero, List.setIfInBounds_toArray, List.set_cons_zero, List.set_cons_succ])
                refine' wpAnyH_take (i := 6) (v := _) rfl (by kernel_rfl) (by kernel_rfl) (by kernel_rfl) (fun _ _ _ h => h) (Or.inl ⟨by rfl, ?hya6⟩) H0 ?resta6
                case hya6 =>
                  intro w' hSw
                  obtain ⟨z0, z1, z2⟩ := hSw
                  go_simp
                  try with_reducible rfl
                (try simp only [Act.put, List.getElem_toArray, List.getElem_cons_succ, List.getElem_cons_zero, List.setIfInBounds_toArray, List.set_cons_zero, List.set_cons_succ])
                refine' wpAnyH_take (i := 7) (v := _) rfl (by kernel_rfl) (by kernel_rfl) (by kernel_rfl) (fun _ _ _ h => h) (Or.inl ⟨by rfl, ?hya7⟩) H0 ?resta7
                case hya7 =>
                  intro w' hSw
                  obtain ⟨z0, z1, z2⟩ := hSw
                  go_simp
                  try with_reducible rfl
                (try simp only [Act.put, List.getElem_toArray, List.getElem_cons_succ, List.getElem_cons_zero, List.setIfInBounds_toArray, List.set_cons_zero, List.set_cons_succ])
                refine' wpAnyH_take (i := 8) (v := _) rfl (by kernel_rfl) (by kernel_rfl) (by kernel_rfl) (fun _ _ _ h => h) (Or.inl ⟨by rfl, ?hya8⟩) H0 ?resta8
                case hya8 =>
                  intro w' hSw
                  obtain ⟨z0, z1, z2⟩ := hSw
                  go_simp
                  try with_reducible rfl
                (try simp only [Act.put, List.getElem_toArray, List.getElem_cons_succ, List.getElem_cons_zero, List.setIfInBounds_toArray, List.set_cons_zero, List.set_cons_succ])
                refine' wpAnyH_take (i := 9) (v := _) rfl (by kernel_rfl) (by kernel_rfl) (by kernel_rfl) (fun _ _ _ h => h) (Or.inl ⟨by rfl, ?hya9⟩) H0 ?resta9
                case hya9 =>
                  intro w' hSw
                  obtain ⟨z0, z1, z2⟩ := hSw
                  go_simp
                  try with_reducible rfl
                (try simp only [Act.put, List.getElem_toArray, List.getElem_cons_succ, List.getElem_cons_zero, List.setIfInBounds_toArray, List.set_cons_zero, List.set_cons_succ])
                refine' wpAnyH_take (i := 10) (v := _) rfl (by kernel_rfl) (by kernel_rfl) (by kernel_rfl) (fun _ _ _ h => h) (Or.inl ⟨by rfl, ?hya10⟩) H0 ?resta10
                case hya10 =>
                  intro w' hSw
                  obtain ⟨z0, z1, z2⟩ := hSw
                  go_simp
                  try with_reducible rfl
                (try simp only [Act.put, List.getElem_toArray, List.getElem_cons_succ, List.getElem_cons_zero, List.setIfInBounds_toArray, List.set_cons_zero, List.set_cons_succ])
                refine' wpAnyH_take (i := 11) (v := _) rfl (by kernel_rfl) (by kernel_rfl) (by kernel_rfl) (fun _ _ _ h => h) (Or.inl ⟨by rfl, ?hya11⟩) H0 ?resta11
                case hya11 =>
                  intro w' hSw
                  obtain ⟨z0, z1, z2⟩ := hSw
                  go_simp
                  try with_reducible rfl
                (try simp only [Act.put, List.getElem_toArray, List.getElem_cons_succ, List.getElem_cons_zero, List.setIfInBounds_toArray, List.set_cons_zero, List.set_cons_succ])
                refine' wpAnyH_take (i := 12) (v := _) rfl (by kernel_rfl) (by kernel_rfl) (by kernel_rfl) (fun _ _ _ h => h) (Or.inl ⟨by rfl, ?hya12⟩) H0 ?resta12
                case hya12 =>
                  intro w' hSw
                  obtain ⟨z0, z1, z2⟩ := hSw
                  go_simp
                  try with_reducible rfl
                (try simp only [Act.put, List.getElem_toArray, List.getElem_cons_succ, List.getElem_cons_zero, List.setIfInBounds_toArray, List.set_cons_zero, List.set_cons_succ])
                refine' wpAnyH_take (i := 13) (v := _) rfl (by kernel_rfl) (by kernel_rfl) (by kernel_rfl) (fun _ _ _ h => h) (Or.inl ⟨by rfl, ?hya13⟩) H0 ?resta13
                case hya13 =>
                  intro w' hSw
                  obtain ⟨z0, z1, z2⟩ := hSw
                  go_simp
                  try with_reducible rfl
                (try simp only [Act.put, List.getElem_toArray, List.getElem_cons_succ, List.getElem_cons_zero, List.setIfInBounds_toArray, List.set_cons_zero, List.set_cons_succ])
                refine wpAnyH_take (i := 14) (v := undef) rfl (by kernel_rfl) (by kernel_rfl) (by kernel_rfl) (fun _ _ _ h => h) (Or.inr ⟨by rfl, rfl⟩) H0 ?_
                (try simp only [Act.put, List.getElem_toArray, List.getElem_cons_succ, List.getElem_cons_zero, List.setIfInBounds_toArray, List.set_cons_zero, List.set_cons_succ])
                refine wpAnyH_take (i := 15) (v := undef) rfl (by kernel_rfl) (by kernel_rfl) (by kernel_rfl) (fun _ _ _ h => h) (Or.inr ⟨by rfl, rfl⟩) H0 ?_
                (try simp only [Act.put, List.getElem_toArray, List.getElem_cons_succ, List.getElem_cons_zero, List.setIfInBounds_toArray, List.set_cons_zero, List.set_cons_succ])
                refine wpAnyH_take (i := 16) (v := undef) rfl (by kernel_rfl) (by kernel_rfl) (by kernel_rfl) (fun _ _ _ h => h) (Or.inr ⟨by rfl, rfl⟩) H0 ?_
                (try simp only [Act.put, List.getElem_toArray, List.getElem_cons_succ, List.getElem_cons_zero, List.setIfInBounds_toArray, List.set_cons_zero, List.set_cons_succ])
                refine wpAnyH_take (i := 17) (v := undef) rfl (by kernel_rfl) (by kernel_rfl) (by kernel_rfl) (fun _ _ _ h => h) (Or.inr ⟨by rfl, rfl⟩) H0 ?_
                (try simp only [Act.put, List.getElem_toArray, List.getElem_cons_succ, List.getElem_cons_zero, List.setIfInBounds_toArray, List.set_cons_zero, List.set_cons_succ])
                refine wpAnyH_take (i := 18) (v := undef) rfl (by kernel_rfl) (by kernel_rfl) (by kernel_rfl) (fun _ _ _ h => h) (Or.inr ⟨by rfl, rfl⟩) H0 ?_
                (try simp only [Act.put, List.getElem_toArray, List.getElem_cons_succ, List.getElem_cons_zero, List.setIfInBounds_toArray, List.set_cons_zero, List.set_cons_succ])
                refine wpAnyH_take (i := 19) (v := undef) rfl (by kernel_rfl) (by kernel_rfl) (by kernel_rfl) (fun _ _ _ h => h) (Or.inr ⟨by rfl, rfl⟩) H0 ?_
                (try simp only [Act.put, List.getElem_toArray, List.getElem_cons_succ, List.getElem_cons_zero, List.setIfInBounds_toArray, List.set_cons_zero, List.set_cons_succ])
                refine wpAnyH_take (i := 20) (v := undef) rfl (by kernel_rfl) (by kernel_rfl) (by kernel_rfl) (fun _ _ _ h => h) (Or.inr ⟨by rfl, rfl⟩) H0 ?_
                (try simp only [Act.put, List.getElem_toArray, List.getElem_cons_succ, List.getElem_cons_zero, List.setIfInBounds_toArray, List.set_cons_zero, List.set_cons_succ])
                refine wpAnyH_take (i := 21) (v := undef) rfl (by kernel_rfl) (by kernel_rfl) (by kernel_rfl) (fun _ _ _ h => h) (Or.inr ⟨by rfl, rfl⟩) H0 ?_
                (try simp only [Act.put, List.getElem_toArray, List.getElem_cons_succ, List.getElem_cons_zero, List.setIfInBounds_toArray, List.set_cons_zero, List.set_cons_succ])
                refine wpAnyH_take (i := 22) (v := undef) rfl (by kernel_rfl) (by kernel_rfl) (by kernel_rfl) (fun _ _ _ h => h) (Or.inr ⟨by rfl, rfl⟩) H0 ?_
                (try simp only [Act.put, List.getElem_toArray, List.getElem_cons_succ, List.getElem_cons_zero, List.setIfInBounds_toArray, List.set_cons_zero, List.set_cons_succ])
                refine wpAnyH_take (i := 23) (v := undef) rfl (by kernel_rfl) (by kernel_rfl) (by kernel_rfl) (fun _ _ _ h => h) (Or.inr ⟨by rfl, rfl⟩) H0 ?_
                (try simp only [Act.put, List.getElem_toArray, List.getElem_cons_succ, List.getElem_cons_zero, List.setIfInBounds_toArray, List.set_cons_zero, List.set_cons_succ])
                refine wpAnyH_take (i := 24) (v := undef) rfl (by kernel_rfl) (by kernel_rfl) (by kernel_rfl) (fun _ _ _ h => h) (Or.inr ⟨by rfl, rfl⟩) H0 ?_
                (try simp only [Act.put, List.getElem_toArray, List.getElem_cons_succ, List.getElem_cons_zero, List.setIfInBounds_toArray, List.set_cons_zero, List.set_cons_succ])
                refine' wpAnyH_take (i := 25) (v := _) rfl (by kernel_rfl) (by kernel_rfl) (by kernel_rfl) (fun _ _ _ h => h) (Or.inl ⟨by rfl, ?hya25⟩) H0 ?resta25
                case hya25 =>
                  intro w' hSw
                  obtain ⟨z0, z1, z2⟩ := hSw
                  go_simp
                  try with_reducible rfl
                (try simp only [Act.put, List.getElem_toArray, List.getElem_cons_succ, List.getElem_cons_zero, List.setIfInBounds_toArray, List.set_cons_zero, List.set_cons_succ])
                refine' wpAnyH_take (i := 26) (v := _) rfl (by kernel_rfl) (by kernel_rfl) (by kernel_rfl) (fun _ _ _ h => h) (Or.inl ⟨by rfl, ?hya26⟩) H0 ?resta26
                case hya26 =>
                  intro w' hSw
                  obtain ⟨z0, z1, z2⟩ := hSw
                  go_simp
                  try with_reducible rfl
                (try simp only [Act.put, List.getElem_toArray, List.getElem_cons_succ, List.getElem_cons_zero, List.setIfInBounds_toArray, List.set_cons_zero, List.set_cons_succ])
                refine wpAnyH_ready (rs := [27]) (by kernel_rfl) (by simp) (AllReadyH.cons rfl (fun K hK => ?_) AllReadyH.nil)
                go_simp
                refine hK.out _ _ ⟨cell_put x1 (.inl (by omega)), cell_put x3 (.inl (by omega)), cell_put x4 (.inl (by omega))⟩ (fun H1 => ?_)
                clear hK K
                refine wpAnyH_done (by kernel_rfl) ?_ _
                go_wp2_with fail
                go_roundw
                case rel => exact ⟨j, by go_num, by omega, HP.out _ HV.out⟩
                case measure => simp [intOf] <;> omega
              | false =>
                cases Bq with
                | false =>
                  have HV : Hid (F i j = false) := Lib.hid (by rw [HE1.out]; rfl)
                  go_upto_region 15 with (fail)
                  refine wp_region_held_drew (S := fun w' => w'.cell? ⟨g0 + 1, i, none⟩ = some (.slice (some ⟨R, 0, none⟩) M M) ∧ w'.cell? ⟨g0 + 1, i + 1, none⟩ = some (.slice (some ⟨B, 0, none⟩) M M) ∧ w'.cell? ⟨B, j, none⟩ = some (.bool false)) (by kernel_rfl) ⟨x1, x3, x4⟩ (fun H0 => ?_)
                  refine' wpAnyH_take (i := 0) (v := _) rfl (by kernel_rfl) (by kernel_rfl) (by kernel_rfl) (fun _ _ _ h => h) (Or.inl ⟨by rfl, ?hyb0⟩) H0 ?restb0
                  case hyb0 =>
                    intro w' hSw
                    obtain ⟨z0, z1, z2⟩ := hSw
                    go_simp
                    try with_reducible rfl
                  (try simp only [Act.put, List.getElem_toArray, List.getElem_cons_zero, List.setIfInBounds_toArray, List.set_cons_zero, List.set_cons_succ])
                  refine' wpAnyH_take (i := 1) (v := _) rfl (by kernel_rfl) (by kernel_rfl) (by kernel_rfl) (fun _ _ _ h => h) (Or.inl ⟨by rfl, ?hyb1⟩) H0 ?restb1
                  case hyb1 =>
                    intro w' hSw
                    obtain ⟨z0, z1, z2⟩ := hSw
                    go_simp
                    try with_reducible rfl
                  (try simp only [Act.put, List.getElem_toArray, List.getElem_cons_succ, List.getElem_cons_zero, List.setIfInBounds_toArray, List.set_cons_zero, List.set_cons_succ])
                  refine' wpAnyH_take (i := 2) (v := _) rfl (by kernel_rfl) (by kernel_rfl) (by kernel_rfl) (fun _ _ _ h => h) (Or.inl ⟨by rfl, ?hyb2⟩) H0 ?restb2
                  case hyb2 =>
                    intro w' hSw
                    obtain ⟨z0, z1, z2⟩ := hSw
                    go_simp
                    try with_reducible rfl
                  (try simp only [Act.put, List.getElem_toArray, List.getElem_cons_succ, List.getElem_cons_zero, List.setIfInBounds_toArray, List.set_cons_zero, List.set_cons_succ])
                  refine' wpAnyH_take (i := 3) (v := _) rfl (by kernel_rfl) (by kernel_rfl) (by kernel_rfl) (fun _ _ _ h => h) (Or.inl ⟨by rfl, ?hyb3⟩) H0 ?restb3
                  case hyb3 =>
                    intro w' hSw
                    obtain ⟨z0, z1, z2⟩ := hSw
                    go_simp
                    try with_reducible rfl
                  (try simp only [Act.put, List.getElem_toArray, List.getElem_cons_succ, List.getElem_cons_zero, List.setIfInBounds_toArray, List.set_cons_zero, List.set_cons_succ])
                  refine' wpAnyH_take (i := 4) (v := _) rfl (by kernel_rfl) (by kernel_rfl) (by kernel_rfl) (fun _ _ _ h => h) (Or.inl ⟨by rfl, ?hyb4⟩) H0 ?restb4
                  case hyb4 =>
                    intro w' hSw
                    obtain ⟨z0, z1, z2⟩ := hSw
                    go_simp
                    try with_reducible rfl
                  (try simp only [Act.put, List.getElem_toArray, List.getElem_cons_succ, List.getElem_cons_zero, List.setIfInBounds_toArray, List.set_cons_zero, List.set_cons_succ])
                  refine' wpAnyH_take (i := 5) (v := _) rfl (by kernel_rfl) (by kernel_rfl) (by kernel_rfl) (fun _ _ _ h => h) (Or.inl ⟨by rfl, ?hyb5⟩) H0 ?restb5
                  case hyb5 =>
                    intro w' hSw
                    obtain ⟨z0, z1, z2⟩ := hSw
                    go_simp
                    try with_reducible rfl
                  (try simp only [Act.put, List.getElem_toArray, List.getElem_cons_succ, List.getElem_cons_zero, List.setIfInBounds_toArray, List.set_cons_zero, List.set_cons_succ])
                  refine' wpAnyH_take (i := 6) (v := _) rfl (by kernel_rfl) (by kernel_rfl) (by kernel_rfl) (fun _ _ _ h => h) (Or.inl ⟨by rfl, ?hyb6⟩) H0 ?restb6
                  case hyb6 =>
                    intro w' hSw
                    obtain ⟨z0, z1, z2⟩ := hSw
                    go_simp
                    try with_reducible rfl
                  (try simp only [Act.put, List.getElem_toArray, List.getElem_cons_succ, List.getElem_cons_zero, List.setIfInBounds_toArray, List.set_cons_zero, List.set_cons_succ])
                  refine' wpAnyH_take (i := 7) (v := _) rfl (by kernel_rfl) (by kernel_rfl) (by kernel_rfl) (fun _ _ _ h => h) (Or.inl ⟨by rfl, ?hyb7⟩) H0 ?restb7
                  case hyb7 =>
                    intro w' hSw
                    obtain ⟨z0, z1, z2⟩ := hSw
                    go_simp
                    try with_reducible rfl
                  (try simp only [Act.put, List.getElem_toArray, List.getElem_cons_succ, List.getElem_cons_zero, List.setIfInBounds_toArray, List.set_cons_zero, List.set_cons_succ])
                  refine' wpAnyH_take (i := 8) (v := _) rfl (by kernel_rfl) (by kernel_rfl) (by kernel_rfl) (fun _ _ _ h => h) (Or.inl ⟨by rfl, ?hyb8⟩) H0 ?restb8
                  case hyb8 =>
                    intro w' hSw
                    obtain ⟨z0, z1, z2⟩ := hSw
                    go_simp
                    try with_reducible rfl
                  (try simp only [Act.put, List.getElem_toArray, List.getElem_cons_succ, List.getElem_cons_zero, List.setIfInBounds_toArray, List.set_cons_zero, List.set_cons_succ])
                  refine' wpAnyH_take (i := 9) (v := _) rfl (by kernel_rfl) (by kernel_rfl) (by kernel_rfl) (fun _ _ _ h => h) (Or.inl ⟨by rfl, ?hyb9⟩) H0 ?restb9
                  case hyb9 =>
                    intro w' hSw
                    obtain ⟨z0, z1, z2⟩ := hSw
                    go_simp
                    try with_reducible rfl
                  (try simp only [Act.put, List.getElem_toArray, List.getElem_cons_succ, List.getElem_cons_zero, List.setIfInBounds_toArray, List.set_cons_zero, List.set_cons_succ])
                  refine' wpAnyH_take (i := 10) (v := _) rfl (by kernel_rfl) (by kernel_rfl) (by kernel_rfl) (fun _ _ _ h => h) (Or.inl ⟨by rfl, ?hyb10⟩) H0 ?restb10
                  case hyb10 =>
                    intro w' hSw
                    obtain ⟨z0, z1, z2⟩ := hSw
                    go_simp
                    try with_reducible rfl
                  (try simp only [Act.put, List.getElem_toArray, List.getElem_cons_succ, List.getElem_cons_zero, List.setIfInBounds_toArray, List.set_cons_zero, List.set_cons_succ])
                  refine' wpAnyH_take (i := 11) (v := _) rfl (by kernel_rfl) (by kernel_rfl) (by kernel_rfl) (fun _ _ _ h => h) (Or.inl ⟨by rfl, ?hyb11⟩) H0 ?restb11
                  case hyb11 =>
                    intro w' hSw
                    obtain ⟨z0, z1, z2⟩ := hSw
                    go_simp
                    try with_reducible rfl
                  (try simp only [Act.put, List.getElem_toArray, List.getElem_cons_succ, List.getElem_cons_zero, List.setIfInBounds_toArray, List.set_cons_zero, List.set_cons_succ])
                  refine' wpAnyH_take (i := 12) (v := _) rfl (by kernel_rfl) (by kernel_rfl) (by kernel_rfl) (fun _ _ _ h => h) (Or.inl ⟨by rfl, ?hyb12⟩) H0 ?restb12
                  case hyb12 =>
                    intro w' hSw
                    obtain ⟨z0, z1, z2⟩ := hSw
                    go_simp
                    try with_reducible rfl
                  (try simp only [Act.put, List.getElem_toArray, List.getElem_cons_succ, List.getElem_cons_zero, List.setIfInBounds_toArray, List.set_cons_zero, List.set_cons_succ])
                  refine' wpAnyH_take (i := 13) (v := _) rfl (by kernel_rfl) (by kernel_rfl) (by kernel_rfl) (fun _ _ _ h => h) (Or.inl ⟨by rfl, ?hyb13⟩) H0 ?restb13
                  case hyb13 =>
                    intro w' hSw
                    obtain ⟨z0, z1, z2⟩ := hSw
                    go_simp
                    try with_reducible rfl
                  (try simp only [Act.put, List.getElem_toArray, List.getElem_cons_succ, List.getElem_cons_zero, List.setIfInBounds_toArray, List.set_cons_zero, List.set_cons_succ])
                  refine' wpAnyH_take (i := 14) (v := _) rfl (by kernel_rfl) (by kernel_rfl) (by kernel_rfl) (fun _ _ _ h => h) (Or.inl ⟨by rfl, ?hyb14⟩) H0 ?restb14
                  case hyb14 =>
                    intro w' hSw
                    obtain ⟨z0, z1, z2⟩ := hSw
                    go_simp
                    try with_reducible rfl
                  (try simp only [Act.put, List.getElem_toArray, List.getElem_cons_succ, List.getElem_cons_zero, List.setIfInBounds_toArray, List.set_cons_zero, List.set_cons_succ])
                  refine' wpAnyH_take (i := 15) (v := _) rfl (by kernel_rfl) (by kernel_rfl) (by kernel_rfl) (fun _ _ _ h => h) (Or.inl ⟨by rfl, ?hyb15⟩) H0 ?restb15
                  case hyb15 =>
                    intro w' hSw
                    obtain ⟨z0, z1, z2⟩ := hSw
                    go_simp
                    try with_reducible rfl
                  (try simp only [Act.put, List.getElem_toArray, List.getElem_cons_succ, List.getElem_cons_zero, List.setIfInBounds_toArray, List.set_cons_zero, List.set_cons_succ])
                  refine wpAnyH_take (i := 16) (v := undef) rfl (by kernel_rfl) (by kernel_rfl) (by kernel_rfl) (fun _ _ _ h => h) (Or.inr ⟨by rfl, rfl⟩) H0 ?_
                  (try simp only [Act.put, List.getElem_toArray, List.getElem_cons_succ, List.getElem_cons_zero, List.setIfInBounds_toArray, List.set_cons_zero, List.set_cons_succ])
                  refine wpAnyH_take (i := 17) (v := undef) rfl (by kernel_rfl) (by kernel_rfl) (by kernel_rfl) (fun _ _ _ h => h) (Or.inr ⟨by rfl, rfl⟩) H0 ?_
                  (try simp only [Act.put, List.getElem_toArray, List.getElem_cons_succ, List.getElem_cons_zero, List.setIfInBounds_toArray, List.set_cons_zero, List.set_cons_succ])
                  refine wpAnyH_take (i := 18) (v := undef) rfl (by kernel_rfl) (by kernel_rfl) (by kernel_rfl) (fun _ _ _ h => h) (Or.inr ⟨by rfl, rfl⟩) H0 ?_
                  (try simp only [Act.put, List.getElem_toArray, List.getElem_cons_succ, List.getElem_cons_zero, List.setIfInBounds_toArray, List.set_cons_zero, List.set_cons_succ])
                  refine wpAnyH_take (i := 19) (v := undef) rfl (by kernel_rfl) (by kernel_rfl) (by kernel_rfl) (fun _ _ _ h => h) (Or.inr ⟨by rfl, rfl⟩) H0 ?_
                  (try simp only [Act.put, List.getElem_toArray, List.getElem_cons_succ, List.getElem_cons_zero, List.setIfInBounds_toArray, List.set_cons_zero, List.set_cons_succ])
                  refine wpAnyH_take (i := 20) (v := undef) rfl (by kernel_rfl) (by kernel_rfl) (by kernel_rfl) (fun _ _ _ h => h) (Or.inr ⟨by rfl, rfl⟩) H0 ?_
                  (try simp only [Act.put, List.getElem_toArray, List.getElem_cons_succ, List.getElem_cons_zero, List.setIfInBounds_toArray, List.set_cons_zero, List.set_cons_succ])
                  refine wpAnyH_take (i := 21) (v := undef) rfl (by kernel_rfl) (by kernel_rfl) (by kernel_rfl) (fun _ _ _ h => h) (Or.inr ⟨by rfl, rfl⟩) H0 ?_
                  (try simp only [Act.put, List.getElem_toArray, List.getElem_cons_succ, List.getElem_cons_zero, List.setIfInBounds_toArray, List.set_cons_zero, List.set_cons_succ])
                  refine wpAnyH_take (i := 22) (v := undef) rfl (by kernel_rfl) (by kernel_rfl) (by kernel_rfl) (fun _ _ _ h => h) (Or.inr ⟨by rfl, rfl⟩) H0 ?_
                  (try simp only [Act.put, List.getElem_toArray, List.getElem_cons_succ, List.getElem_cons_zero, List.setIfInBounds_toArray, List.set_cons_zero, List.set_cons_succ])
                  refine wpAnyH_take (i := 23) (v := undef) rfl (by kernel_rfl) (by kernel_rfl) (by kernel_rfl) (fun _ _ _ h => h) (Or.inr ⟨by rfl, rfl⟩) H0 ?_
                  (try simp only [Act.put, List.getElem_toArray, List.getElem_cons_succ, List.getElem_cons_zero, List.setIfInBounds_toArray, List.set_cons_zero, List.set_cons_succ])
                  refine' wpAnyH_take (i := 24) (v := _) rfl (by kernel_rfl) (by kernel_rfl) (by kernel_rfl) (fun _ _ _ h => h) (Or.inl ⟨by rfl, ?hyb24⟩) H0 ?restb24
                  case hyb24 =>
                    intro w' hSw
                    obtain ⟨z0, z1, z2⟩ := hSw
                    go_simp
                    try with_reducible rfl
                  (try simp only [Act.put, List.getElem_toArray, List.getElem_cons_succ, List.getElem_cons_zero, List.setIfInBounds_toArray, List.set_cons_zero, List.set_cons_succ])
                  refine' wpAnyH_take (i := 25) (v := _) rfl (by kernel_rfl) (by kernel_rfl) (by kernel_rfl) (fun _ _ _ h => h) (Or.inl ⟨by rfl, ?hyb25⟩) H0 ?restb25
                  case hyb25 =>
                    intro w' hSw
                    obtain ⟨z0, z1, z2⟩ := hSw
                    go_simp
                    try with_reducible rfl
                  (try simp only [Act.put, List.getElem_toArray, List.getElem_cons_succ, List.getElem_cons_zero, List.setIfInBounds_toArray, List.set_cons_zero, List.set_cons_succ])
                  refine' wpAnyH_take (i := 26) (v := _) rfl (by kernel_rfl) (by kernel_rfl) (by kernel_rfl) (fun _ _ _ h => h) (Or.inl ⟨by rfl, ?hyb26⟩) H0 ?restb26
                  case hyb26 =>
                    intro w' hSw
                    obtain ⟨z0, z1, z2⟩ := hSw
                    go_simp
                    try with_reducible rfl
                  (try simp only [Act.put, List.getElem_toArray, List.getElem_cons_succ, List.getElem_cons_zero, List.setIfInBounds_toArray, List.set_cons_zero, List.set_cons_succ])
                  refine wpAnyH_ready (rs := [27]) (by kernel_rfl) (by simp) (AllReadyH.cons rfl (fun K hK => ?_) AllReadyH.nil)
                  go_simp
                  refine hK.out _ _ ⟨cell_put x1 (.inl (by omega)), cell_put x3 (.inl (by omega)), cell_put x4 (.inl (by omega))⟩ (fun H1 => ?_)
                  clear hK K
                  refine wpAnyH_done (by kernel_rfl) ?_ _
                  go_wp2_with fail
                  go_roundw
                  case rel => exact ⟨j, by go_num, by omega, HP.out _ HV.out⟩
                  case measure => simp [intOf] <;> omega
                | true =>
                  have hj := HJ.out rfl
                  have x5 := HX5.out hj
                  have hjM1 : (j : Int) + 1 < M := by have := HM.out; omega
                  have hjM2 : j + 1 < M := by have := HM.out; omega
                  obtain ⟨f2, hf2⟩ : ∃ b, F i (j + 1) = b := ⟨_, rfl⟩
                  rw [hf2] at x5 HE1
                  clear hf2
                  have HV : Hid (F i j = f2) := Lib.hid (by rw [HE1.out]; cases f2 <;> rfl)
                  go_upto_region 15 with (fail)
                  refine wp_region_held_drew (S := fun w' => w'.cell? ⟨g0 + 1, i, none⟩ = some (.slice (some ⟨R, 0, none⟩) M M) ∧ w'.cell? ⟨g0 + 1, i + 1, none⟩ = some (.slice (some ⟨B, 0, none⟩) M M) ∧ w'.cell? ⟨B, j, none⟩ = some (.bool false) ∧ w'.cell? ⟨R, j + 1, none⟩ = some (.bool f2)) (by kernel_rfl) ⟨x1, x3, x4, x5⟩ (fun H0 => ?_)
                  refine' wpAnyH_take (i := 0) (v := _) rfl (by kernel_rfl) (by kernel_rfl) (by kernel_rfl) (fun _ _ _ h => h) (Or.inl ⟨by rfl, ?hyc0⟩) H0 ?restc0
                  case hyc0 =>
                    intro w' hSw
                    obtain ⟨z0, z1, z2, z3⟩ := hSw
                    go_simp
                    try with_reducible rfl
                  (try simp only [Act.put, List.getElem_toArray, List.getElem_cons_zero, List.setIfInBounds_toArray, List.set_cons_zero, List.set_cons_succ])
                  refine' wpAnyH_take (i := 1) (v := _) rfl (by kernel_rfl) (by kernel_rfl) (by kernel_rfl) (fun _ _ _ h => h) (Or.inl ⟨by rfl, ?hyc1⟩) H0 ?restc1
                  case hyc1 =>
                    intro w' hSw
                    obtain ⟨z0, z1, z2, z3⟩ := hSw
                    go_simp
                    try with_reducible rfl
                  (try simp only [Act.put, List.getElem_toArray, List.getElem_cons_succ, List.getElem_cons_zero, List.setIfInBounds_toArray, List.set_cons_zero, List.set_cons_succ])
                  refine' wpAnyH_take (i := 2) (v := _) rfl (by kernel_rfl) (by kernel_rfl) (by kernel_rfl) (fun _ _ _ h => h) (Or.inl ⟨by rfl, ?hyc2⟩) H0 ?restc2
                  case hyc2 =>
                    intro w' hSw
                    obtain ⟨z0, z1, z2, z3⟩ := hSw
                    go_simp
                    try with_reducible rfl
                  (try simp only [Act.put, List.getElem_toArray, List.getElem_cons_succ, List.getElem_cons_zero, List.setIfInBounds_toArray, List.set_cons_zero, List.set_cons_succ])
                  refine' wpAnyH_take (i := 3) (v := _) rfl (by kernel_rfl) (by kernel_rfl) (by kernel_rfl) (fun _ _ _ h => h) (Or.inl ⟨by rfl, ?hyc3⟩) H0 ?restc3
                  case hyc3 =>
                    intro w' hSw
                    obtain ⟨z0, z1, z2, z3⟩ := hSw
                    go_simp
                    try with_reducible rfl
                  (try simp only [Act.put, List.getElem_toArray, List.getElem_cons_succ, List.getElem_cons_zero, List.setIfInBounds_toArray, List.set_cons_zero, List.set_cons_succ])
                  refine' wpAnyH_take (i := 4) (v := _) rfl (by kernel_rfl) (by kernel_rfl) (by kernel_rfl) (fun _ _ _ h => h) (Or.inl ⟨by rfl, ?hyc4⟩) H0 ?restc4
                  case hyc4 =>
                    intro w' hSw
                    obtain ⟨z0, z1, z2, z3⟩ := hSw
                    go_simp
                    try with_reducible rfl
                  (try simp only [Act.put, List.getElem_toArray, List.getElem_cons_succ, List.getElem_cons_zero, List.setIfInBounds_toArray, List.set_cons_zero, List.set_cons_succ])
                  refine' wpAnyH_take (i := 5) (v := _) rfl (by kernel_rfl) (by kernel_rfl) (by kernel_rfl) (fun _ _ _ h => h) (Or.inl ⟨by rfl, ?hyc5⟩) H0 ?restc5
                  case hyc5 =>
                    intro w' hSw
                    obtain ⟨z0, z1, z2, z3⟩ := hSw
                    go_simp
                    try with_reducible rfl
                  (try simp only [Act.put, List.getElem_toArray, List.getElem_cons_succ, List.getElem_cons_zero, List.setIfInBounds_toArray, List.set_cons_zero, List.set_cons_succ])
                  refine' wpAnyH_take (i := 6) (v := _) rfl (by kernel_rfl) (by kernel_rfl) (by kernel_rfl) (fun _ _ _ h => h) (Or.inl ⟨by rfl, ?hyc6⟩) H0 ?restc6
                  case hyc6 =>
                    intro w' hSw
                    obtain ⟨z0, z1, z2, z3⟩ := hSw
                    go_simp
                    try with_reducible rfl
                  (try simp only [Act.put, List.getElem_toArray, List.getElem_cons_succ, List.getElem_cons_zero, List.setIfInBounds_toArray, List.set_cons_zero, List.set_cons_succ])
                  refine' wpAnyH_take (i := 7) (v := _) rfl (by kernel_rfl) (by kernel_rfl) (by kernel_rfl) (fun _ _ _ h => h) (Or.inl ⟨by rfl, ?hyc7⟩) H0 ?restc7
                  case hyc7 =>
                    intro w' hSw
                    obtain ⟨z0, z1, z2, z3⟩ := hSw
                    go_simp
                    try with_reducible rfl
                  (try simp only [Act.put, List.getElem_toArray, List.getElem_cons_succ, List.getElem_cons_zero, List.setIfInBounds_toArray, List.set_cons_zero, List.set_cons_succ])
                  refine' wpAnyH_take (i := 8) (v := _) rfl (by kernel_rfl) (by kernel_rfl) (by kernel_rfl) (fun _ _ _ h => h) (Or.inl ⟨by rfl, ?hyc8⟩) H0 ?restc8
                  case hyc8 =>
                    intro w' hSw
                    obtain ⟨z0, z1, z2, z3⟩ := hSw
                    go_simp
                    try with_reducible rfl
                  (try simp only [Act.put, List.getElem_toArray, List.getElem_cons_succ, List.getElem_cons_zero, List.setIfInBounds_toArray, List.set_cons_zero, List.set_cons_succ])
                  refine' wpAnyH_take (i := 9) (v := _) rfl (by kernel_rfl) (by kernel_rfl) (by kernel_rfl) (fun _ _ _ h => h) (Or.inl ⟨by rfl, ?hyc9⟩) H0 ?restc9
                  case hyc9 =>
                    intro w' hSw
                    obtain ⟨z0, z1, z2, z3⟩ := hSw
                    go_simp
                    try with_reducible rfl
                  (try simp only [Act.put, List.getElem_toArray, List.getElem_cons_succ, List.getElem_cons_zero, List.setIfInBounds_toArray, List.set_cons_zero, List.set_cons_succ])
                  refine' wpAnyH_take (i := 10) (v := _) rfl (by kernel_rfl) (by kernel_rfl) (by kernel_rfl) (fun _ _ _ h => h) (Or.inl ⟨by rfl, ?hyc10⟩) H0 ?restc10
                  case hyc10 =>
                    intro w' hSw
                    obtain ⟨z0, z1, z2, z3⟩ := hSw
                    go_simp
                    try with_reducible rfl
                  (try simp only [Act.put, List.getElem_toArray, List.getElem_cons_succ, List.getElem_cons_zero, List.setIfInBounds_toArray, List.set_cons_zero, List.set_cons_succ])
                  refine' wpAnyH_take (i := 11) (v := _) rfl (by kernel_rfl) (by kernel_rfl) (by kernel_rfl) (fun _ _ _ h => h) (Or.inl ⟨by rfl, ?hyc11⟩) H0 ?restc11
                  case hyc11 =>
                    intro w' hSw
                    obtain ⟨z0, z1, z2, z3⟩ := hSw
                    go_simp
                    try with_reducible rfl
                  (try simp only [Act.put, List.getElem_toArray, List.getElem_cons_succ, List.getElem_cons_zero, List.setIfInBounds_toArray, List.set_cons_zero, List.set_cons_succ])
                  refine' wpAnyH_take (i := 12) (v := _) rfl (by kernel_rfl) (by kernel_rfl) (by kernel_rfl) (fun _ _ _ h => h) (Or.inl ⟨by rfl, ?hyc12⟩) H0 ?restc12
                  case hyc12 =>
                    intro w' hSw
                    obtain ⟨z0, z1, z2, z3⟩ := hSw
                    go_simp
                    try with_reducible rfl
                  (try simp only [Act.put, List.getElem_toArray, List.getElem_cons_succ, List.getElem_cons_zero, List.setIfInBounds_toArray, List.set_cons_zero, List.set_cons_succ])
                  refine' wpAnyH_take (i := 13) (v := _) rfl (by kernel_rfl) (by kernel_rfl) (by kernel_rfl) (fun _ _ _ h => h) (Or.inl ⟨by rfl, ?hyc13⟩) H0 ?restc13
                  case hyc13 =>
                    intro w' hSw
                    obtain ⟨z0, z1, z2, z3⟩ := hSw
                    go_simp
                    try with_reducible rfl
                  (try simp only [Act.put, List.getElem_toArray, List.getElem_cons_succ, List.getElem_cons_zero, List.setIfInBounds_toArray, List.set_cons_zero, List.set_cons_succ])
                  refine' wpAnyH_take (i := 14) (v := _) rfl (by kernel_rfl) (by kernel_rfl) (by kernel_rfl) (fun _ _ _ h => h) (Or.inl ⟨by rfl, ?hyc14⟩) H0 ?restc14
                  case hyc14 =>
                    intro w' hSw
                    obtain ⟨z0, z1, z2, z3⟩ := hSw
                    go_simp
                    try with_reducible rfl
                  (try simp only [Act.put, List.getElem_toArray, List.getElem_cons_succ, List.getElem_cons_zero, List.setIfInBounds_toArray, List.set_cons_zero, List.set_cons_succ])
                  refine' wpAnyH_take (i := 15) (v := _) rfl (by kernel_rfl) (by kernel_rfl) (by kernel_rfl) (fun _ _ _ h => h) (Or.inl ⟨by rfl, ?hyc15⟩) H0 ?restc15
                  case hyc15 =>
                    intro w' hSw
                    obtain ⟨z0, z1, z2, z3⟩ := hSw
                    go_simp
                    try with_reducible rfl
                  (try simp only [Act.put, List.getElem_toArray, List.getElem_cons_succ, List.getElem_cons_zero, List.setIfInBounds_toArray, List.set_cons_zero, List.set_cons_succ])
                  refine' wpAnyH_take (i := 16) (v := _) rfl (by kernel_rfl) (by kernel_rfl) (by kernel_rfl) (fun _ _ _ h => h) (Or.inl ⟨by rfl, ?hyc16⟩) H0 ?restc16
                  case hyc16 =>
                    intro w' hSw
                    obtain ⟨z0, z1, z2, z3⟩ := hSw
                    go_simp
                    try with_reducible rfl
                  (try simp only [Act.put, List.getElem_toArray, List.getElem_cons_succ, List.getElem_cons_zero, List.setIfInBounds_toArray, List.set_cons_zero, List.set_cons_succ])
                  refine' wpAnyH_take (i := 17) (v := _) rfl (by kernel_rfl) (by kernel_rfl) (by kernel_rfl) (fun _ _ _ h => h) (Or.inl ⟨by rfl, ?hyc17⟩) H0 ?restc17
                  case hyc17 =>
                    intro w' hSw
                    obtain ⟨z0, z1, z2, z3⟩ := hSw
                    go_simp
                    try with_reducible rfl
                  (try simp only [Act.put, List.getElem_toArray, List.getElem_cons_succ, List.getElem_cons_zero, List.setIfInBounds_toArray, List.set_cons_zero, List.set_cons_succ])
                  refine' wpAnyH_take (i := 18) (v := _) rfl (by kernel_rfl) (by kernel_rfl) (by kernel_rfl) (fun _ _ _ h => h) (Or.inl ⟨by rfl, ?hyc18⟩) H0 ?restc18
                  case hyc18 =>
                    intro w' hSw
                    obtain ⟨z0, z1, z2, z3⟩ := hSw
                    go_simp
                    try with_reducible rfl
                  (try simp only [Act.put, List.getElem_toArray, List.getElem_cons_succ, List.getElem_cons_zero, List.setIfInBounds_toArray, List.set_cons_zero, List.set_cons_succ])
                  refine' wpAnyH_take (i := 19) (v := _) rfl (by kernel_rfl) (by kernel_rfl) (by kernel_rfl) (fun _ _ _ h => h) (Or.inl ⟨by rfl, ?hyc19⟩) H0 ?restc19
                  case hyc19 =>
                    intro w' hSw
                    obtain ⟨z0, z1, z2, z3⟩ := hSw
                    go_simp
                    try with_reducible rfl
                  (try simp only [Act.put, List.getElem_toArray, List.getElem_cons_succ, List.getElem_cons_zero, List.setIfInBounds_toArray, List.set_cons_zero, List.set_cons_succ])
                  refine' wpAnyH_take (i := 20) (v := _) rfl (by kernel_rfl) (by kernel_rfl) (by kernel_rfl) (fun _ _ _ h => h) (Or.inl ⟨by rfl, ?hyc20⟩) H0 ?restc20
                  case hyc20 =>
                    intro w' hSw
                    obtain ⟨z0, z1, z2, z3⟩ := hSw
                    go_simp
                    try with_reducible rfl
                  (try simp only [Act.put, List.getElem_toArray, List.getElem_cons_succ, List.getElem_cons_zero, List.setIfInBounds_toArray, List.set_cons_zero, List.set_cons_succ])
                  refine' wpAnyH_take (i := 21) (v := _) rfl (by kernel_rfl) (by kernel_rfl) (by kernel_rfl) (fun _ _ _ h => h) (Or.inl ⟨by rfl, ?hyc21⟩) H0 ?restc21
                  case hyc21 =>
                    intro w' hSw
                    obtain ⟨z0, z1, z2, z3⟩ := hSw
                    go_simp
                    try with_reducible rfl
                  (try simp only [Act.put, List.getElem_toArray, List.getElem_cons_succ, List.getElem_cons_zero, List.setIfInBounds_toArray, List.set_cons_zero, List.set_cons_succ])
                  refine' wpAnyH_take (i := 22) (v := _) rfl (by kernel_rfl) (by kernel_rfl) (by kernel_rfl) (fun _ _ _ h => h) (Or.inl ⟨by rfl, ?hyc22⟩) H0 ?restc22
                  case hyc22 =>
                    intro w' hSw
                    obtain ⟨z0, z1, z2, z3⟩ := hSw
                    go_simp
                    try with_reducible rfl
                  (try simp only [Act.put, List.getElem_toArray, List.getElem_cons_succ, List.getElem_cons_zero, List.setIfInBounds_toArray, List.set_cons_zero, List.set_cons_succ])
                  refine' wpAnyH_take (i := 23) (v := _) rfl (by kernel_rfl) (by kernel_rfl) (by kernel_rfl) (fun _ _ _ h => h) (Or.inl ⟨by rfl, ?hyc23⟩) H0 ?restc23
                  case hyc23 =>
                    intro w' hSw
                    obtain ⟨z0, z1, z2, z3⟩ := hSw
                    go_simp
                    try with_reducible rfl
                  (try simp only [Act.put, List.getElem_toArray, List.getElem_cons_succ, List.getElem_cons_zero, List.setIfInBounds_toArray, List.set_cons_zero, List.set_cons_succ])
                  refine' wpAnyH_take (i := 24) (v := _) rfl (by kernel_rfl) (by kernel_rfl) (by kernel_rfl) (fun _ _ _ h => h) (Or.inl ⟨by rfl, ?hyc24⟩) H0 ?restc24
                  case hyc24 =>
                    intro w' hSw
                    obtain ⟨z0, z1, z2, z3⟩ := hSw
                    go_simp
                    try with_reducible rfl
                  (try simp only [Act.put, List.getElem_toArray, List.getElem_cons_succ, List.getElem_cons_zero, List.setIfInBounds_toArray, List.set_cons_zero, List.set_cons_succ])
                  refine' wpAnyH_take (i := 25) (v := _) rfl (by kernel_rfl) (by kernel_rfl) (by kernel_rfl) (fun _ _ _ h => h) (Or.inl ⟨by rfl, ?hyc25⟩) H0 ?restc25
                  case hyc25 =>
                    intro w' hSw
                    obtain ⟨z0, z1, z2, z3⟩ := hSw
                    go_simp
                    try with_reducible rfl
                  (try simp only [Act.put, List.getElem_toArray, List.getElem_cons_succ, List.getElem_cons_zero, List.setIfInBounds_toArray, List.set_cons_zero, List.set_cons_succ])
                  refine' wpAnyH_take (i := 26) (v := _) rfl (by kernel_rfl) (by kernel_rfl) (by kernel_rfl) (fun _ _ _ h => h) (Or.inl ⟨by rfl, ?hyc26⟩) H0 ?restc26
                  case hyc26 =>
                    intro w' hSw
                    obtain ⟨z0, z1, z2, z3⟩ := hSw
                    go_simp
                    try with_reducible rfl
                  (try simp only [Act.put, List.getElem_toArray, List.getElem_cons_succ, List.getElem_cons_zero, List.setIfInBounds_toArray, List.set_cons_zero, List.set_cons_succ])
                  refine wpAnyH_ready (rs := [27]) (by kernel_rfl) (by simp) (AllReadyH.cons rfl (fun K hK => ?_) AllReadyH.nil)
                  go_simp
                  refine hK.out _ _ ⟨cell_put x1 (.inl (by omega)), cell_put x3 (.inl (by omega)), cell_put x4 (.inl (by omega)), cell_put x5 (.inr (by omega))⟩ (fun H1 => ?_)
                  clear hK K
                  refine wpAnyH_done (by kernel_rfl) ?_ _
                  go_wp2_with fail
                  go_roundw
                  case rel => exact ⟨j, by go_num, by omega, HP.out _ HV.out⟩
                  case measure => simp [intOf] <;> omega
            | false =>
              have HE1 : Hid (F i j = (Bq && F (i + 1) (j + 1))) := Lib.hid (by rw [← HF.out, tabF_one fold els l i j x HX.out hmn (by omega), HB.out])
              have HX5 : Hid (j < s.size → wc.cell? ⟨B, j + 1, none⟩ = some (.bool (F (i + 1) (j + 1)))) := Lib.hid (fun hj => b4.cell (i := j + 1) (by omega))
              clear h0 h1 h2 h3 h4 h5 h6 h7 h8 h9 b1 b2 b3 b4 hmn hll hx5 HT5
              cases Bq with
              | false =>
                have HV : Hid (F i j = false) := Lib.hid (by rw [HE1.out]; rfl)
                go_upto_region 16 with (fail)
                refine wp_region_held_drew (S := fun w' => w'.cell? ⟨g0 + 1, i, none⟩ = some (.slice (some ⟨R, 0, none⟩) M M) ∧ w'.cell? ⟨g0 + 1, i + 1, none⟩ = some (.slice (some ⟨B, 0, none⟩) M M)) (by kernel_rfl) ⟨x1, x3⟩ (fun H0 => ?_)
                refine' wpAnyH_take (i := 0) (v := _) rfl (by kernel_rfl) (by kernel_rfl) (by kernel_rfl) (fun _ _ _ h => h) (Or.inl ⟨by rfl, ?hyd0⟩) H0 ?restd0
                case hyd0 =>
                  intro w' hSw
                  obtain ⟨z0, z1⟩ := hSw
                  go_simp
                  try with_reducible rfl
                (try simp only [Act.put, List.getElem_toArray, List.getElem_cons_zero, List.setIfInBounds_toArray, List.set_cons_zero, List.set_cons_succ])
                refine' wpAnyH_take (i := 1) (v := _) rfl (by kernel_rfl) (by kernel_rfl) (by kernel_rfl) (fun _ _ _ h => h) (Or.inl ⟨by rfl, ?hyd1⟩) H0 ?restd1
                case hyd1 =>
                  intro w' hSw
                  obtain ⟨z0, z1⟩ := hSw
                  go_simp
                  try with_reducible rfl
                (try simp only [Act.put, List.getElem_toArray, List.getElem_cons_succ, List.getElem_cons_zero, List.setIfInBounds_toArray, List.set_cons_zero, List.set_cons_succ])
                refine' wpAnyH_take (i := 2) (v := _) rfl (by kernel_rfl) (by kernel_rfl) (by kernel_rfl) (fun _ _ _ h => h) (Or.inl ⟨by rfl, ?hyd2⟩) H0 ?restd2
                case hyd2 =>
                  intro w' hSw
                  obtain ⟨z0, z1⟩ := hSw
                  go_simp
                  try with_reducible rfl
                (try simp only [Act.put, List.getElem_toArray, List.getElem_cons_succ, List.getElem_cons_zero, List.setIfInBounds_toArray, List.set_cons_zero, List.set_cons_succ])
                refine' wpAnyH_take (i := 3) (v := _) rfl (by kernel_rfl) (by kernel_rfl) (by kernel_rfl) (fun _ _ _ h => h) (Or.inl ⟨by rfl, ?hyd3⟩) H0 ?restd3
                case hyd3 =>
                  intro w' hSw
                  obtain ⟨z0, z1⟩ := hSw
                  go_simp
                  try with_reducible rfl
                (try simp only [Act.put, List.getElem_toArray, List.getElem_cons_succ, List.getElem_cons_zero, List.setIfInBounds_toArray, List.set_cons_zero, List.set_cons_succ])
                refine' wpAnyH_take (i := 4) (v := _) rfl (by kernel_rfl) (by kernel_rfl) (by kernel_rfl) (fun _ _ _ h => h) (Or.inl ⟨by rfl, ?hyd4⟩) H0 ?restd4
                case hyd4 =>
                  intro w' hSw
                  obtain ⟨z0, z1⟩ := hSw
                  go_simp
                  try with_reducible rfl
                (try simp only [Act.put, List.getElem_toArray, List.getElem_cons_succ, List.getElem_cons_zero, List.setIfInBounds_toArray, List.set_cons_zero, List.set_cons_succ])
                refine' wpAnyH_take (i := 5) (v := _) rfl (by kernel_rfl) (by kernel_rfl) (by kernel_rfl) (fun _ _ _ h => h) (Or.inl ⟨by rfl, ?hyd5⟩) H0 ?restd5
                case hyd5 =>
                  intro w' hSw
                  obtain ⟨z0, z1⟩ := hSw
                  go_simp
                  try with_reducible rfl
                (try simp only [Act.put, List.getElem_toArray, List.getElem_cons_succ, List.getElem_cons_zero, List.setIfInBounds_toArray, List.set_cons_zero, List.set_cons_succ])
                refine' wpAnyH_take (i := 6) (v := _) rfl (by kernel_rfl) (by kernel_rfl) (by kernel_rfl) (fun _ _ _ h => h) (Or.inl ⟨by rfl, ?hyd6⟩) H0 ?restd6
                case hyd6 =>
                  intro w' hSw
                  obtain ⟨z0, z1⟩ := hSw
                  go_simp
                  try with_reducible rfl
                (try simp only [Act.put, List.getElem_toArray, List.getElem_cons_succ, List.getElem_cons_zero, List.setIfInBounds_toArray, List.set_cons_zero, List.set_cons_succ])
                refine wpAnyH_take (i := 7) (v := undef) rfl (by kernel_rfl) (by kernel_rfl) (by kernel_rfl) (fun _ _ _ h => h) (Or.inr ⟨by rfl, rfl⟩) H0 ?_
                (try simp only [Act.put, List.getElem_toArray, List.getElem_cons_succ, List.getElem_cons_zero, List.setIfInBounds_toArray, List.set_cons_zero, List.set_cons_succ])
                refine wpAnyH_take (i := 8) (v := undef) rfl (by kernel_rfl) (by kernel_rfl) (by kernel_rfl) (fun _ _ _ h => h) (Or.inr ⟨by rfl, rfl⟩) H0 ?_
                (try simp only [Act.put, List.getElem_toArray, List.getElem_cons_succ, List.getElem_cons_zero, List.setIfInBounds_toArray, List.set_cons_zero, List.set_cons_succ])
                refine wpAnyH_take (i := 9) (v := undef) rfl (by kernel_rfl) (by kernel_rfl) (by kernel_rfl) (fun _ _ _ h => h) (Or.inr ⟨by rfl, rfl⟩) H0 ?_
                (try simp only [Act.put, List.getElem_toArray, List.getElem_cons_succ, List.getElem_cons_zero, List.setIfInBounds_toArray, List.set_cons_zero, List.set_cons_succ])
                refine wpAnyH_take (i := 10) (v := undef) rfl (by kernel_rfl) (by kernel_rfl) (by kernel_rfl) (fun _ _ _ h => h) (Or.inr ⟨by rfl, rfl⟩) H0 ?_
                (try simp only [Act.put, List.getElem_toArray, List.getElem_cons_succ, List.getElem_cons_zero, List.setIfInBounds_toArray, List.set_cons_zero, List.set_cons_succ])
                refine wpAnyH_take (i := 11) (v := undef) rfl (by kernel_rfl) (by kernel_rfl) (by kernel_rfl) (fun _ _ _ h => h) (Or.inr ⟨by rfl, rfl⟩) H0 ?_
                (try simp only [Act.put, List.getElem_toArray, List.getElem_cons_succ, List.getElem_cons_zero, List.setIfInBounds_toArray, List.set_cons_zero, List.set_cons_succ])
                refine wpAnyH_take (i := 12) (v := undef) rfl (by kernel_rfl) (by kernel_rfl) (by kernel_rfl) (fun _ _ _ h => h) (Or.inr ⟨by rfl, rfl⟩) H0 ?_
                (try simp only [Act.put, List.getElem_toArray, List.getElem_cons_succ, List.getElem_cons_zero, List.setIfInBounds_toArray, List.set_cons_zero, List.set_cons_succ])
                refine wpAnyH_take (i := 13) (v := undef) rfl (by kernel_rfl) (by kernel_rfl) (by kernel_rfl) (fun _ _ _ h => h) (Or.inr ⟨by rfl, rfl⟩) H0 ?_
                (try simp only [Act.put, List.getElem_toArray, List.getElem_cons_succ, List.getElem_cons_zero, List.setIfInBounds_toArray, List.set_cons_zero, List.set_cons_succ])
                refine wpAnyH_take (i := 14) (v := undef) rfl (by kernel_rfl) (by kernel_rfl) (by kernel_rfl) (fun _ _ _ h => h) (Or.inr ⟨by rfl, rfl⟩) H0 ?_
                (try simp only [Act.put, List.getElem_toArray, List.getElem_cons_succ, List.getElem_cons_zero, List.setIfInBounds_toArray, List.set_cons_zero, List.set_cons_succ])
                refine wpAnyH_take (i := 15) (v := undef) rfl (by kernel_rfl) (by kernel_rfl) (by kernel_rfl) (fun _ _ _ h => h) (Or.inr ⟨by rfl, rfl⟩) H0 ?_
                (try simp only [Act.put, List.getElem_toArray, List.getElem_cons_succ, List.getElem_cons_zero, List.setIfInBounds_toArray, List.set_cons_zero, List.set_cons_succ])
                refine' wpAnyH_take (i := 16) (v := _) rfl (by kernel_rfl) (by kernel_rfl) (by kernel_rfl) (fun _ _ _ h => h) (Or.inl ⟨by rfl, ?hyd16⟩) H0 ?restd16
                case hyd16 =>
                  intro w' hSw
                  obtain ⟨z0, z1⟩ := hSw
                  go_simp
                  try with_reducible rfl
                (try simp only [Act.put, List.getElem_toArray, List.getElem_cons_succ, List.getElem_cons_zero, List.setIfInBounds_toArray, List.set_cons_zero, List.set_cons_succ])
                refine' wpAnyH_take (i := 17) (v := _) rfl (by kernel_rfl) (by kernel_rfl) (by kernel_rfl) (fun _ _ _ h => h) (Or.inl ⟨by rfl, ?hyd17⟩) H0 ?restd17
                case hyd17 =>
                  intro w' hSw
                  obtain ⟨z0, z1⟩ := hSw
                  go_simp
                  try with_reducible rfl
                (try simp only [Act.put, List.getElem_toArray, List.getElem_cons_succ, List.getElem_cons_zero, List.setIfInBounds_toArray, List.set_cons_zero, List.set_cons_succ])
                refine wpAnyH_ready (rs := [18]) (by kernel_rfl) (by simp) (AllReadyH.cons rfl (fun K hK => ?_) AllReadyH.nil)
                go_simp
                refine hK.out _ _ ⟨cell_put x1 (.inl (by omega)), cell_put x3 (.inl (by omega))⟩ (fun H1 => ?_)
                clear hK K
                refine wpAnyH_done (by kernel_rfl) ?_ _
                go_wp2_with fail
                go_roundw
                case rel => exact ⟨j, by go_num, by omega, HP.out _ HV.out⟩
                case measure => simp [intOf] <;> omega
              | true =>
                have hj := HJ.out rfl
                have x5 := HX5.out hj
                have hjM1 : (j : Int) + 1 < M := by have := HM.out; omega
                have hjM2 : j + 1 < M := by have := HM.out; omega
                obtain ⟨f2, hf2⟩ : ∃ b, F (i + 1) (j + 1) = b := ⟨_, rfl⟩
                rw [hf2] at x5 HE1
                clear hf2
                have HV : Hid (F i j = f2) := Lib.hid (by rw [HE1.out]; cases f2 <;> rfl)
                go_upto_region 16 with (fail)
                refine wp_region_held_drew (S := fun w' => w'.cell? ⟨g0 + 1, i, none⟩ = some (.slice (some ⟨R, 0, none⟩) M M) ∧ w'.cell? ⟨g0 + 1, i + 1, none⟩ = some (.slice (some ⟨B, 0, none⟩) M M) ∧ w'.cell? ⟨B, j + 1, none⟩ = some (.bool f2)) (by kernel_rfl) ⟨x1, x3, x5⟩ (fun H0 => ?_)
                refine' wpAnyH_take (i := 0) (v := _) rfl (by kernel_rfl) (by kernel_rfl) (by kernel_rfl) (fun _ _ _ h => h) (Or.inl ⟨by rfl, ?hye0⟩) H0 ?reste0
                case hye0 =>
                  intro w' hSw
                  obtain ⟨z0, z1, z2⟩ := hSw
                  go_simp
                  try with_reducible rfl
                (try simp only [Act.put, List.getElem_toArray, List.getElem_cons_zero, List.setIfInBounds_toArray, List.set_cons_zero, List.set_cons_succ])
                refine' wpAnyH_take (i := 1) (v := _) rfl (by kernel_rfl) (by kernel_rfl) (by kernel_rfl) (fun _ _ _ h => h) (Or.inl ⟨by rfl, ?hye1⟩) H0 ?reste1
                case hye1 =>
                  intro w' hSw
                  obtain ⟨z0, z1, z2⟩ := hSw
                  go_simp
                  try with_reducible rfl
                (try simp only [Act.put, List.getElem_toArray, List.getElem_cons_succ, List.getElem_cons_zero, List.setIfInBounds_toArray, List.set_cons_zero, List.set_cons_succ])
                refine' wpAnyH_take (i := 2) (v := _) rfl (by kernel_rfl) (by kernel_rfl) (by kernel_rfl) (fun _ _ _ h => h) (Or.inl ⟨by rfl, ?hye2⟩) H0 ?reste2
                case hye2 =>
                  intro w' hSw
                  obtain ⟨z0, z1, z2⟩ := hSw
                  go_simp
                  try with_reducible rfl
                (try simp only [Act.put, List.getElem_toArray, List.getElem_cons_succ, List.getElem_cons_zero, List.setIfInBounds_toArray, List.set_cons_zero, List.set_cons_succ])
                refine' wpAnyH_take (i := 3) (v := _) rfl (by kernel_rfl) (by kernel_rfl) (by kernel_rfl) (fun _ _ _ h => h) (Or.inl ⟨by rfl, ?hye3⟩) H0 ?reste3
                case hye3 =>
                  intro w' hSw
                  obtain ⟨z0, z1, z2⟩ := hSw
                  go_simp
                  try with_reducible rfl
                (try simp only [Act.put, List.getElem_toArray, List.getElem_cons_succ, List.getElem_cons_zero, List.setIfInBounds_toArray, List.set_cons_zero, List.set_cons_succ])
                refine' wpAnyH_take (i := 4) (v := _) rfl (by kernel_rfl) (by kernel_rfl) (by kernel_rfl) (fun _ _ _ h => h) (Or.inl ⟨by rfl, ?hye4⟩) H0 ?reste4
                case hye4 =>
                  intro w' hSw
                  obtain ⟨z0, z1, z2⟩ := hSw
                  go_simp
                  try with_reducible rfl
                (try simp only [Act.put, List.getElem_toArray, List.getElem_cons_succ, List.getElem_cons_zero, List.setIfInBounds_toArray, List.set_cons_zero, List.set_cons_succ])
                refine' wpAnyH_take (i := 5) (v := _) rfl (by kernel_rfl) (by kernel_rfl) (by kernel_rfl) (fun _ _ _ h => h) (Or.inl ⟨by rfl, ?hye5⟩) H0 ?reste5
                case hye5 =>
                  intro w' hSw
                  obtain ⟨z0, z1, z2⟩ := hSw
                  go_simp
                  try with_reducible rfl
                (try simp only [Act.put, List.getElem_toArray, List.getElem_cons_succ, List.getElem_cons_zero, List.setIfInBounds_toArray, List.set_cons_zero, List.set_cons_succ])
                refine' wpAnyH_take (i := 6) (v := _) rfl (by kernel_rfl) (by kernel_rfl) (by kernel_rfl) (fun _ _ _ h => h) (Or.inl ⟨by rfl, ?hye6⟩) H0 ?reste6
                case hye6 =>
                  intro w' hSw
                  obtain ⟨z0, z1, z2⟩ := hSw
                  go_simp
                  try with_reducible rfl
                (try simp only [Act.put, List.getElem_toArray, List.getElem_cons_succ, List.getElem_cons_zero, List.setIfInBounds_toArray, List.set_cons_zero, List.set_cons_succ])
                refine' wpAnyH_take (i := 7) (v := _) rfl (by kernel_rfl) (by kernel_rfl) (by kernel_rfl) (fun _ _ _ h => h) (Or.inl ⟨by rfl, ?hye7⟩) H0 ?reste7
                case hye7 =>
                  intro w' hSw
                  obtain ⟨z0, z1, z2⟩ := hSw
                  go_simp
                  try with_reducible rfl
                (try simp only [Act.put, List.getElem_toArray, List.getElem_cons_succ, List.getElem_cons_zero, List.setIfInBounds_toArray, List.set_cons_zero, List.set_cons_succ])
                refine' wpAnyH_take (i := 8) (v := _) rfl (by kernel_rfl) (by kernel_rfl) (by kernel_rfl) (fun _ _ _ h => h) (Or.inl ⟨by rfl, ?hye8⟩) H0 ?reste8
                case hye8 =>
                  intro w' hSw
                  obtain ⟨z0, z1, z2⟩ := hSw
                  go_simp
                  try with_reducible rfl
                (try simp only [Act.put, List.getElem_toArray, List.getElem_cons_succ, List.getElem_cons_zero, List.setIfInBounds_toArray, List.set_cons_zero, List.set_cons_succ])
                refine' wpAnyH_take (i := 9) (v := _) rfl (by kernel_rfl) (by kernel_rfl) (by kernel_rfl) (fun _ _ _ h => h) (Or.inl ⟨by rfl, ?hye9⟩) H0 ?reste9
                case hye9 =>
                  intro w' hSw
                  obtain ⟨z0, z1, z2⟩ := hSw
                  go_simp
                  try with_reducible rfl
                (try simp only [Act.put, List.getElem_toArray, List.getElem_cons_succ, List.getElem_cons_zero, List.setIfInBounds_toArray, List.set_cons_zero, List.set_cons_succ])
                refine' wpAnyH_take (i := 10) (v := _) rfl (by kernel_rfl) (by kernel_rfl) (by kernel_rfl) (fun _ _ _ h => h) (Or.inl ⟨by rfl, ?hye10⟩) H0 ?reste10
                case hye10 =>
                  intro w' hSw
                  obtain ⟨z0, z1, z2⟩ := hSw
                  go_simp
                  try with_reducible rfl
                (try simp only [Act.put, List.getElem_toArray, List.getElem_cons_succ, List.getElem_cons_zero, List.setIfInBounds_toArray, List.set_cons_zero, List.set_cons_succ])
                refine' wpAnyH_take (i := 11) (v := _) rfl (by kernel_rfl) (by kernel_rfl) (by kernel_rfl) (fun _ _ _ h => h) (Or.inl ⟨by rfl, ?hye11⟩) H0 ?reste11
                case hye11 =>
                  intro w' hSw
                  obtain ⟨z0, z1, z2⟩ := hSw
                  go_simp
                  try with_reducible rfl
                (try simp only [Act.put, List.getElem_toArray, List.getElem_cons_succ, List.getElem_cons_zero, List.setIfInBounds_toArray, List.set_cons_zero, List.set_cons_succ])
                refine' wpAnyH_take (i := 12) (v := _) rfl (by kernel_rfl) (by kernel_rfl) (by kernel_rfl) (fun _ _ _ h => h) (Or.inl ⟨by rfl, ?hye12⟩) H0 ?reste12
                case hye12 =>
                  intro w' hSw
                  obtain ⟨z0, z1, z2⟩ := hSw
                  go_simp
                  try with_reducible rfl
                (try simp only [Act.put, List.getElem_toArray, List.getElem_cons_succ, List.getElem_cons_zero, List.setIfInBounds_toArray, List.set_cons_zero, List.set_cons_succ])
                refine' wpAnyH_take (i := 13) (v := _) rfl (by kernel_rfl) (by kernel_rfl) (by kernel_rfl) (fun _ _ _ h => h) (Or.inl ⟨by rfl, ?hye13⟩) H0 ?reste13
                case hye13 =>
                  intro w' hSw
                  obtain ⟨z0, z1, z2⟩ := hSw
                  go_simp
                  try with_reducible rfl
                (try simp only [Act.put, List.getElem_toArray, List.getElem_cons_succ, List.getElem_cons_zero, List.setIfInBounds_toArray, List.set_cons_zero, List.set_cons_succ])
                refine' wpAnyH_take (i := 14) (v := _) rfl (by kernel_rfl) (by kernel_rfl) (by kernel_rfl) (fun _ _ _ h => h) (Or.inl ⟨by rfl, ?hye14⟩) H0 ?reste14
                case hye14 =>
                  intro w' hSw
                  obtain ⟨z0, z1, z2⟩ := hSw
                  go_simp
                  try with_reducible rfl
                (try simp only [Act.put, List.getElem_toArray, List.getElem_cons_succ, List.getElem_cons_zero, List.setIfInBounds_toArray, List.set_cons_zero, List.set_cons_succ])
                refine' wpAnyH_take (i := 15) (v := _) rfl (by kernel_rfl) (by kernel_rfl) (by kernel_rfl) (fun _ _ _ h => h) (Or.inl ⟨by rfl, ?hye15⟩) H0 ?reste15
                case hye15 =>
                  intro w' hSw
                  obtain ⟨z0, z1, z2⟩ := hSw
                  go_simp
                  try with_reducible rfl
                (try simp only [Act.put, List.getElem_toArray, List.getElem_cons_succ, List.getElem_cons_zero, List.setIfInBounds_toArray, List.set_cons_zero, List.set_cons_succ])
                refine' wpAnyH_take (i := 16) (v := _) rfl (by kernel_rfl) (by kernel_rfl) (by kernel_rfl) (fun _ _ _ h => h) (Or.inl ⟨by rfl, ?hye16⟩) H0 ?reste16
                case hye16 =>
                  intro w' hSw
                  obtain ⟨z0, z1, z2⟩ := hSw
                  go_simp
                  try with_reducible rfl
                (try simp only [Act.put, List.getElem_toArray, List.getElem_cons_succ, List.getElem_cons_zero, List.setIfInBounds_toArray, List.set_cons_zero, List.set_cons_succ])
                refine' wpAnyH_take (i := 17) (v := _) rfl (by kernel_rfl) (by kernel_rfl) (by kernel_rfl) (fun _ _ _ h => h) (Or.inl ⟨by rfl, ?hye17⟩) H0 ?reste17
                case hye17 =>
                  intro w' hSw
                  obtain ⟨z0, z1, z2⟩ := hSw
                  go_simp
                  try with_reducible rfl
                (try simp only [Act.put, List.getElem_toArray, List.getElem_cons_succ, List.getElem_cons_zero, List.setIfInBounds_toArray, List.set_cons_zero, List.set_cons_succ])
                refine wpAnyH_ready (rs := [18]) (by kernel_rfl) (by simp) (AllReadyH.cons rfl (fun K hK => ?_) AllReadyH.nil)
                go_simp
                refine hK.out _ _ ⟨cell_put x1 (.inl (by omega)), cell_put x3 (.inl (by omega)), cell_put x5 (.inl (by omega))⟩ (fun H1 => ?_)
                clear hK K
                refine wpAnyH_done (by kernel_rfl) ?_ _
                go_wp2_with fail
                go_roundw
                case rel => exact ⟨j, by go_num, by omega, HP.out _ HV.out⟩
                case measure => simp [intOf] <;> omega
end Go.Proofs.Ytnbeamggbehclaa
