/- The reference's Match, walked. No conditions beyond those that each statement types. -/
import Derived.Test.YtnbeamggbehclaaGlobRd
namespace Go.Proofs.Ytnbeamggbehclaa
open Go.RowKit

theorem seg_data (s : ByteArray) (a b : Nat) : (s.extract a b).data.toList = seg s.data.toList a b := by
  rw [ByteArray.data_extract, Array.toList_extract]
  rfl
/-- Does a part match that ends at b? -/
def fitB (fold : Bool) (els : List El) (l : List UInt8) (a b : Nat) : Bool := endOk l b && mat fold els (seg l a b)
theorem matAt_iff (fold rooted : Bool) (els : List El) (l : List UInt8) (a : Nat) : matAt fold rooted els l a = true ↔ fromOk rooted l a = true ∧ ∃ b, a ≤ b ∧ b ≤ l.length ∧ fitB fold els l a b = true := by
  unfold matAt fitB
  simp only [Bool.and_eq_true, List.any_eq_true, List.mem_range, decide_eq_true_eq]
  constructor
  · rintro ⟨h, b, hb, hab, he, hm⟩; exact ⟨h, b, hab, by omega, he, hm⟩
  · rintro ⟨h, b, hab, hb, he, hm⟩; exact ⟨h, b, by omega, hab, he, hm⟩
theorem matchP_yes {fold rooted : Bool} {els : List El} {l : List UInt8} {a b : Nat} (hl : l.length ≤ 160) (hab : a ≤ b) (hb : b ≤ l.length) (hf : fromOk rooted l a = true) (hm : fitB fold els l a b = true) : matchP fold rooted els l = true := by
  unfold fitB at hm
  simp only [Bool.and_eq_true] at hm
  exact (matchP_iff ..).2 ⟨hl, a, b, hab, hb, hf, hm.1, hm.2⟩
theorem matchP_no {fold rooted : Bool} {els : List El} {l : List UInt8} (h : ∀ a, a ≤ l.length → matAt fold rooted els l a = false) : matchP fold rooted els l = false := by
  unfold matchP
  rw [Bool.and_eq_false_iff]
  right
  rw [List.any_eq_false]
  intro a ha
  rw [h a (by have := List.mem_range.1 ha; omega)]
  simp

set_option maxRecDepth 100000 in
set_option maxHeartbeats 16000000 in
theorem ref_match (m : Mk) (root : Bool) (pa : Option Addr) (pn pc : Nat) (es : List REl) (s : ByteArray) (W : World) (hE : ElsAt 0 W pa pn pc es) (hn : pn ≤ 1000) (hes : ∀ p ∈ es, p.2.2.1 ≤ 1000000) :
    Calls Try.prog 12 #[.agg (patC m root pa pn pc), .string s] W fun e w' => e = .returned (.bool (matchP m.fold root (es.map (·.1)) s.data.toList)) ∧ Chg [] W w' := by
  by_cases hlong : 160 < s.size
  · have hM : matchP m.fold root (es.map (·.1)) s.data.toList = false := by
      unfold matchP
      rw [decide_eq_false (by show ¬ s.size ≤ 160; omega)]
      rfl
    rw [hM]
    have h' : (160 : Int) < s.size := by omega
    go_enter Try.func12, Try.ntmps12
    go_wp2_with fail
    go_ret
    exact ⟨rfl, Chg.alloc [] _ _⟩
  have hs : s.size ≤ 160 := by omega
  have h' : ¬ (160 : Int) < s.size := by omega
  clear hlong
  obtain ⟨fold, hfold⟩ : ∃ f, m.fold = f := ⟨_, rfl⟩
  obtain ⟨els, hels⟩ : ∃ els, es.map (·.1) = els := ⟨_, rfl⟩
  obtain ⟨l, hl⟩ : ∃ l, s.data.toList = l := ⟨_, rfl⟩
  obtain ⟨RES, hRES⟩ : ∃ b, matchP fold root els l = b := ⟨_, rfl⟩
  rw [hfold, hels, hl, hRES]
  have hll : l.length = s.size := by rw [← hl]; rfl
  have KW : Hid (∀ w (t : ByteArray), Chg [] W w → t.size ≤ 1000 → Calls Try.prog 30 #[.agg (patC m root pa pn pc), .string t] w fun e w' => e = .returned (.bool (mat fold els t.data.toList)) ∧ Chg [] w w') := Lib.hid (fun w t C ht => by
    have := ref_whole m root pa pn pc es t w (hE.chg C (by simp)) ht hn hes
    rwa [hfold, hels] at this)
  have HL := Lib.hid hl
  have HLL := Lib.hid hll
  have HRES := Lib.hid hRES
  have hx := heap_alloc_new W (.cells (patC m root pa pn pc) 29)
  have C1 := Chg.alloc [] W (.cells (patC m root pa pn pc) 29)
  clear hfold hels hl hRES hll hE hes
  go_enter Try.func12, Try.ntmps12
  go_upto_region 1 with (fail)
  generalize W.alloc (.cells (patC m root pa pn pc) 29) = w1 at *
  obtain ⟨g0, hg⟩ : ∃ g, W.heap.size = g := ⟨_, rfl⟩
  rw [hg] at hx ⊢
  clear hg
  have HX := Lib.hid hx
  have HC1 := Lib.hid C1
  clear hx C1
  go_wp2_with fail
  go_loopw [5] (fun v wr => ∃ k : Nat, v = .int .i64 k ∧ k ≤ s.size + 1 ∧ Hid (∀ a, a < k → matAt fold root els l a = false) ∧ Hid (Chg [] w1 wr)) (fun v _ => s.size + 1 - (intOf v).toNat)
  case atStart => exact ⟨0, rfl, by omega, Lib.hid (fun a ha => by omega), Lib.hid (Chg.refl _ _)⟩
  case round =>
    obtain ⟨a, rfl, ha, hA, hC⟩ := hrel
    by_cases hlt : a ≤ s.size
    · have hlt' : (a : Int) ≤ s.size := by omega
      have ha0 : (0 : Int) ≤ a := by omega
      obtain ⟨fo, hfo⟩ : ∃ b, fromOk root l a = b := ⟨_, rfl⟩
      have HFO := Lib.hid hfo
      have hp := (hC.out.block _ (lt_of_block HX.out) (by simp)).trans HX.out
      have c3 : wr.cell? ⟨g0, 3, none⟩ = some (.bool root) := by rw [cell_of_row _ _ _ _ _ _ hp]; rfl
      have HP := Lib.hid hp
      clear hp hfo
      go_upto_region 6 with (fail)
      go_cut [28] (fun v w' => v = .bool (!fo) ∧ wr = w')
      case first =>
        rcases Nat.eq_zero_or_pos a with hz | hz
        · subst hz
          have hV : Hid (fo = true) := Lib.hid (by rw [← HFO.out]; rfl)
          go_wp2_with fail
          go_meet
          case rel => exact ⟨by rw [hV.out]; rfl, rfl⟩
        · have hz' : (0 : Int) < a := by omega
          have hz1 : ((a : Int) == 0) = false := beq_eq_false_iff_ne.2 (by omega)
          cases root with
          | true =>
            have hV : Hid (fo = false) := Lib.hid (by rw [← HFO.out, fromOk, beq_eq_false_iff_ne.2 (by omega)]; rfl)
            go_wp2_with fail
            go_meet
            case rel => exact ⟨by rw [hV.out]; rfl, rfl⟩
          | false =>
            have ha1 : a - 1 < s.size := by omega
            have hi1 : (0 : Int) ≤ (a : Int) - 1 := by omega
            have hi2 : (a : Int) - 1 < s.size := by omega
            have hi3 : ((a : Int) - 1).toNat = a - 1 := by omega
            have hi4 : (1 : Int) ≤ a := by omega
            have hV : Hid ((!fo) = ((s[a - 1].toNat : Int) != 47)) := Lib.hid (by
              have h2 := data_get ha1
              rw [HL.out] at h2
              rw [← HFO.out, fromOk, beq_eq_false_iff_ne.2 (by omega), h2]
              simp only [Bool.false_or, Bool.not_false, Bool.true_and]
              rw [Bool.eq_iff_iff, bne_iff_ne, Bool.not_eq_true', beq_eq_false_iff_ne, Ne, Ne, Option.some.injEq, u8_eq]
              have : (47 : UInt8).toNat = 47 := rfl
              omega)
            go_wp2_with fail
            go_meet
            case rel => exact ⟨by rw [hV.out], rfl⟩
      case rest =>
      rename_i hK0
      obtain ⟨rfl, rfl⟩ := hcut
      refine hK0 _ _ ?_
      clear hK0 c3
      cases fo with
      | false =>
        have HA2 : Hid (∀ x, x < a + 1 → matAt fold root els l x = false) := Lib.hid (fun x hx => by
          by_cases h : x = a
          · rw [h, matAt, HFO.out]; rfl
          · exact hA.out x (by omega))
        go_wp2_with fail
        go_roundw
        case rel => exact ⟨a + 1, by go_num, by omega, HA2, hC⟩
        case measure => simp [intOf] <;> omega
      | true =>
        have HW : Hid (Chg [] W wr) := Lib.hid (HC1.out.trans hC.out (by simp))
        obtain ⟨wo, hwo⟩ : ∃ wo : World, wo = wr := ⟨_, rfl⟩
        go_wp2_with fail
        go_loopw [6] (fun v wq => ∃ q : Nat, v = .int .i64 q ∧ a ≤ q ∧ q ≤ s.size + 1 ∧ (Hid (∀ b, a ≤ b → b < q → fitB fold els l a b = false)) ∧ Chg [] wo wq) (fun v _ => s.size + 1 - (intOf v).toNat)
        case atStart => exact ⟨a, rfl, Nat.le_refl _, by omega, Lib.hid (fun b h1 h2 => by omega), by rw [hwo]; exact Chg.refl _ _⟩
        case round =>
          obtain ⟨q, rfl, hq1, hq2, hQ, hCq⟩ := hrel
          subst hwo
          have HCQ := Lib.hid hCq
          clear hCq
          by_cases hql : q ≤ s.size
          · have hql' : (q : Int) ≤ s.size := by omega
            have hq0 : (0 : Int) ≤ q := by omega
            have haq : (a : Int) ≤ q := by omega
            have HWQ : Hid (Chg [] W wr) := Lib.hid (HW.out.trans HCQ.out (by simp))
            have hp := (HCQ.out.block _ (lt_of_block HP.out) (by simp)).trans HP.out
            have c0 : wr.cell? ⟨g0, 0, none⟩ = some (.bool m.neg) := by rw [cell_of_row _ _ _ _ _ _ hp]; rfl
            have c1 : wr.cell? ⟨g0, 1, none⟩ = some (.bool m.fold) := by rw [cell_of_row _ _ _ _ _ _ hp]; rfl
            have c2 : wr.cell? ⟨g0, 2, none⟩ = some (.bool m.del) := by rw [cell_of_row _ _ _ _ _ _ hp]; rfl
            have c3 : wr.cell? ⟨g0, 3, none⟩ = some (.bool root) := by rw [cell_of_row _ _ _ _ _ _ hp]; rfl
            have c4 : wr.cell? ⟨g0, 4, none⟩ = some (.slice pa pn pc) := by rw [cell_of_row _ _ _ _ _ _ hp]; rfl
            clear hp
            obtain ⟨B, hB⟩ : ∃ b, mat fold els (seg l a q) = b := ⟨_, rfl⟩
            have KC := KW.out wr.drew (s.extract a q) (HWQ.out.trans (Chg.drewN [] wr 1) (by simp)) (by rw [ByteArray.size_extract]; omega)
            rw [seg_data, HL.out, hB] at KC
            have HK := Lib.hid KC
            have HB := Lib.hid hB
            clear KC hB
            have HYES : Hid (endOk l q = true → B = true → RES = true) := Lib.hid (fun h1 h2 => by
              rw [← HRES.out]
              exact matchP_yes (by have := HLL.out; omega) hq1 (by have := HLL.out; omega) HFO.out (by rw [fitB, h1, HB.out, h2]; rfl))
            have HNO : Hid (endOk l q = false ∨ B = false → Hid (∀ b, a ≤ b → b < q + 1 → fitB fold els l a b = false)) := Lib.hid (fun h => Lib.hid (fun b h1 h2 => by
              by_cases hb : b = q
              · subst hb
                rw [fitB, HB.out]
                rcases h with h | h <;> rw [h]
                · rfl
                · rw [Bool.and_false]
              · exact hQ.out b h1 (by omega)))
            rcases Nat.eq_or_lt_of_le hql with hqe | hqe
            · have hqe1 : ((q : Int) == s.size) = true := beq_iff_eq.2 (by omega)
              have HE : Hid (endOk l q = true) := Lib.hid (by rw [endOk, HLL.out, beq_iff_eq.2 hqe]; rfl)
              clear hqe
              clear c0 c1 c2 c3 c4
              obtain ⟨c0, c1, c2, c3, c4⟩ : wr.drew.cell? ⟨g0, 0, none⟩ = some (.bool m.neg) ∧ wr.drew.cell? ⟨g0, 1, none⟩ = some (.bool m.fold) ∧ wr.drew.cell? ⟨g0, 2, none⟩ = some (.bool m.del) ∧ wr.drew.cell? ⟨g0, 3, none⟩ = some (.bool root) ∧ wr.drew.cell? ⟨g0, 4, none⟩ = some (.slice pa pn pc) := by
                have hp := (HCQ.out.block _ (lt_of_block HP.out) (by simp)).trans HP.out
                refine ⟨?_, ?_, ?_, ?_, ?_⟩ <;> (show wr.cell? _ = _; rw [cell_of_row _ _ _ _ _ _ hp]; rfl)
              go_upto_region 10 with (fail)
              refine wp_region_held_drew (S := fun w' => w'.cell? ⟨g0, 0, none⟩ = some (.bool m.neg) ∧ w'.cell? ⟨g0, 1, none⟩ = some (.bool m.fold) ∧ w'.cell? ⟨g0, 2, none⟩ = some (.bool m.del) ∧ w'.cell? ⟨g0, 3, none⟩ = some (.bool root) ∧ w'.cell? ⟨g0, 4, none⟩ = some (.slice pa pn pc)) (by kernel_rfl) ⟨c0, c1, c2, c3, c4⟩ (fun H0 => ?_)
              refine' wpAnyH_take (i := 0) (v := _) rfl (by kernel_rfl) (by kernel_rfl) (by kernel_rfl) (fun _ _ _ h => h) (Or.inl ⟨by rfl, ?hyp0⟩) H0 ?restp0
              case hyp0 =>
                intro w' hSw
                obtain ⟨z0, z1, z2, z3, z4⟩ := hSw
                go_simp
                try with_reducible rfl
              (try simp only [Act.put, List.getElem_toArray, List.getElem_cons_zero, List.setIfInBounds_toArray, List.set_cons_zero, List.set_cons_succ])
              refine' wpAnyH_take (i := 1) (v := _) rfl (by kernel_rfl) (by kernel_rfl) (by kernel_rfl) (fun _ _ _ h => h) (Or.inl ⟨by rfl, ?hyp1⟩) H0 ?restp1
              case hyp1 =>
                intro w' hSw
                obtain ⟨z0, z1, z2, z3, z4⟩ := hSw
                go_simp
                try with_reducible rfl
              (try simp only [Act.put, List.getElem_toArray, List.getElem_cons_succ, List.getElem_cons_zero, List.setIfInBounds_toArray, List.set_cons_zero, List.set_cons_succ])
              refine' wpAnyH_take (i := 2) (v := _) rfl (by kernel_rfl) (by kernel_rfl) (by kernel_rfl) (fun _ _ _ h => h) (Or.inl ⟨by rfl, ?hyp2⟩) H0 ?restp2
              case hyp2 =>
                intro w' hSw
                obtain ⟨z0, z1, z2, z3, z4⟩ := hSw
                go_simp
                try with_reducible rfl
              (try simp only [Act.put, List.getElem_toArray, List.getElem_cons_succ, List.getElem_cons_zero, List.setIfInBounds_toArray, List.set_cons_zero, List.set_cons_succ])
              refine' wpAnyH_take (i := 3) (v := _) rfl (by kernel_rfl) (by kernel_rfl) (by kernel_rfl) (fun _ _ _ h => h) (Or.inl ⟨by rfl, ?hyp3⟩) H0 ?restp3
              case hyp3 =>
                intro w' hSw
                obtain ⟨z0, z1, z2, z3, z4⟩ := hSw
                go_simp
                try with_reducible rfl
              (try simp only [Act.put, List.getElem_toArray, List.getElem_cons_succ, List.getElem_cons_zero, List.setIfInBounds_toArray, List.set_cons_zero, List.set_cons_succ])
              refine' wpAnyH_take (i := 4) (v := _) rfl (by kernel_rfl) (by kernel_rfl) (by kernel_rfl) (fun _ _ _ h => h) (Or.inl ⟨by rfl, ?hyp4⟩) H0 ?restp4
              case hyp4 =>
                intro w' hSw
                obtain ⟨z0, z1, z2, z3, z4⟩ := hSw
                go_simp
                try with_reducible rfl
              (try simp only [Act.put, List.getElem_toArray, List.getElem_cons_succ, List.getElem_cons_zero, List.setIfInBounds_toArray, List.set_cons_zero, List.set_cons_succ])
              refine wpAnyH_take (i := 5) (v := undef) rfl (by kernel_rfl) (by kernel_rfl) (by kernel_rfl) (fun _ _ _ h => h) (Or.inr ⟨by rfl, rfl⟩) H0 ?_
              (try simp only [Act.put, List.getElem_toArray, List.getElem_cons_succ, List.getElem_cons_zero, List.setIfInBounds_toArray, List.set_cons_zero, List.set_cons_succ])
              refine wpAnyH_take (i := 6) (v := undef) rfl (by kernel_rfl) (by kernel_rfl) (by kernel_rfl) (fun _ _ _ h => h) (Or.inr ⟨by rfl, rfl⟩) H0 ?_
              (try simp only [Act.put, List.getElem_toArray, List.getElem_cons_succ, List.getElem_cons_zero, List.setIfInBounds_toArray, List.set_cons_zero, List.set_cons_succ])
              refine wpAnyH_take (i := 7) (v := undef) rfl (by kernel_rfl) (by kernel_rfl) (by kernel_rfl) (fun _ _ _ h => h) (Or.inr ⟨by rfl, rfl⟩) H0 ?_
              (try simp only [Act.put, List.getElem_toArray, List.getElem_cons_succ, List.getElem_cons_zero, List.setIfInBounds_toArray, List.set_cons_zero, List.set_cons_succ])
              refine wpAnyH_take (i := 8) (v := undef) rfl (by kernel_rfl) (by kernel_rfl) (by kernel_rfl) (fun _ _ _ h => h) (Or.inr ⟨by rfl, rfl⟩) H0 ?_
              (try simp only [Act.put, List.getElem_toArray, List.getElem_cons_succ, List.getElem_cons_zero, List.setIfInBounds_toArray, List.set_cons_zero, List.set_cons_succ])
              refine' wpAnyH_take (i := 9) (v := _) rfl (by kernel_rfl) (by kernel_rfl) (by kernel_rfl) (fun _ _ _ h => h) (Or.inl ⟨by rfl, ?hyp9⟩) H0 ?restp9
              case hyp9 =>
                intro w' hSw
                obtain ⟨z0, z1, z2, z3, z4⟩ := hSw
                go_simp
                try with_reducible rfl
              (try simp only [Act.put, List.getElem_toArray, List.getElem_cons_succ, List.getElem_cons_zero, List.setIfInBounds_toArray, List.set_cons_zero, List.set_cons_succ])
              refine' wpAnyH_take (i := 10) (v := _) rfl (by kernel_rfl) (by kernel_rfl) (by kernel_rfl) (fun _ _ _ h => h) (Or.inl ⟨by rfl, ?hyp10⟩) H0 ?restp10
              case hyp10 =>
                intro w' hSw
                obtain ⟨z0, z1, z2, z3, z4⟩ := hSw
                go_simp
                try with_reducible rfl
              (try simp only [Act.put, List.getElem_toArray, List.getElem_cons_succ, List.getElem_cons_zero, List.setIfInBounds_toArray, List.set_cons_zero, List.set_cons_succ])
              refine' wpAnyH_take (i := 11) (v := _) rfl (by kernel_rfl) (by kernel_rfl) (by kernel_rfl) (fun _ _ _ h => h) (Or.inl ⟨by rfl, ?hyp11⟩) H0 ?restp11
              case hyp11 =>
                intro w' hSw
                obtain ⟨z0, z1, z2, z3, z4⟩ := hSw
                go_simp
                try with_reducible rfl
              (try simp only [Act.put, List.getElem_toArray, List.getElem_cons_succ, List.getElem_cons_zero, List.setIfInBounds_toArray, List.set_cons_zero, List.set_cons_succ])
              refine' wpAnyH_take (i := 12) (v := _) rfl (by kernel_rfl) (by kernel_rfl) (by kernel_rfl) (fun _ _ _ h => h) (Or.inl ⟨by rfl, ?hyp12⟩) H0 ?restp12
              case hyp12 =>
                intro w' hSw
                obtain ⟨z0, z1, z2, z3, z4⟩ := hSw
                go_simp
                try with_reducible rfl
              (try simp only [Act.put, List.getElem_toArray, List.getElem_cons_succ, List.getElem_cons_zero, List.setIfInBounds_toArray, List.set_cons_zero, List.set_cons_succ])
              refine' wpAnyH_take (i := 13) (v := _) rfl (by kernel_rfl) (by kernel_rfl) (by kernel_rfl) (fun _ _ _ h => h) (Or.inl ⟨by rfl, ?hyp13⟩) H0 ?restp13
              case hyp13 =>
                intro w' hSw
                obtain ⟨z0, z1, z2, z3, z4⟩ := hSw
                go_simp
                try with_reducible rfl
              (try simp only [Act.put, List.getElem_toArray, List.getElem_cons_succ, List.getElem_cons_zero, List.setIfInBounds_toArray, List.set_cons_zero, List.set_cons_succ])
              refine' wpAnyH_take (i := 14) (v := _) rfl (by kernel_rfl) (by kernel_rfl) (by kernel_rfl) (fun _ _ _ h => h) (Or.inl ⟨by rfl, ?hyp14⟩) H0 ?restp14
              case hyp14 =>
                intro w' hSw
                obtain ⟨z0, z1, z2, z3, z4⟩ := hSw
                go_simp
                try with_reducible rfl
              (try simp only [Act.put, List.getElem_toArray, List.getElem_cons_succ, List.getElem_cons_zero, List.setIfInBounds_toArray, List.set_cons_zero, List.set_cons_succ])
              refine' wpAnyH_take (i := 15) (v := _) rfl (by kernel_rfl) (by kernel_rfl) (by kernel_rfl) (fun _ _ _ h => h) (Or.inl ⟨by rfl, ?hyp15⟩) H0 ?restp15
              case hyp15 =>
                intro w' hSw
                obtain ⟨z0, z1, z2, z3, z4⟩ := hSw
                go_simp
                try with_reducible rfl
              (try simp only [Act.put, List.getElem_toArray, List.getElem_cons_succ, List.getElem_cons_zero, List.setIfInBounds_toArray, List.set_cons_zero, List.set_cons_succ])
              refine wpAnyH_ready (rs := [16]) (by kernel_rfl) (by simp) (AllReadyH.cons rfl (fun K hK => ?_) AllReadyH.nil)
              go_simp
              refine (HK.out).mono ?_
              rintro e w3 ⟨rfl, C3⟩
              go_simp
              refine hK.out _ _ (⟨C3.cell_some c0 (by simp), C3.cell_some c1 (by simp), C3.cell_some c2 (by simp), C3.cell_some c3 (by simp), C3.cell_some c4 (by simp)⟩) (fun H1 => ?_)
              clear hK K
              refine' wpAnyH_take (i := 17) (v := _) rfl (by kernel_rfl) (by kernel_rfl) (by kernel_rfl) (fun _ _ _ h => h) (Or.inl ⟨by rfl, ?hyp17⟩) H1 ?restp17
              case hyp17 =>
                intro w' hSw
                obtain ⟨z0, z1, z2, z3, z4⟩ := hSw
                go_simp
                try with_reducible rfl
              (try simp only [Act.put, List.getElem_toArray, List.getElem_cons_succ, List.getElem_cons_zero, List.setIfInBounds_toArray, List.set_cons_zero, List.set_cons_succ])
              refine wpAnyH_done (by kernel_rfl) ?_ _
              have HC3 := Lib.hid ((HCQ.out.trans (Chg.drewN [] wr 1) (by simp)).trans C3 (by simp))
              have HW3 := Lib.hid ((HWQ.out.trans (Chg.drewN [] wr 1) (by simp)).trans C3 (by simp))
              clear c0 c1 c2 c3 c4 H1 H0 C3
              cases B with
              | true =>
                have hR := HYES.out HE.out rfl
                subst hR
                go_wp2_with fail
                go_ret
                exact ⟨rfl, HW3.out⟩
              | false =>
                have HNX := HNO.out (.inr rfl)
                go_wp2_with fail
                go_roundw
                case rel => exact ⟨q + 1, by go_num, by omega, by omega, HNX, HC3.out⟩
                case measure => simp [intOf] <;> omega
            · have hqe1 : ((q : Int) == s.size) = false := beq_eq_false_iff_ne.2 (by omega)
              have hqe2 : (q : Int) < s.size := by omega
              have hde : decide ((q : Int) = s.size) = false := decide_eq_false (by omega)
              have hde2 : decide (q = s.size) = false := decide_eq_false (by omega)
              have HE : Hid (endOk l q = ((s[q].toNat : Int) == 47)) := Lib.hid (by
                have h2 := data_get hqe
                rw [HL.out] at h2
                rw [endOk, HLL.out, beq_eq_false_iff_ne.2 (by omega), h2, Bool.false_or, Bool.eq_iff_iff, beq_iff_eq, beq_iff_eq, Option.some.injEq, u8_eq]
                have : (47 : UInt8).toNat = 47 := rfl
                omega)
              by_cases h47 : ((s[q].toNat : Int) == 47) = true
              · have HE := Lib.hid (HE.out.trans h47)
                clear c0 c1 c2 c3 c4
                obtain ⟨c0, c1, c2, c3, c4⟩ : wr.drew.cell? ⟨g0, 0, none⟩ = some (.bool m.neg) ∧ wr.drew.cell? ⟨g0, 1, none⟩ = some (.bool m.fold) ∧ wr.drew.cell? ⟨g0, 2, none⟩ = some (.bool m.del) ∧ wr.drew.cell? ⟨g0, 3, none⟩ = some (.bool root) ∧ wr.drew.cell? ⟨g0, 4, none⟩ = some (.slice pa pn pc) := by
                  have hp := (HCQ.out.block _ (lt_of_block HP.out) (by simp)).trans HP.out
                  refine ⟨?_, ?_, ?_, ?_, ?_⟩ <;> (show wr.cell? _ = _; rw [cell_of_row _ _ _ _ _ _ hp]; rfl)
                go_upto_region 10 with (fail)
                refine wp_region_held_drew (S := fun w' => w'.cell? ⟨g0, 0, none⟩ = some (.bool m.neg) ∧ w'.cell? ⟨g0, 1, none⟩ = some (.bool m.fold) ∧ w'.cell? ⟨g0, 2, none⟩ = some (.bool m.del) ∧ w'.cell? ⟨g0, 3, none⟩ = some (.bool root) ∧ w'.cell? ⟨g0, 4, none⟩ = some (.slice pa pn pc)) (by kernel_rfl) ⟨c0, c1, c2, c3, c4⟩ (fun H0 => ?_)
                refine' wpAnyH_take (i := 0) (v := _) rfl (by kernel_rfl) (by kernel_rfl) (by kernel_rfl) (fun _ _ _ h => h) (Or.inl ⟨by rfl, ?hyq0⟩) H0 ?restq0
                case hyq0 =>
                  intro w' hSw
                  obtain ⟨z0, z1, z2, z3, z4⟩ := hSw
                  go_simp
                  try with_reducible rfl
                (try simp only [Act.put, List.getElem_toArray, List.getElem_cons_zero, List.setIfInBounds_toArray, List.set_cons_zero, List.set_cons_succ])
                refine' wpAnyH_take (i := 1) (v := _) rfl (by kernel_rfl) (by kernel_rfl) (by kernel_rfl) (fun _ _ _ h => h) (Or.inl ⟨by rfl, ?hyq1⟩) H0 ?restq1
                case hyq1 =>
                  intro w' hSw
                  obtain ⟨z0, z1, z2, z3, z4⟩ := hSw
                  go_simp
                  try with_reducible rfl
                (try simp only [Act.put, List.getElem_toArray, List.getElem_cons_succ, List.getElem_cons_zero, List.setIfInBounds_toArray, List.set_cons_zero, List.set_cons_succ])
                refine' wpAnyH_take (i := 2) (v := _) rfl (by kernel_rfl) (by kernel_rfl) (by kernel_rfl) (fun _ _ _ h => h) (Or.inl ⟨by rfl, ?hyq2⟩) H0 ?restq2
                case hyq2 =>
                  intro w' hSw
                  obtain ⟨z0, z1, z2, z3, z4⟩ := hSw
                  go_simp
                  try with_reducible rfl
                (try simp only [Act.put, List.getElem_toArray, List.getElem_cons_succ, List.getElem_cons_zero, List.setIfInBounds_toArray, List.set_cons_zero, List.set_cons_succ])
                refine' wpAnyH_take (i := 3) (v := _) rfl (by kernel_rfl) (by kernel_rfl) (by kernel_rfl) (fun _ _ _ h => h) (Or.inl ⟨by rfl, ?hyq3⟩) H0 ?restq3
                case hyq3 =>
                  intro w' hSw
                  obtain ⟨z0, z1, z2, z3, z4⟩ := hSw
                  go_simp
                  try with_reducible rfl
                (try simp only [Act.put, List.getElem_toArray, List.getElem_cons_succ, List.getElem_cons_zero, List.setIfInBounds_toArray, List.set_cons_zero, List.set_cons_succ])
                refine' wpAnyH_take (i := 4) (v := _) rfl (by kernel_rfl) (by kernel_rfl) (by kernel_rfl) (fun _ _ _ h => h) (Or.inl ⟨by rfl, ?hyq4⟩) H0 ?restq4
                case hyq4 =>
                  intro w' hSw
                  obtain ⟨z0, z1, z2, z3, z4⟩ := hSw
                  go_simp
                  try with_reducible rfl
                (try simp only [Act.put, List.getElem_toArray, List.getElem_cons_succ, List.getElem_cons_zero, List.setIfInBounds_toArray, List.set_cons_zero, List.set_cons_succ])
                refine' wpAnyH_take (i := 5) (v := _) rfl (by kernel_rfl) (by kernel_rfl) (by kernel_rfl) (fun _ _ _ h => h) (Or.inl ⟨by rfl, ?hyq5⟩) H0 ?restq5
                case hyq5 =>
                  intro w' hSw
                  obtain ⟨z0, z1, z2, z3, z4⟩ := hSw
                  go_simp
                  try with_reducible rfl
                (try simp only [Act.put, List.getElem_toArray, List.getElem_cons_succ, List.getElem_cons_zero, List.setIfInBounds_toArray, List.set_cons_zero, List.set_cons_succ])
                refine' wpAnyH_take (i := 6) (v := _) rfl (by kernel_rfl) (by kernel_rfl) (by kernel_rfl) (fun _ _ _ h => h) (Or.inl ⟨by rfl, ?hyq6⟩) H0 ?restq6
                case hyq6 =>
                  intro w' hSw
                  obtain ⟨z0, z1, z2, z3, z4⟩ := hSw
                  go_simp
                  try with_reducible rfl
                (try simp only [Act.put, List.getElem_toArray, List.getElem_cons_succ, List.getElem_cons_zero, List.setIfInBounds_toArray, List.set_cons_zero, List.set_cons_succ])
                refine' wpAnyH_take (i := 7) (v := _) rfl (by kernel_rfl) (by kernel_rfl) (by kernel_rfl) (fun _ _ _ h => h) (Or.inl ⟨by rfl, ?hyq7⟩) H0 ?restq7
                case hyq7 =>
                  intro w' hSw
                  obtain ⟨z0, z1, z2, z3, z4⟩ := hSw
                  go_simp
                  try with_reducible rfl
                (try simp only [Act.put, List.getElem_toArray, List.getElem_cons_succ, List.getElem_cons_zero, List.setIfInBounds_toArray, List.set_cons_zero, List.set_cons_succ])
                refine' wpAnyH_take (i := 8) (v := _) rfl (by kernel_rfl) (by kernel_rfl) (by kernel_rfl) (fun _ _ _ h => h) (Or.inl ⟨by rfl, ?hyq8⟩) H0 ?restq8
                case hyq8 =>
                  intro w' hSw
                  obtain ⟨z0, z1, z2, z3, z4⟩ := hSw
                  go_simp
                  try with_reducible rfl
                (try simp only [Act.put, List.getElem_toArray, List.getElem_cons_succ, List.getElem_cons_zero, List.setIfInBounds_toArray, List.set_cons_zero, List.set_cons_succ])
                refine' wpAnyH_take (i := 9) (v := _) rfl (by kernel_rfl) (by kernel_rfl) (by kernel_rfl) (fun _ _ _ h => h) (Or.inl ⟨by rfl, ?hyq9⟩) H0 ?restq9
                case hyq9 =>
                  intro w' hSw
                  obtain ⟨z0, z1, z2, z3, z4⟩ := hSw
                  go_simp
                  try with_reducible rfl
                (try simp only [Act.put, List.getElem_toArray, List.getElem_cons_succ, List.getElem_cons_zero, List.setIfInBounds_toArray, List.set_cons_zero, List.set_cons_succ])
                refine' wpAnyH_take (i := 10) (v := _) rfl (by kernel_rfl) (by kernel_rfl) (by kernel_rfl) (fun _ _ _ h => h) (Or.inl ⟨by rfl, ?hyq10⟩) H0 ?restq10
                case hyq10 =>
                  intro w' hSw
                  obtain ⟨z0, z1, z2, z3, z4⟩ := hSw
                  go_simp
                  try with_reducible rfl
                (try simp only [Act.put, List.getElem_toArray, List.getElem_cons_succ, List.getElem_cons_zero, List.setIfInBounds_toArray, List.set_cons_zero, List.set_cons_succ])
                refine' wpAnyH_take (i := 11) (v := _) rfl (by kernel_rfl) (by kernel_rfl) (by kernel_rfl) (fun _ _ _ h => h) (Or.inl ⟨by rfl, ?hyq11⟩) H0 ?restq11
                case hyq11 =>
                  intro w' hSw
                  obtain ⟨z0, z1, z2, z3, z4⟩ := hSw
                  go_simp
                  try with_reducible rfl
                (try simp only [Act.put, List.getElem_toArray, List.getElem_cons_succ, List.getElem_cons_zero, List.setIfInBounds_toArray, List.set_cons_zero, List.set_cons_succ])
                refine' wpAnyH_take (i := 12) (v := _) rfl (by kernel_rfl) (by kernel_rfl) (by kernel_rfl) (fun _ _ _ h => h) (Or.inl ⟨by rfl, ?hyq12⟩) H0 ?restq12
                case hyq12 =>
                  intro w' hSw
                  obtain ⟨z0, z1, z2, z3, z4⟩ := hSw
                  go_simp
                  try with_reducible rfl
                (try simp only [Act.put, List.getElem_toArray, List.getElem_cons_succ, List.getElem_cons_zero, List.setIfInBounds_toArray, List.set_cons_zero, List.set_cons_succ])
                refine' wpAnyH_take (i := 13) (v := _) rfl (by kernel_rfl) (by kernel_rfl) (by kernel_rfl) (fun _ _ _ h => h) (Or.inl ⟨by rfl, ?hyq13⟩) H0 ?restq13
                case hyq13 =>
                  intro w' hSw
                  obtain ⟨z0, z1, z2, z3, z4⟩ := hSw
                  go_simp
                  try with_reducible rfl
                (try simp only [Act.put, List.getElem_toArray, List.getElem_cons_succ, List.getElem_cons_zero, List.setIfInBounds_toArray, List.set_cons_zero, List.set_cons_succ])
                refine' wpAnyH_take (i := 14) (v := _) rfl (by kernel_rfl) (by kernel_rfl) (by kernel_rfl) (fun _ _ _ h => h) (Or.inl ⟨by rfl, ?hyq14⟩) H0 ?restq14
                case hyq14 =>
                  intro w' hSw
                  obtain ⟨z0, z1, z2, z3, z4⟩ := hSw
                  go_simp
                  try with_reducible rfl
                (try simp only [Act.put, List.getElem_toArray, List.getElem_cons_succ, List.getElem_cons_zero, List.setIfInBounds_toArray, List.set_cons_zero, List.set_cons_succ])
                refine' wpAnyH_take (i := 15) (v := _) rfl (by kernel_rfl) (by kernel_rfl) (by kernel_rfl) (fun _ _ _ h => h) (Or.inl ⟨by rfl, ?hyq15⟩) H0 ?restq15
                case hyq15 =>
                  intro w' hSw
                  obtain ⟨z0, z1, z2, z3, z4⟩ := hSw
                  go_simp
                  try with_reducible rfl
                (try simp only [Act.put, List.getElem_toArray, List.getElem_cons_succ, List.getElem_cons_zero, List.setIfInBounds_toArray, List.set_cons_zero, List.set_cons_succ])
                refine wpAnyH_ready (rs := [16]) (by kernel_rfl) (by simp) (AllReadyH.cons rfl (fun K hK => ?_) AllReadyH.nil)
                go_simp
                refine (HK.out).mono ?_
                rintro e w3 ⟨rfl, C3⟩
                go_simp
                refine hK.out _ _ (⟨C3.cell_some c0 (by simp), C3.cell_some c1 (by simp), C3.cell_some c2 (by simp), C3.cell_some c3 (by simp), C3.cell_some c4 (by simp)⟩) (fun H1 => ?_)
                clear hK K
                refine' wpAnyH_take (i := 17) (v := _) rfl (by kernel_rfl) (by kernel_rfl) (by kernel_rfl) (fun _ _ _ h => h) (Or.inl ⟨by rfl, ?hyq17⟩) H1 ?restq17
                case hyq17 =>
                  intro w' hSw
                  obtain ⟨z0, z1, z2, z3, z4⟩ := hSw
                  go_simp
                  try with_reducible rfl
                (try simp only [Act.put, List.getElem_toArray, List.getElem_cons_succ, List.getElem_cons_zero, List.setIfInBounds_toArray, List.set_cons_zero, List.set_cons_succ])
                refine wpAnyH_done (by kernel_rfl) ?_ _
                have HC3 := Lib.hid ((HCQ.out.trans (Chg.drewN [] wr 1) (by simp)).trans C3 (by simp))
                have HW3 := Lib.hid ((HWQ.out.trans (Chg.drewN [] wr 1) (by simp)).trans C3 (by simp))
                clear c0 c1 c2 c3 c4 H1 H0 C3
                cases B with
                | true =>
                  have hR := HYES.out HE.out rfl
                  subst hR
                  go_wp2_with fail
                  go_ret
                  exact ⟨rfl, HW3.out⟩
                | false =>
                  have HNX := HNO.out (.inr rfl)
                  go_wp2_with fail
                  go_roundw
                  case rel => exact ⟨q + 1, by go_num, by omega, by omega, HNX, HC3.out⟩
                  case measure => simp [intOf] <;> omega
              · have h47' : ((s[q].toNat : Int) == 47) = false := by simpa using h47
                have h48 : decide ((s[q].toNat : Int) = 47) = false := decide_eq_false (by simpa using h47)
                have HNX := HNO.out (.inl (HE.out.trans h47'))
                clear h47
                go_upto_region 10 with (fail)
                go_quiet (fail)
                go_wp2_with fail
                go_roundw
                case rel => exact ⟨q + 1, by go_num, by omega, by omega, HNX, HCQ.out.trans (Chg.drewN [] _ _) (by simp)⟩
                case measure => simp [intOf] <;> omega
          · have hqe : ¬ (q : Int) ≤ s.size := by omega
            have HA2 : Hid (∀ x, x < a + 1 → matAt fold root els l x = false) := Lib.hid (fun x hx => by
              by_cases h : x = a
              · subst h
                rw [Bool.eq_false_iff]
                intro hm
                obtain ⟨_, b, h1, h2, h3⟩ := (matAt_iff ..).1 hm
                rw [hQ.out b h1 (by have := HLL.out; omega)] at h3
                cases h3
              · exact hA.out x (by omega))
            have HC2 := Lib.hid (hC.out.trans HCQ.out (by simp))
            go_wp2_with fail
            go_roundw
            case rel => exact ⟨a + 1, by go_num, by omega, HA2, HC2⟩
            case measure => simp [intOf] <;> omega
    · have hge : ¬ (a : Int) ≤ s.size := by omega
      have hR : RES = false := by
        rw [← HRES.out]
        exact matchP_no (fun x hx => hA.out x (by have := HLL.out; omega))
      subst hR
      have HC2 := Lib.hid (HC1.out.trans hC.out (by simp))
      go_wp2_with fail
      go_ret
      exact ⟨rfl, HC2.out⟩
end Go.Proofs.Ytnbeamggbehclaa
