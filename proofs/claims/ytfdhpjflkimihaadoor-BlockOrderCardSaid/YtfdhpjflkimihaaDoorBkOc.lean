/- What the law BlockOrder does: true, and it leaves what was there. No conditions beyond those that each statement types. -/
import Derived.Test.YtfdhpjflkimihaaDoorBkOb
namespace Go.Proofs.YtfdhpjflkimihaaDoor
open Go.RowKit

set_option maxRecDepth 100000 in
set_option maxHeartbeats 16000000 in
theorem block_order (ao : Option Addr) (c : Nat) (acts : List ActV) (hlm : acts.length ≤ 9223372036854775807) (hok : ∀ a ∈ acts, okAct a) (_hc0 : ao = none → c = 0) (hlc : acts.length ≤ c) (w : World) (hL : Laid w) (hs : Src w ao (avs acts)) :
    Calls Tryd.prog 9 #[.slice ao acts.length c] w (Holds w) := by
  have KW := Lib.hid (fun w' (C : Chg [] w w') => law_awake w' (hL.chg C (by simp)))
  clear _hc0
  by_cases hbig : 20 < acts.length
  · have h' : (acts.length : Int) > 20 := by omega
    clear hs hL hlm hbig hok hlc
    generalize acts.length = n at *
    go_enter Tryd.func9, Tryd.ntmps9
    go_wp2_with fail
    refine (KW.out _ (Chg.refl _ _)).mono ?_
    rintro e w1 ⟨rfl, C⟩
    go_wp2_with fail
    go_ret
    exact ⟨rfl, C⟩
  · have h' : ¬ (acts.length : Int) > 20 := by omega
    have hn20 : acts.length ≤ 20 := by omega
    have HS := Lib.hid hs
    have HOK := Lib.hid hok
    have HL := Lib.hid hL
    obtain ⟨n, hn⟩ : ∃ n, acts.length = n := ⟨_, rfl⟩
    have HN := Lib.hid hn
    rw [hn] at h' hn20 hlc ⊢
    clear hs hL hlm hbig hn hok
    go_enter Tryd.func9, Tryd.ntmps9
    go_wp2_with fail
    refine (blk_new w).mono ?_
    rintro e w1 ⟨b, S, rfl, HF0, hS, C1⟩
    have HF := Lib.hid HF0
    have HS1 := Lib.hid hS
    have HC1 := Lib.hid C1
    clear HF0 hS C1
    go_wp2_with fail
    refine (blk_new w1).mono ?_
    rintro e w2 ⟨b2, S2, rfl, HG0, hS2, C2⟩
    have HST0 : Hid (OrdSt w w2 b b2 acts 0 none 0 0) := Lib.hid ⟨S, S2, [], ⟨HF.out.chg C2 (by simp), HG0, fun k hk hm => by
      have := HF.out.ltS k hk
      have := hS2 k hm
      omega, HS1.out, fun k hk => Nat.le_trans HC1.out.size (hS2 k hk), HC1.out.trans C2 (by simp)⟩, rfl, rfl, ⟨World.ownsRow_nil _ _ _ _, fun k hk => by cases hk⟩⟩
    clear HF HS1 HC1 HG0 hS2 C2
    go_wp2_with fail
    go_loopw [5, 6] (fun v5 v6 wr => ∃ (i m c5 : Nat) (ao5 : Option Addr), v5 = .slice ao5 m c5 ∧ v6 = .int .i64 (i : Int) ∧ i ≤ n ∧ m ≤ i ∧ Hid (OrdSt w wr b b2 acts i ao5 m c5)) (fun _ v _ => n - (intOf v).toNat)
    case atStart => exact ⟨0, 0, 0, none, rfl, rfl, Nat.zero_le _, Nat.zero_le _, HST0⟩
    case round =>
      obtain ⟨i, m, c5, ao5, rfl, rfl, hi, hmi, HST⟩ := hrel
      clear HST0
      by_cases hlt : i < n
      ·
        have e1 : (i : Int) < n := Int.ofNat_lt.2 hlt
        have e0 : (0 : Int) ≤ i := Int.natCast_nonneg _
        obtain ⟨S, S2, lst, htw, hlst, hllen, how⟩ := HST.out
        have HTW0 := Lib.hid htw
        have HLST := Lib.hid hlst
        have HLLEN := Lib.hid hllen
        have HOW0 := Lib.hid how
        obtain ⟨x, hx⟩ : ∃ x, acts[i]? = some x := ⟨_, List.getElem?_eq_getElem (by rw [HN.out]; exact hlt)⟩
        obtain ⟨a, rfl, _⟩ := HS.out.lt (by
          have := flat_length (enc := fun a : ActV => a.cells.toList) (size := 4) (fun _ => rfl) acts
          have h2 := HN.out
          show 0 < (acts.flatMap fun a => a.cells.toList).length
          omega)
        have hokx := HOK.out x (List.mem_of_getElem? hx)
        obtain ⟨gone, nm, tx, LG⟩ := x
        have HX := Lib.hid hx
        have HOX := Lib.hid hokx
        have hkc : i < c := by omega
        have HCL := Lib.hid (fun (k : Nat) (y : ActV) (hy : acts[k]? = some y) (w' : World) (C : Chg [] w w') => act_cells HS.out C hy)
        have HCA := Lib.hid htw.chg
        have HFL : Hid ((filesA (acts.take i)).length ≤ 29000) := Lib.hid (by
          have h1 := lastA_len (acts.take i)
          rw [filesA_last, List.length_map]
          have h2 := List.length_take_le i acts
          omega)
        clear htw hlst hllen how hx hokx HST
        generalize wr = wA at *
        go_wp2_with fail
        go_loopw [7, 8] (fun v7 v8 wr => ∃ (j : Nat) (lb : Bool), v7 = .bool lb ∧ v8 = .int .i64 (j : Int) ∧ i + 1 ≤ j ∧ j ≤ n ∧ Hid (lb = laterA ((acts.drop (i + 1)).take (j - (i + 1))) nm) ∧ Hid (Chg [] wA wr)) (fun _ v _ => n - (intOf v).toNat)
        case atStart => exact ⟨i + 1, false, rfl, by go_num, Nat.le_refl _, hlt, Lib.hid (by rw [Nat.sub_self]; rfl), Lib.hid (Chg.refl _ _)⟩
        case round =>
          obtain ⟨j, lb, rfl, rfl, hij, hj, HLB, HC⟩ := hrel
          by_cases hjn : j < n
          · have f1 : (j : Int) < n := Int.ofNat_lt.2 hjn
            have f0 : (0 : Int) ≤ j := Int.natCast_nonneg _
            have hjc : j < c := by omega
            obtain ⟨y, hy⟩ : ∃ y, acts[j]? = some y := ⟨_, List.getElem?_eq_getElem (by rw [HN.out]; exact hjn)⟩
            obtain ⟨yg, ynm, ytx, YL⟩ := y
            have HY := Lib.hid hy
            have HYD : Hid ((acts.drop (i + 1))[j - (i + 1)]? = some ⟨yg, ynm, ytx, YL⟩) := Lib.hid (by rw [List.getElem?_drop, show i + 1 + (j - (i + 1)) = j by omega]; exact hy)
            clear hy
            cases lb with
            | true =>
              go_upto_region 14 with (fail)
              refine wp_region_held_drew (S := fun w' => Chg [] wA w') (by kernel_rfl) ((HC.out.trans (Chg.drewN [] wr 1) (by simp))) (fun H0 => ?_)
              refine' wpAnyH_take (i := 0) (v := _) rfl (by kernel_rfl) (by kernel_rfl) (by kernel_rfl) (fun _ _ _ h => h) (Or.inl ⟨by rfl, ?hyqt0⟩) H0 ?restqt0
              case hyqt0 =>
                intro w' hSw
                have s1 := hSw
                go_simp
                try with_reducible rfl
              (try simp only [Act.put, List.getElem_toArray, List.getElem_cons_zero, List.setIfInBounds_toArray, List.set_cons_zero, List.set_cons_succ])
              refine' wpAnyH_take (i := 1) (v := _) rfl (by kernel_rfl) (by kernel_rfl) (by kernel_rfl) (fun _ _ _ h => h) (Or.inl ⟨by rfl, ?hyqt1⟩) H0 ?restqt1
              case hyqt1 =>
                intro w' hSw
                have s1 := hSw
                go_simp
                try with_reducible rfl
              (try simp only [Act.put, List.getElem_toArray, List.getElem_cons_succ, List.getElem_cons_zero, List.setIfInBounds_toArray, List.set_cons_zero, List.set_cons_succ])
              refine wpAnyH_take (i := 2) (v := undef) rfl (by kernel_rfl) (by kernel_rfl) (by kernel_rfl) (fun _ _ _ h => h) (Or.inr ⟨by rfl, rfl⟩) H0 ?_
              (try simp only [Act.put, List.getElem_toArray, List.getElem_cons_succ, List.getElem_cons_zero, List.setIfInBounds_toArray, List.set_cons_zero, List.set_cons_succ])
              refine wpAnyH_take (i := 3) (v := undef) rfl (by kernel_rfl) (by kernel_rfl) (by kernel_rfl) (fun _ _ _ h => h) (Or.inr ⟨by rfl, rfl⟩) H0 ?_
              (try simp only [Act.put, List.getElem_toArray, List.getElem_cons_succ, List.getElem_cons_zero, List.setIfInBounds_toArray, List.set_cons_zero, List.set_cons_succ])
              refine wpAnyH_take (i := 4) (v := undef) rfl (by kernel_rfl) (by kernel_rfl) (by kernel_rfl) (fun _ _ _ h => h) (Or.inr ⟨by rfl, rfl⟩) H0 ?_
              (try simp only [Act.put, List.getElem_toArray, List.getElem_cons_succ, List.getElem_cons_zero, List.setIfInBounds_toArray, List.set_cons_zero, List.set_cons_succ])
              refine wpAnyH_take (i := 5) (v := undef) rfl (by kernel_rfl) (by kernel_rfl) (by kernel_rfl) (fun _ _ _ h => h) (Or.inr ⟨by rfl, rfl⟩) H0 ?_
              (try simp only [Act.put, List.getElem_toArray, List.getElem_cons_succ, List.getElem_cons_zero, List.setIfInBounds_toArray, List.set_cons_zero, List.set_cons_succ])
              refine wpAnyH_take (i := 6) (v := undef) rfl (by kernel_rfl) (by kernel_rfl) (by kernel_rfl) (fun _ _ _ h => h) (Or.inr ⟨by rfl, rfl⟩) H0 ?_
              (try simp only [Act.put, List.getElem_toArray, List.getElem_cons_succ, List.getElem_cons_zero, List.setIfInBounds_toArray, List.set_cons_zero, List.set_cons_succ])
              refine wpAnyH_take (i := 7) (v := undef) rfl (by kernel_rfl) (by kernel_rfl) (by kernel_rfl) (fun _ _ _ h => h) (Or.inr ⟨by rfl, rfl⟩) H0 ?_
              (try simp only [Act.put, List.getElem_toArray, List.getElem_cons_succ, List.getElem_cons_zero, List.setIfInBounds_toArray, List.set_cons_zero, List.set_cons_succ])
              refine wpAnyH_take (i := 8) (v := undef) rfl (by kernel_rfl) (by kernel_rfl) (by kernel_rfl) (fun _ _ _ h => h) (Or.inr ⟨by rfl, rfl⟩) H0 ?_
              (try simp only [Act.put, List.getElem_toArray, List.getElem_cons_succ, List.getElem_cons_zero, List.setIfInBounds_toArray, List.set_cons_zero, List.set_cons_succ])
              refine wpAnyH_take (i := 9) (v := undef) rfl (by kernel_rfl) (by kernel_rfl) (by kernel_rfl) (fun _ _ _ h => h) (Or.inr ⟨by rfl, rfl⟩) H0 ?_
              (try simp only [Act.put, List.getElem_toArray, List.getElem_cons_succ, List.getElem_cons_zero, List.setIfInBounds_toArray, List.set_cons_zero, List.set_cons_succ])
              refine wpAnyH_take (i := 10) (v := undef) rfl (by kernel_rfl) (by kernel_rfl) (by kernel_rfl) (fun _ _ _ h => h) (Or.inr ⟨by rfl, rfl⟩) H0 ?_
              (try simp only [Act.put, List.getElem_toArray, List.getElem_cons_succ, List.getElem_cons_zero, List.setIfInBounds_toArray, List.set_cons_zero, List.set_cons_succ])
              refine wpAnyH_take (i := 11) (v := undef) rfl (by kernel_rfl) (by kernel_rfl) (by kernel_rfl) (fun _ _ _ h => h) (Or.inr ⟨by rfl, rfl⟩) H0 ?_
              (try simp only [Act.put, List.getElem_toArray, List.getElem_cons_succ, List.getElem_cons_zero, List.setIfInBounds_toArray, List.set_cons_zero, List.set_cons_succ])
              refine wpAnyH_take (i := 12) (v := undef) rfl (by kernel_rfl) (by kernel_rfl) (by kernel_rfl) (fun _ _ _ h => h) (Or.inr ⟨by rfl, rfl⟩) H0 ?_
              (try simp only [Act.put, List.getElem_toArray, List.getElem_cons_succ, List.getElem_cons_zero, List.setIfInBounds_toArray, List.set_cons_zero, List.set_cons_succ])
              refine wpAnyH_take (i := 13) (v := undef) rfl (by kernel_rfl) (by kernel_rfl) (by kernel_rfl) (fun _ _ _ h => h) (Or.inr ⟨by rfl, rfl⟩) H0 ?_
              (try simp only [Act.put, List.getElem_toArray, List.getElem_cons_succ, List.getElem_cons_zero, List.setIfInBounds_toArray, List.set_cons_zero, List.set_cons_succ])
              refine wpAnyH_take (i := 14) (v := undef) rfl (by kernel_rfl) (by kernel_rfl) (by kernel_rfl) (fun _ _ _ h => h) (Or.inr ⟨by rfl, rfl⟩) H0 ?_
              (try simp only [Act.put, List.getElem_toArray, List.getElem_cons_succ, List.getElem_cons_zero, List.setIfInBounds_toArray, List.set_cons_zero, List.set_cons_succ])
              refine wpAnyH_take (i := 15) (v := undef) rfl (by kernel_rfl) (by kernel_rfl) (by kernel_rfl) (fun _ _ _ h => h) (Or.inr ⟨by rfl, rfl⟩) H0 ?_
              (try simp only [Act.put, List.getElem_toArray, List.getElem_cons_succ, List.getElem_cons_zero, List.setIfInBounds_toArray, List.set_cons_zero, List.set_cons_succ])
              refine wpAnyH_take (i := 16) (v := undef) rfl (by kernel_rfl) (by kernel_rfl) (by kernel_rfl) (fun _ _ _ h => h) (Or.inr ⟨by rfl, rfl⟩) H0 ?_
              (try simp only [Act.put, List.getElem_toArray, List.getElem_cons_succ, List.getElem_cons_zero, List.setIfInBounds_toArray, List.set_cons_zero, List.set_cons_succ])
              refine wpAnyH_take (i := 17) (v := undef) rfl (by kernel_rfl) (by kernel_rfl) (by kernel_rfl) (fun _ _ _ h => h) (Or.inr ⟨by rfl, rfl⟩) H0 ?_
              (try simp only [Act.put, List.getElem_toArray, List.getElem_cons_succ, List.getElem_cons_zero, List.setIfInBounds_toArray, List.set_cons_zero, List.set_cons_succ])
              refine wpAnyH_take (i := 18) (v := undef) rfl (by kernel_rfl) (by kernel_rfl) (by kernel_rfl) (fun _ _ _ h => h) (Or.inr ⟨by rfl, rfl⟩) H0 ?_
              (try simp only [Act.put, List.getElem_toArray, List.getElem_cons_succ, List.getElem_cons_zero, List.setIfInBounds_toArray, List.set_cons_zero, List.set_cons_succ])
              refine wpAnyH_take (i := 19) (v := undef) rfl (by kernel_rfl) (by kernel_rfl) (by kernel_rfl) (fun _ _ _ h => h) (Or.inr ⟨by rfl, rfl⟩) H0 ?_
              (try simp only [Act.put, List.getElem_toArray, List.getElem_cons_succ, List.getElem_cons_zero, List.setIfInBounds_toArray, List.set_cons_zero, List.set_cons_succ])
              refine wpAnyH_take (i := 20) (v := undef) rfl (by kernel_rfl) (by kernel_rfl) (by kernel_rfl) (fun _ _ _ h => h) (Or.inr ⟨by rfl, rfl⟩) H0 ?_
              (try simp only [Act.put, List.getElem_toArray, List.getElem_cons_succ, List.getElem_cons_zero, List.setIfInBounds_toArray, List.set_cons_zero, List.set_cons_succ])
              refine' wpAnyH_take (i := 21) (v := _) rfl (by kernel_rfl) (by kernel_rfl) (by kernel_rfl) (fun _ _ _ h => h) (Or.inl ⟨by rfl, ?hyqt21⟩) H0 ?restqt21
              case hyqt21 =>
                intro w' hSw
                have s1 := hSw
                go_simp
                try with_reducible rfl
              (try simp only [Act.put, List.getElem_toArray, List.getElem_cons_succ, List.getElem_cons_zero, List.setIfInBounds_toArray, List.set_cons_zero, List.set_cons_succ])
              refine' wpAnyH_take (i := 22) (v := _) rfl (by kernel_rfl) (by kernel_rfl) (by kernel_rfl) (fun _ _ _ h => h) (Or.inl ⟨by rfl, ?hyqt22⟩) H0 ?restqt22
              case hyqt22 =>
                intro w' hSw
                have s1 := hSw
                go_simp
                try with_reducible rfl
              (try simp only [Act.put, List.getElem_toArray, List.getElem_cons_succ, List.getElem_cons_zero, List.setIfInBounds_toArray, List.set_cons_zero, List.set_cons_succ])
              refine wpAnyH_done (by kernel_rfl) ?_ _
              have HL2 : Hid (true = laterA ((acts.drop (i + 1)).take (j + 1 - (i + 1))) nm) := Lib.hid (by
                rw [show j + 1 - (i + 1) = j - (i + 1) + 1 by omega, laterA_step (HYD.out) nm, ← HLB.out]
                rfl)
              have HC2 : Hid (Chg [] wA (wr.drew)) := Lib.hid (HC.out.trans (Chg.drewN [] wr 1) (by simp))
              clear H0 HLB HC
              go_wp2_with fail
              go_roundw
              case rel => exact ⟨j + 1, _, rfl, by go_num, by omega, hjn, HL2, HC2⟩
              case measure => simp [intOf] <;> omega
            | false =>
              by_cases hq : ynm = nm
              · have hq2 : (ynm.toList == nm.toList) = true := by rw [hq]; simp
                obtain ⟨sh, hsh⟩ : ∃ sh, decide (YL ≤ 4096) = sh := ⟨_, rfl⟩
                have HSH : Hid (sh = (decide (ynm = nm) && decide (YL ≤ 4096))) := Lib.hid (by rw [← hsh, decide_eq_true hq, Bool.true_and])
                clear hq
                go_upto_region 14 with (fail)
                refine wp_region_held_drew (S := fun w' => Chg [] wA w') (by kernel_rfl) ((HC.out.trans (Chg.drewN [] wr 1) (by simp))) (fun H0 => ?_)
                refine' wpAnyH_take (i := 0) (v := _) rfl (by kernel_rfl) (by kernel_rfl) (by kernel_rfl) (fun _ _ _ h => h) (Or.inl ⟨by rfl, ?hyqe0⟩) H0 ?restqe0
                case hyqe0 =>
                  intro w' hSw
                  have s1 := hSw
                  go_simp
                  try with_reducible rfl
                (try simp only [Act.put, List.getElem_toArray, List.getElem_cons_zero, List.setIfInBounds_toArray, List.set_cons_zero, List.set_cons_succ])
                refine' wpAnyH_take (i := 1) (v := _) rfl (by kernel_rfl) (by kernel_rfl) (by kernel_rfl) (fun _ _ _ h => h) (Or.inl ⟨by rfl, ?hyqe1⟩) H0 ?restqe1
                case hyqe1 =>
                  intro w' hSw
                  have s1 := hSw
                  go_simp
                  try with_reducible rfl
                (try simp only [Act.put, List.getElem_toArray, List.getElem_cons_succ, List.getElem_cons_zero, List.setIfInBounds_toArray, List.set_cons_zero, List.set_cons_succ])
                refine' wpAnyH_take (i := 2) (v := _) rfl (by kernel_rfl) (by kernel_rfl) (by kernel_rfl) (fun _ _ _ h => h) (Or.inl ⟨by rfl, ?hyqe2⟩) H0 ?restqe2
                case hyqe2 =>
                  intro w' hSw
                  have s1 := hSw
                  go_simp
                  try with_reducible rfl
                (try simp only [Act.put, List.getElem_toArray, List.getElem_cons_succ, List.getElem_cons_zero, List.setIfInBounds_toArray, List.set_cons_zero, List.set_cons_succ])
                refine' wpAnyH_take (i := 3) (v := _) rfl (by kernel_rfl) (by kernel_rfl) (by kernel_rfl) (fun _ _ _ h => h) (Or.inl ⟨by rfl, ?hyqe3⟩) H0 ?restqe3
                case hyqe3 =>
                  intro w' hSw
                  have s1 := hSw
                  go_simp
                  try with_reducible rfl
                (try simp only [Act.put, List.getElem_toArray, List.getElem_cons_succ, List.getElem_cons_zero, List.setIfInBounds_toArray, List.set_cons_zero, List.set_cons_succ])
                refine' wpAnyH_take (i := 4) (v := _) rfl (by kernel_rfl) (by kernel_rfl) (by kernel_rfl) (fun _ _ _ h => h) (Or.inl ⟨by rfl, ?hyqe4⟩) H0 ?restqe4
                case hyqe4 =>
                  intro w' hSw
                  have s1 := hSw
                  go_simp
                  try with_reducible rfl
                (try simp only [Act.put, List.getElem_toArray, List.getElem_cons_succ, List.getElem_cons_zero, List.setIfInBounds_toArray, List.set_cons_zero, List.set_cons_succ])
                refine' wpAnyH_take (i := 5) (v := _) rfl (by kernel_rfl) (by kernel_rfl) (by kernel_rfl) (fun _ _ _ h => h) (Or.inl ⟨by rfl, ?hyqe5⟩) H0 ?restqe5
                case hyqe5 =>
                  intro w' hSw
                  have s1 := hSw
                  go_simp
                  try with_reducible rfl
                (try simp only [Act.put, List.getElem_toArray, List.getElem_cons_succ, List.getElem_cons_zero, List.setIfInBounds_toArray, List.set_cons_zero, List.set_cons_succ])
                refine' wpAnyH_take (i := 6) (v := _) rfl (by kernel_rfl) (by kernel_rfl) (by kernel_rfl) (fun _ _ _ h => h) (Or.inl ⟨by rfl, ?hyqe6⟩) H0 ?restqe6
                case hyqe6 =>
                  intro w' hSw
                  have s1 := hSw
                  have hc := (HCL.out _ _ HY.out w' (HCA.out.trans s1 (by simp)))
                  obtain ⟨hc1, hc3⟩ := hc
                  go_simp
                  try with_reducible rfl
                (try simp only [Act.put, List.getElem_toArray, List.getElem_cons_succ, List.getElem_cons_zero, List.setIfInBounds_toArray, List.set_cons_zero, List.set_cons_succ])
                refine' wpAnyH_take (i := 7) (v := _) rfl (by kernel_rfl) (by kernel_rfl) (by kernel_rfl) (fun _ _ _ h => h) (Or.inl ⟨by rfl, ?hyqe7⟩) H0 ?restqe7
                case hyqe7 =>
                  intro w' hSw
                  have s1 := hSw
                  go_simp
                  try with_reducible rfl
                (try simp only [Act.put, List.getElem_toArray, List.getElem_cons_succ, List.getElem_cons_zero, List.setIfInBounds_toArray, List.set_cons_zero, List.set_cons_succ])
                refine' wpAnyH_take (i := 8) (v := _) rfl (by kernel_rfl) (by kernel_rfl) (by kernel_rfl) (fun _ _ _ h => h) (Or.inl ⟨by rfl, ?hyqe8⟩) H0 ?restqe8
                case hyqe8 =>
                  intro w' hSw
                  have s1 := hSw
                  go_simp
                  try with_reducible rfl
                (try simp only [Act.put, List.getElem_toArray, List.getElem_cons_succ, List.getElem_cons_zero, List.setIfInBounds_toArray, List.set_cons_zero, List.set_cons_succ])
                refine' wpAnyH_take (i := 9) (v := _) rfl (by kernel_rfl) (by kernel_rfl) (by kernel_rfl) (fun _ _ _ h => h) (Or.inl ⟨by rfl, ?hyqe9⟩) H0 ?restqe9
                case hyqe9 =>
                  intro w' hSw
                  have s1 := hSw
                  go_simp
                  try with_reducible rfl
                (try simp only [Act.put, List.getElem_toArray, List.getElem_cons_succ, List.getElem_cons_zero, List.setIfInBounds_toArray, List.set_cons_zero, List.set_cons_succ])
                refine' wpAnyH_take (i := 10) (v := _) rfl (by kernel_rfl) (by kernel_rfl) (by kernel_rfl) (fun _ _ _ h => h) (Or.inl ⟨by rfl, ?hyqe10⟩) H0 ?restqe10
                case hyqe10 =>
                  intro w' hSw
                  have s1 := hSw
                  go_simp
                  try with_reducible rfl
                (try simp only [Act.put, List.getElem_toArray, List.getElem_cons_succ, List.getElem_cons_zero, List.setIfInBounds_toArray, List.set_cons_zero, List.set_cons_succ])
                refine' wpAnyH_take (i := 11) (v := _) rfl (by kernel_rfl) (by kernel_rfl) (by kernel_rfl) (fun _ _ _ h => h) (Or.inl ⟨by rfl, ?hyqe11⟩) H0 ?restqe11
                case hyqe11 =>
                  intro w' hSw
                  have s1 := hSw
                  have hc := (HCL.out _ _ HX.out w' (HCA.out.trans s1 (by simp)))
                  obtain ⟨hc1, hc3⟩ := hc
                  go_simp
                  try with_reducible rfl
                (try simp only [Act.put, List.getElem_toArray, List.getElem_cons_succ, List.getElem_cons_zero, List.setIfInBounds_toArray, List.set_cons_zero, List.set_cons_succ])
                refine' wpAnyH_take (i := 12) (v := _) rfl (by kernel_rfl) (by kernel_rfl) (by kernel_rfl) (fun _ _ _ h => h) (Or.inl ⟨by rfl, ?hyqe12⟩) H0 ?restqe12
                case hyqe12 =>
                  intro w' hSw
                  have s1 := hSw
                  go_simp
                  try with_reducible rfl
                (try simp only [Act.put, List.getElem_toArray, List.getElem_cons_succ, List.getElem_cons_zero, List.setIfInBounds_toArray, List.set_cons_zero, List.set_cons_succ])
                refine' wpAnyH_take (i := 13) (v := _) rfl (by kernel_rfl) (by kernel_rfl) (by kernel_rfl) (fun _ _ _ h => h) (Or.inl ⟨by rfl, ?hyqe13⟩) H0 ?restqe13
                case hyqe13 =>
                  intro w' hSw
                  have s1 := hSw
                  go_simp
                  try with_reducible rfl
                (try simp only [Act.put, List.getElem_toArray, List.getElem_cons_succ, List.getElem_cons_zero, List.setIfInBounds_toArray, List.set_cons_zero, List.set_cons_succ])
                refine' wpAnyH_take (i := 14) (v := _) rfl (by kernel_rfl) (by kernel_rfl) (by kernel_rfl) (fun _ _ _ h => h) (Or.inl ⟨by rfl, ?hyqe14⟩) H0 ?restqe14
                case hyqe14 =>
                  intro w' hSw
                  have s1 := hSw
                  go_simp
                  try with_reducible rfl
                (try simp only [Act.put, List.getElem_toArray, List.getElem_cons_succ, List.getElem_cons_zero, List.setIfInBounds_toArray, List.set_cons_zero, List.set_cons_succ])
                refine' wpAnyH_take (i := 15) (v := _) rfl (by kernel_rfl) (by kernel_rfl) (by kernel_rfl) (fun _ _ _ h => h) (Or.inl ⟨by rfl, ?hyqe15⟩) H0 ?restqe15
                case hyqe15 =>
                  intro w' hSw
                  have s1 := hSw
                  go_simp
                  try with_reducible rfl
                (try simp only [Act.put, List.getElem_toArray, List.getElem_cons_succ, List.getElem_cons_zero, List.setIfInBounds_toArray, List.set_cons_zero, List.set_cons_succ])
                refine' wpAnyH_take (i := 16) (v := _) rfl (by kernel_rfl) (by kernel_rfl) (by kernel_rfl) (fun _ _ _ h => h) (Or.inl ⟨by rfl, ?hyqe16⟩) H0 ?restqe16
                case hyqe16 =>
                  intro w' hSw
                  have s1 := hSw
                  go_simp
                  try with_reducible rfl
                (try simp only [Act.put, List.getElem_toArray, List.getElem_cons_succ, List.getElem_cons_zero, List.setIfInBounds_toArray, List.set_cons_zero, List.set_cons_succ])
                refine' wpAnyH_take (i := 17) (v := _) rfl (by kernel_rfl) (by kernel_rfl) (by kernel_rfl) (fun _ _ _ h => h) (Or.inl ⟨by rfl, ?hyqe17⟩) H0 ?restqe17
                case hyqe17 =>
                  intro w' hSw
                  have s1 := hSw
                  go_simp
                  try with_reducible rfl
                (try simp only [Act.put, List.getElem_toArray, List.getElem_cons_succ, List.getElem_cons_zero, List.setIfInBounds_toArray, List.set_cons_zero, List.set_cons_succ])
                refine' wpAnyH_take (i := 18) (v := _) rfl (by kernel_rfl) (by kernel_rfl) (by kernel_rfl) (fun _ _ _ h => h) (Or.inl ⟨by rfl, ?hyqe18⟩) H0 ?restqe18
                case hyqe18 =>
                  intro w' hSw
                  have s1 := hSw
                  have hc := (HCL.out _ _ HY.out w' (HCA.out.trans s1 (by simp)))
                  obtain ⟨hc1, hc3⟩ := hc
                  go_simp
                  try with_reducible rfl
                (try simp only [Act.put, List.getElem_toArray, List.getElem_cons_succ, List.getElem_cons_zero, List.setIfInBounds_toArray, List.set_cons_zero, List.set_cons_succ])
                refine' wpAnyH_take (i := 19) (v := _) rfl (by kernel_rfl) (by kernel_rfl) (by kernel_rfl) (fun _ _ _ h => h) (Or.inl ⟨by rfl, ?hyqe19⟩) H0 ?restqe19
                case hyqe19 =>
                  intro w' hSw
                  have s1 := hSw
                  go_simp
                  try with_reducible rfl
                (try simp only [Act.put, List.getElem_toArray, List.getElem_cons_succ, List.getElem_cons_zero, List.setIfInBounds_toArray, List.set_cons_zero, List.set_cons_succ])
                refine' wpAnyH_take (i := 20) (v := _) rfl (by kernel_rfl) (by kernel_rfl) (by kernel_rfl) (fun _ _ _ h => h) (Or.inl ⟨by rfl, ?hyqe20⟩) H0 ?restqe20
                case hyqe20 =>
                  intro w' hSw
                  have s1 := hSw
                  go_simp
                  try with_reducible rfl
                (try simp only [Act.put, List.getElem_toArray, List.getElem_cons_succ, List.getElem_cons_zero, List.setIfInBounds_toArray, List.set_cons_zero, List.set_cons_succ])
                refine' wpAnyH_take (i := 21) (v := _) rfl (by kernel_rfl) (by kernel_rfl) (by kernel_rfl) (fun _ _ _ h => h) (Or.inl ⟨by rfl, ?hyqe21⟩) H0 ?restqe21
                case hyqe21 =>
                  intro w' hSw
                  have s1 := hSw
                  go_simp
                  try with_reducible rfl
                (try simp only [Act.put, List.getElem_toArray, List.getElem_cons_succ, List.getElem_cons_zero, List.setIfInBounds_toArray, List.set_cons_zero, List.set_cons_succ])
                refine' wpAnyH_take (i := 22) (v := _) rfl (by kernel_rfl) (by kernel_rfl) (by kernel_rfl) (fun _ _ _ h => h) (Or.inl ⟨by rfl, ?hyqe22⟩) H0 ?restqe22
                case hyqe22 =>
                  intro w' hSw
                  have s1 := hSw
                  go_simp
                  try with_reducible rfl
                (try simp only [Act.put, List.getElem_toArray, List.getElem_cons_succ, List.getElem_cons_zero, List.setIfInBounds_toArray, List.set_cons_zero, List.set_cons_succ])
                refine wpAnyH_done (by kernel_rfl) ?_ _
                have HL2 : Hid (sh = laterA ((acts.drop (i + 1)).take (j + 1 - (i + 1))) nm) := Lib.hid (by
                  rw [show j + 1 - (i + 1) = j - (i + 1) + 1 by omega, laterA_step (HYD.out) nm, ← HLB.out]
                  exact HSH.out)
                have HC2 : Hid (Chg [] wA (wr.drew)) := Lib.hid (HC.out.trans (Chg.drewN [] wr 1) (by simp))
                clear H0 HLB HC
                go_wp2_with fail
                go_roundw
                case rel => exact ⟨j + 1, _, rfl, by go_num, by omega, hjn, HL2, HC2⟩
                case measure => simp [intOf] <;> omega
              · have hq2 : (ynm.toList == nm.toList) = false := by
                  rw [beq_eq_false_iff_ne]
                  exact fun e => hq (toList_inj e)
                have HSH : Hid (false = (decide (ynm = nm) && decide (YL ≤ 4096))) := Lib.hid (by rw [decide_eq_false hq]; rfl)
                clear hq
                go_upto_region 14 with (fail)
                refine wp_region_held_drew (S := fun w' => Chg [] wA w') (by kernel_rfl) ((HC.out.trans (Chg.drewN [] wr 1) (by simp))) (fun H0 => ?_)
                refine' wpAnyH_take (i := 0) (v := _) rfl (by kernel_rfl) (by kernel_rfl) (by kernel_rfl) (fun _ _ _ h => h) (Or.inl ⟨by rfl, ?hyqn0⟩) H0 ?restqn0
                case hyqn0 =>
                  intro w' hSw
                  have s1 := hSw
                  go_simp
                  try with_reducible rfl
                (try simp only [Act.put, List.getElem_toArray, List.getElem_cons_zero, List.setIfInBounds_toArray, List.set_cons_zero, List.set_cons_succ])
                refine' wpAnyH_take (i := 1) (v := _) rfl (by kernel_rfl) (by kernel_rfl) (by kernel_rfl) (fun _ _ _ h => h) (Or.inl ⟨by rfl, ?hyqn1⟩) H0 ?restqn1
                case hyqn1 =>
                  intro w' hSw
                  have s1 := hSw
                  go_simp
                  try with_reducible rfl
                (try simp only [Act.put, List.getElem_toArray, List.getElem_cons_succ, List.getElem_cons_zero, List.setIfInBounds_toArray, List.set_cons_zero, List.set_cons_succ])
                refine' wpAnyH_take (i := 2) (v := _) rfl (by kernel_rfl) (by kernel_rfl) (by kernel_rfl) (fun _ _ _ h => h) (Or.inl ⟨by rfl, ?hyqn2⟩) H0 ?restqn2
                case hyqn2 =>
                  intro w' hSw
                  have s1 := hSw
                  go_simp
                  try with_reducible rfl
                (try simp only [Act.put, List.getElem_toArray, List.getElem_cons_succ, List.getElem_cons_zero, List.setIfInBounds_toArray, List.set_cons_zero, List.set_cons_succ])
                refine' wpAnyH_take (i := 3) (v := _) rfl (by kernel_rfl) (by kernel_rfl) (by kernel_rfl) (fun _ _ _ h => h) (Or.inl ⟨by rfl, ?hyqn3⟩) H0 ?restqn3
                case hyqn3 =>
                  intro w' hSw
                  have s1 := hSw
                  go_simp
                  try with_reducible rfl
                (try simp only [Act.put, List.getElem_toArray, List.getElem_cons_succ, List.getElem_cons_zero, List.setIfInBounds_toArray, List.set_cons_zero, List.set_cons_succ])
                refine' wpAnyH_take (i := 4) (v := _) rfl (by kernel_rfl) (by kernel_rfl) (by kernel_rfl) (fun _ _ _ h => h) (Or.inl ⟨by rfl, ?hyqn4⟩) H0 ?restqn4
                case hyqn4 =>
                  intro w' hSw
                  have s1 := hSw
                  go_simp
                  try with_reducible rfl
                (try simp only [Act.put, List.getElem_toArray, List.getElem_cons_succ, List.getElem_cons_zero, List.setIfInBounds_toArray, List.set_cons_zero, List.set_cons_succ])
                refine' wpAnyH_take (i := 5) (v := _) rfl (by kernel_rfl) (by kernel_rfl) (by kernel_rfl) (fun _ _ _ h => h) (Or.inl ⟨by rfl, ?hyqn5⟩) H0 ?restqn5
                case hyqn5 =>
                  intro w' hSw
                  have s1 := hSw
                  go_simp
                  try with_reducible rfl
                (try simp only [Act.put, List.getElem_toArray, List.getElem_cons_succ, List.getElem_cons_zero, List.setIfInBounds_toArray, List.set_cons_zero, List.set_cons_succ])
                refine' wpAnyH_take (i := 6) (v := _) rfl (by kernel_rfl) (by kernel_rfl) (by kernel_rfl) (fun _ _ _ h => h) (Or.inl ⟨by rfl, ?hyqn6⟩) H0 ?restqn6
                case hyqn6 =>
                  intro w' hSw
                  have s1 := hSw
                  have hc := (HCL.out _ _ HY.out w' (HCA.out.trans s1 (by simp)))
                  obtain ⟨hc1, hc3⟩ := hc
                  go_simp
                  try with_reducible rfl
                (try simp only [Act.put, List.getElem_toArray, List.getElem_cons_succ, List.getElem_cons_zero, List.setIfInBounds_toArray, List.set_cons_zero, List.set_cons_succ])
                refine' wpAnyH_take (i := 7) (v := _) rfl (by kernel_rfl) (by kernel_rfl) (by kernel_rfl) (fun _ _ _ h => h) (Or.inl ⟨by rfl, ?hyqn7⟩) H0 ?restqn7
                case hyqn7 =>
                  intro w' hSw
                  have s1 := hSw
                  go_simp
                  try with_reducible rfl
                (try simp only [Act.put, List.getElem_toArray, List.getElem_cons_succ, List.getElem_cons_zero, List.setIfInBounds_toArray, List.set_cons_zero, List.set_cons_succ])
                refine' wpAnyH_take (i := 8) (v := _) rfl (by kernel_rfl) (by kernel_rfl) (by kernel_rfl) (fun _ _ _ h => h) (Or.inl ⟨by rfl, ?hyqn8⟩) H0 ?restqn8
                case hyqn8 =>
                  intro w' hSw
                  have s1 := hSw
                  go_simp
                  try with_reducible rfl
                (try simp only [Act.put, List.getElem_toArray, List.getElem_cons_succ, List.getElem_cons_zero, List.setIfInBounds_toArray, List.set_cons_zero, List.set_cons_succ])
                refine' wpAnyH_take (i := 9) (v := _) rfl (by kernel_rfl) (by kernel_rfl) (by kernel_rfl) (fun _ _ _ h => h) (Or.inl ⟨by rfl, ?hyqn9⟩) H0 ?restqn9
                case hyqn9 =>
                  intro w' hSw
                  have s1 := hSw
                  go_simp
                  try with_reducible rfl
                (try simp only [Act.put, List.getElem_toArray, List.getElem_cons_succ, List.getElem_cons_zero, List.setIfInBounds_toArray, List.set_cons_zero, List.set_cons_succ])
                refine' wpAnyH_take (i := 10) (v := _) rfl (by kernel_rfl) (by kernel_rfl) (by kernel_rfl) (fun _ _ _ h => h) (Or.inl ⟨by rfl, ?hyqn10⟩) H0 ?restqn10
                case hyqn10 =>
                  intro w' hSw
                  have s1 := hSw
                  go_simp
                  try with_reducible rfl
                (try simp only [Act.put, List.getElem_toArray, List.getElem_cons_succ, List.getElem_cons_zero, List.setIfInBounds_toArray, List.set_cons_zero, List.set_cons_succ])
                refine' wpAnyH_take (i := 11) (v := _) rfl (by kernel_rfl) (by kernel_rfl) (by kernel_rfl) (fun _ _ _ h => h) (Or.inl ⟨by rfl, ?hyqn11⟩) H0 ?restqn11
                case hyqn11 =>
                  intro w' hSw
                  have s1 := hSw
                  have hc := (HCL.out _ _ HX.out w' (HCA.out.trans s1 (by simp)))
                  obtain ⟨hc1, hc3⟩ := hc
                  go_simp
                  try with_reducible rfl
                (try simp only [Act.put, List.getElem_toArray, List.getElem_cons_succ, List.getElem_cons_zero, List.setIfInBounds_toArray, List.set_cons_zero, List.set_cons_succ])
                refine' wpAnyH_take (i := 12) (v := _) rfl (by kernel_rfl) (by kernel_rfl) (by kernel_rfl) (fun _ _ _ h => h) (Or.inl ⟨by rfl, ?hyqn12⟩) H0 ?restqn12
                case hyqn12 =>
                  intro w' hSw
                  have s1 := hSw
                  go_simp
                  try with_reducible rfl
                (try simp only [Act.put, List.getElem_toArray, List.getElem_cons_succ, List.getElem_cons_zero, List.setIfInBounds_toArray, List.set_cons_zero, List.set_cons_succ])
                refine' wpAnyH_take (i := 13) (v := _) rfl (by kernel_rfl) (by kernel_rfl) (by kernel_rfl) (fun _ _ _ h => h) (Or.inl ⟨by rfl, ?hyqn13⟩) H0 ?restqn13
                case hyqn13 =>
                  intro w' hSw
                  have s1 := hSw
                  go_simp
                  try with_reducible rfl
                (try simp only [Act.put, List.getElem_toArray, List.getElem_cons_succ, List.getElem_cons_zero, List.setIfInBounds_toArray, List.set_cons_zero, List.set_cons_succ])
                refine wpAnyH_take (i := 14) (v := undef) rfl (by kernel_rfl) (by kernel_rfl) (by kernel_rfl) (fun _ _ _ h => h) (Or.inr ⟨by rfl, rfl⟩) H0 ?_
                (try simp only [Act.put, List.getElem_toArray, List.getElem_cons_succ, List.getElem_cons_zero, List.setIfInBounds_toArray, List.set_cons_zero, List.set_cons_succ])
                refine wpAnyH_take (i := 15) (v := undef) rfl (by kernel_rfl) (by kernel_rfl) (by kernel_rfl) (fun _ _ _ h => h) (Or.inr ⟨by rfl, rfl⟩) H0 ?_
                (try simp only [Act.put, List.getElem_toArray, List.getElem_cons_succ, List.getElem_cons_zero, List.setIfInBounds_toArray, List.set_cons_zero, List.set_cons_succ])
                refine wpAnyH_take (i := 16) (v := undef) rfl (by kernel_rfl) (by kernel_rfl) (by kernel_rfl) (fun _ _ _ h => h) (Or.inr ⟨by rfl, rfl⟩) H0 ?_
                (try simp only [Act.put, List.getElem_toArray, List.getElem_cons_succ, List.getElem_cons_zero, List.setIfInBounds_toArray, List.set_cons_zero, List.set_cons_succ])
                refine wpAnyH_take (i := 17) (v := undef) rfl (by kernel_rfl) (by kernel_rfl) (by kernel_rfl) (fun _ _ _ h => h) (Or.inr ⟨by rfl, rfl⟩) H0 ?_
                (try simp only [Act.put, List.getElem_toArray, List.getElem_cons_succ, List.getElem_cons_zero, List.setIfInBounds_toArray, List.set_cons_zero, List.set_cons_succ])
                refine wpAnyH_take (i := 18) (v := undef) rfl (by kernel_rfl) (by kernel_rfl) (by kernel_rfl) (fun _ _ _ h => h) (Or.inr ⟨by rfl, rfl⟩) H0 ?_
                (try simp only [Act.put, List.getElem_toArray, List.getElem_cons_succ, List.getElem_cons_zero, List.setIfInBounds_toArray, List.set_cons_zero, List.set_cons_succ])
                refine wpAnyH_take (i := 19) (v := undef) rfl (by kernel_rfl) (by kernel_rfl) (by kernel_rfl) (fun _ _ _ h => h) (Or.inr ⟨by rfl, rfl⟩) H0 ?_
                (try simp only [Act.put, List.getElem_toArray, List.getElem_cons_succ, List.getElem_cons_zero, List.setIfInBounds_toArray, List.set_cons_zero, List.set_cons_succ])
                refine' wpAnyH_take (i := 20) (v := _) rfl (by kernel_rfl) (by kernel_rfl) (by kernel_rfl) (fun _ _ _ h => h) (Or.inl ⟨by rfl, ?hyqn20⟩) H0 ?restqn20
                case hyqn20 =>
                  intro w' hSw
                  have s1 := hSw
                  go_simp
                  try with_reducible rfl
                (try simp only [Act.put, List.getElem_toArray, List.getElem_cons_succ, List.getElem_cons_zero, List.setIfInBounds_toArray, List.set_cons_zero, List.set_cons_succ])
                refine' wpAnyH_take (i := 21) (v := _) rfl (by kernel_rfl) (by kernel_rfl) (by kernel_rfl) (fun _ _ _ h => h) (Or.inl ⟨by rfl, ?hyqn21⟩) H0 ?restqn21
                case hyqn21 =>
                  intro w' hSw
                  have s1 := hSw
                  go_simp
                  try with_reducible rfl
                (try simp only [Act.put, List.getElem_toArray, List.getElem_cons_succ, List.getElem_cons_zero, List.setIfInBounds_toArray, List.set_cons_zero, List.set_cons_succ])
                refine' wpAnyH_take (i := 22) (v := _) rfl (by kernel_rfl) (by kernel_rfl) (by kernel_rfl) (fun _ _ _ h => h) (Or.inl ⟨by rfl, ?hyqn22⟩) H0 ?restqn22
                case hyqn22 =>
                  intro w' hSw
                  have s1 := hSw
                  go_simp
                  try with_reducible rfl
                (try simp only [Act.put, List.getElem_toArray, List.getElem_cons_succ, List.getElem_cons_zero, List.setIfInBounds_toArray, List.set_cons_zero, List.set_cons_succ])
                refine wpAnyH_done (by kernel_rfl) ?_ _
                have HL2 : Hid (false = laterA ((acts.drop (i + 1)).take (j + 1 - (i + 1))) nm) := Lib.hid (by
                  rw [show j + 1 - (i + 1) = j - (i + 1) + 1 by omega, laterA_step (HYD.out) nm, ← HLB.out]
                  exact HSH.out)
                have HC2 : Hid (Chg [] wA (wr.drew)) := Lib.hid (HC.out.trans (Chg.drewN [] wr 1) (by simp))
                clear H0 HLB HC
                go_wp2_with fail
                go_roundw
                case rel => exact ⟨j + 1, _, rfl, by go_num, by omega, hjn, HL2, HC2⟩
                case measure => simp [intOf] <;> omega
          · have f1 : ¬ (j : Int) < n := fun h => hjn (Int.ofNat_lt.1 h)
            have hjj : j = n := by omega
            have HLB2 : Hid (lb = laterA (acts.drop (i + 1)) nm) := Lib.hid (by rw [HLB.out, List.take_of_length_le (by rw [List.length_drop, HN.out]; omega)])
            have HTW := Lib.hid (HTW0.out.keep0 HC.out)
            have HOW := Lib.hid (HOW0.out.keep0 HC.out)
            have KD := Lib.hid (show Calls Tryd.prog 30 #[.agg #[.bool gone, .string nm, .string tx, .int .i64 LG]] wr.drew (DataOf wr.drew (ActV.data ⟨gone, nm, tx, LG⟩)) from law_data ⟨gone, nm, tx, LG⟩ wr.drew HOX.out.1)
            clear HLB HC hjj HTW0 HOW0 HCA
            go_upto_region 15 with (fail)
            refine wp_region_held_drew (S := fun w' => Chg [] w w') (by kernel_rfl) ((HTW.out.chg.trans (Chg.drewN [] wr 1) (by simp))) (fun H0 => ?_)
            refine' wpAnyH_take (i := 0) (v := _) rfl (by kernel_rfl) (by kernel_rfl) (by kernel_rfl) (fun _ _ _ h => h) (Or.inl ⟨by rfl, ?hyu0⟩) H0 ?restu0
            case hyu0 =>
              intro w' hSw
              have s1 := hSw
              go_simp
              try with_reducible rfl
            (try simp only [Act.put, List.getElem_toArray, List.getElem_cons_zero, List.setIfInBounds_toArray, List.set_cons_zero, List.set_cons_succ])
            refine' wpAnyH_take (i := 1) (v := _) rfl (by kernel_rfl) (by kernel_rfl) (by kernel_rfl) (fun _ _ _ h => h) (Or.inl ⟨by rfl, ?hyu1⟩) H0 ?restu1
            case hyu1 =>
              intro w' hSw
              have s1 := hSw
              go_simp
              try with_reducible rfl
            (try simp only [Act.put, List.getElem_toArray, List.getElem_cons_succ, List.getElem_cons_zero, List.setIfInBounds_toArray, List.set_cons_zero, List.set_cons_succ])
            refine' wpAnyH_take (i := 2) (v := _) rfl (by kernel_rfl) (by kernel_rfl) (by kernel_rfl) (fun _ _ _ h => h) (Or.inl ⟨by rfl, ?hyu2⟩) H0 ?restu2
            case hyu2 =>
              intro w' hSw
              have s1 := hSw
              go_simp
              try with_reducible rfl
            (try simp only [Act.put, List.getElem_toArray, List.getElem_cons_succ, List.getElem_cons_zero, List.setIfInBounds_toArray, List.set_cons_zero, List.set_cons_succ])
            refine' wpAnyH_take (i := 3) (v := _) rfl (by kernel_rfl) (by kernel_rfl) (by kernel_rfl) (fun _ _ _ h => h) (Or.inl ⟨by rfl, ?hyu3⟩) H0 ?restu3
            case hyu3 =>
              intro w' hSw
              have s1 := hSw
              go_simp
              try with_reducible rfl
            (try simp only [Act.put, List.getElem_toArray, List.getElem_cons_succ, List.getElem_cons_zero, List.setIfInBounds_toArray, List.set_cons_zero, List.set_cons_succ])
            refine' wpAnyH_take (i := 4) (v := _) rfl (by kernel_rfl) (by kernel_rfl) (by kernel_rfl) (fun _ _ _ h => h) (Or.inl ⟨by rfl, ?hyu4⟩) H0 ?restu4
            case hyu4 =>
              intro w' hSw
              have s1 := hSw
              go_simp
              try with_reducible rfl
            (try simp only [Act.put, List.getElem_toArray, List.getElem_cons_succ, List.getElem_cons_zero, List.setIfInBounds_toArray, List.set_cons_zero, List.set_cons_succ])
            refine' wpAnyH_take (i := 5) (v := _) rfl (by kernel_rfl) (by kernel_rfl) (by kernel_rfl) (fun _ _ _ h => h) (Or.inl ⟨by rfl, ?hyu5⟩) H0 ?restu5
            case hyu5 =>
              intro w' hSw
              have s1 := hSw
              have hc := (HCL.out _ _ HX.out w' s1)
              obtain ⟨hc1, hc3⟩ := hc
              go_simp
              try with_reducible rfl
            (try simp only [Act.put, List.getElem_toArray, List.getElem_cons_succ, List.getElem_cons_zero, List.setIfInBounds_toArray, List.set_cons_zero, List.set_cons_succ])
            refine' wpAnyH_take (i := 6) (v := _) rfl (by kernel_rfl) (by kernel_rfl) (by kernel_rfl) (fun _ _ _ h => h) (Or.inl ⟨by rfl, ?hyu6⟩) H0 ?restu6
            case hyu6 =>
              intro w' hSw
              have s1 := hSw
              go_simp
              try with_reducible rfl
            (try simp only [Act.put, List.getElem_toArray, List.getElem_cons_succ, List.getElem_cons_zero, List.setIfInBounds_toArray, List.set_cons_zero, List.set_cons_succ])
            refine' wpAnyH_take (i := 7) (v := _) rfl (by kernel_rfl) (by kernel_rfl) (by kernel_rfl) (fun _ _ _ h => h) (Or.inl ⟨by rfl, ?hyu7⟩) H0 ?restu7
            case hyu7 =>
              intro w' hSw
              have s1 := hSw
              go_simp
              try with_reducible rfl
            (try simp only [Act.put, List.getElem_toArray, List.getElem_cons_succ, List.getElem_cons_zero, List.setIfInBounds_toArray, List.set_cons_zero, List.set_cons_succ])
            refine' wpAnyH_take (i := 8) (v := _) rfl (by kernel_rfl) (by kernel_rfl) (by kernel_rfl) (fun _ _ _ h => h) (Or.inl ⟨by rfl, ?hyu8⟩) H0 ?restu8
            case hyu8 =>
              intro w' hSw
              have s1 := hSw
              go_simp
              try with_reducible rfl
            (try simp only [Act.put, List.getElem_toArray, List.getElem_cons_succ, List.getElem_cons_zero, List.setIfInBounds_toArray, List.set_cons_zero, List.set_cons_succ])
            refine' wpAnyH_take (i := 9) (v := .agg #[.bool gone, .string nm, .string tx, .int .i64 LG]) rfl (by kernel_rfl) (by kernel_rfl) (by kernel_rfl) (fun _ _ _ h => h) (Or.inl ⟨by rfl, ?hyu9⟩) H0 ?restu9
            case hyu9 =>
              intro w' hSw
              have s1 := hSw
              have hl := (load_act HS.out s1 HX.out)
              simp only [ActV.cells] at hl
              simp [execOp, Act.eval, hl, Result.andThen]
            (try simp only [Act.put, List.getElem_toArray, List.getElem_cons_succ, List.getElem_cons_zero, List.setIfInBounds_toArray, List.set_cons_zero, List.set_cons_succ])
            refine wpAnyH_ready (rs := [10]) (by kernel_rfl) (by simp) (AllReadyH.cons rfl (fun K hK => ?_) AllReadyH.nil)
            go_simp
            refine (KD.out).mono ?_
            rintro e w6 ⟨da, dc, rfl, hdo, hdnew, C6⟩
            have hdc : (ActV.data ⟨gone, nm, tx, LG⟩).length ≤ dc ∧ (da = none → dc = 0) := by obtain ⟨_, _, e, h, h2⟩ := ownsRow_slice hdo; cases e; exact ⟨h, fun h => (h2 h).2⟩
            have KA := Lib.hid (blk_put b (filesA (acts.take i)) S ⟨gone, nm, tx, LG⟩ da dc w6 (HL.out.chg ((HTW.out).keep0 ((Chg.drewN [] wr 1).trans C6 (by simp))).chg (by simp)) ((HTW.out).keep0 ((Chg.drewN [] wr 1).trans C6 (by simp))).fin1 HFL.out (ownsRow_src hdo) hdc.1 hdc.2 (fun a ha => by
              subst ha
              exact ((HTW.out).fresh (hdnew _ rfl)).2.1))
            have HC6 := Lib.hid ((Chg.drewN [] wr 1).trans C6 (by simp))
            have hS6 := H0.trans C6 (by simp)
            clear hdo hdnew hdc C6 KD
            obtain ⟨d, hd⟩ : ∃ d, ActV.data ⟨gone, nm, tx, LG⟩ = d := ⟨_, rfl⟩
            have KA := Lib.hid KA.out
            rw [hd] at KA ⊢
            clear hd
            go_simp
            refine hK.out _ _ hS6 (fun H1 => ?_)
            clear hK K hS6
            refine wpAnyH_ready (rs := [11]) (by kernel_rfl) (by simp) (AllReadyH.cons rfl (fun K hK => ?_) AllReadyH.nil)
            go_simp
            refine (KA.out).mono ?_
            rintro e w7 ⟨⟨r7, rfl⟩, S7, hf7, C7, hS7⟩
            have HT7 := Lib.hid (((HTW.out).keep0 HC6.out).one hf7 C7 hS7)
            have HO7 := Lib.hid (((HOW.out).keep0 HC6.out).one C7 hS7)
            have hS8 := HT7.out.chg
            clear hf7 C7 hS7 KA HC6
            go_simp
            refine hK.out _ _ hS8 (fun H2 => ?_)
            clear hK K hS8
            refine wpAnyH_done (by kernel_rfl) ?_ _
            obtain ⟨hc1, hc3⟩ := HCL.out _ _ HX.out w7 HT7.out.chg
            obtain ⟨sh, hsh⟩ : ∃ sh, decide (LG ≤ 4096) = sh := ⟨_, rfl⟩
            have HK0 : Hid (keepA (acts.drop (i + 1)) ⟨gone, nm, tx, LG⟩ = (!lb && sh)) := Lib.hid (by rw [HLB2.out, ← hsh]; rfl)
            clear HTW HOW H0 H1 H2 HLB2
            cases lb with
            | true =>
              have HKEEP : Hid (keepA (acts.drop (i + 1)) ⟨gone, nm, tx, LG⟩ = false) := Lib.hid HK0.out
              clear HK0
              have HFX : Hid (filesA (acts.take (i + 1)) = putA (filesA (acts.take i)) ⟨gone, nm, tx, LG⟩) := Lib.hid (filesA_succ HX.out)
              have HST2 : Hid (OrdSt w w7 b b2 acts (i + 1) ao5 m c5) := Lib.hid ⟨S7, S2, lst, by rw [HFX.out]; exact HT7.out, by rw [← HLST.out, lastA_drop HX.out, HKEEP.out]; rfl, HLLEN.out, HO7.out⟩
              clear HFX HKEEP HT7 HO7
              go_wp2_with fail
              go_roundw
              case rel => exact ⟨i + 1, m, c5, ao5, rfl, by go_num, hlt, by omega, HST2⟩
              case measure => simp [intOf] <;> omega
            | false =>
              cases sh with
              | true =>
                have HKEEP : Hid (keepA (acts.drop (i + 1)) ⟨gone, nm, tx, LG⟩ = true) := Lib.hid HK0.out
                have hsh2 : LG ≤ 4096 := of_decide_eq_true hsh
                clear HK0 hsh
                have HFX : Hid (filesA (acts.take (i + 1)) = putA (filesA (acts.take i)) ⟨gone, nm, tx, LG⟩) := Lib.hid (filesA_succ HX.out)
                have hlda := load_act HS.out HT7.out.chg HX.out
                simp only [ActV.cells] at hlda
                obtain ⟨ia, hia, hiaz, hias, hiab⟩ := info_parts infoActU
                have CA := Chg.alloc [] w7 (.cells #[.bool gone, .string nm, .string tx, .int .i64 LG] 50)
                have hown := (HO7.out.keep0 CA).own
                have hsrc := src_act w7 ⟨gone, nm, tx, LG⟩
                simp only [ActV.cells] at hsrc
                go_wp2_with (first | (refine wpList_load_y 50 (.tmp 93) rfl (by go_simp) (.pointer (some (a.add (i * 4)))) (.agg #[.bool gone, .string nm, .string tx, .int .i64 LG]) hlda rfl ?_) | (at_builtin; go_loud (refine wpList_append_y (.tmp 90) (.tmp 95) 42 rfl rfl 50 ia _ 4 48 Tryd.underlying42 hia hiaz hias hiab rfl (by decide) (.slice ao5 m c5) m (avs lst) hown (some ⟨w7.heap.size, 0, none⟩) 1 1 [.bool gone, .string nm, .string tx, .int .i64 LG] rfl hsrc (fun h => by cases h) (by simp [Value.oneCell']) (by unfold maxLen; omega) (by omega) rfl rfl ?_)))
                intro ao8 c8 w8 hown8 hgr8 hblk8
                have CG := Chg.grown hgr8 (S := (Value.slice ao5 m c5).ownBlock.toList) (fun x hx => .inl (by simp [hx]))
                have HST2 : Hid (OrdSt w w8 b b2 acts (i + 1) ao8 (m + 1) c8) := Lib.hid ⟨S7, S2, lst ++ [⟨gone, nm, tx, LG⟩], by
                    rw [HFX.out]
                    exact (HT7.out.keep0 CA).keep CG (fun k hk => by
                      have := HO7.out.new k (by simpa using hk)
                      exact ⟨this.2, this.1⟩), by rw [← HLST.out, lastA_drop HX.out, HKEEP.out, List.append_assoc]; rfl, by rw [List.length_append, HLLEN.out]; rfl, ⟨by rw [avs_append]; exact hown8, fun k hk => by
                    rcases hblk8 with h | h <;> rw [h] at hk
                    · exact HO7.out.new k hk
                    · rw [← Option.some.inj hk]
                      exact (HT7.out.keep0 CA).fresh (by simp)⟩⟩
                clear HFX HKEEP HT7 HO7 hown8 hgr8 hblk8 CG hown hsrc CA hia hiaz hias hiab hlda
                go_wp2_with fail
                go_roundw
                case rel => exact ⟨i + 1, m + 1, c8, ao8, rfl, by go_num, hlt, by omega, HST2⟩
                case measure => simp [intOf] <;> omega
              | false =>
                have HKEEP : Hid (keepA (acts.drop (i + 1)) ⟨gone, nm, tx, LG⟩ = false) := Lib.hid HK0.out
                have hsh2 : ¬ LG ≤ 4096 := of_decide_eq_false hsh
                clear HK0 hsh
                have HFX : Hid (filesA (acts.take (i + 1)) = putA (filesA (acts.take i)) ⟨gone, nm, tx, LG⟩) := Lib.hid (filesA_succ HX.out)
                have HST2 : Hid (OrdSt w w7 b b2 acts (i + 1) ao5 m c5) := Lib.hid ⟨S7, S2, lst, by rw [HFX.out]; exact HT7.out, by rw [← HLST.out, lastA_drop HX.out, HKEEP.out]; rfl, HLLEN.out, HO7.out⟩
                clear HFX HKEEP HT7 HO7
                go_wp2_with fail
                go_roundw
                case rel => exact ⟨i + 1, m, c5, ao5, rfl, by go_num, hlt, by omega, HST2⟩
                case measure => simp [intOf] <;> omega
      · have e1 : ¬ (i : Int) < n := fun h => hlt (Int.ofNat_lt.1 h)
        have hin : i = n := by omega
        obtain ⟨S, S2, lst, htw, hlst, hllen, how⟩ := HST.out
        have hall : acts.take i = acts := List.take_of_length_le (by rw [HN.out]; omega)
        have hnil : acts.drop i = [] := List.drop_eq_nil_of_le (by rw [HN.out]; omega)
        rw [hall] at htw
        rw [hnil, lastA, List.append_nil] at hlst
        subst hlst
        have HLM := Lib.hid hllen
        have hback : backA (lastA acts) m = [] := by unfold backA; rw [List.drop_of_length_le (by rw [hllen]; exact Nat.le_refl _)]; rfl
        have HBS0 : Hid (BackSt w wr b b2 acts m ao5 m c5) := Lib.hid ⟨S, S2, by rw [hback]; exact htw, how⟩
        have hm20 : m ≤ 20 := by omega
        have hwm : wrap64 ((m : Int) - 1) = (m : Int) - 1 := by unfold wrap64; omega
        have hwm2 : IntKind.i64.wrap ((m : Int) - 1) = (m : Int) - 1 := by rw [IntKind.wrap_i64]; omega
        clear htw hllen how hall hnil hback HST hin
        clear S S2
        go_wp2_with fail
        go_loopw [9] (fun v wr => ∃ (z : Int) (j : Nat), v = .int .i64 z ∧ z + 1 = (j : Int) ∧ j ≤ m ∧ Hid (BackSt w wr b b2 acts j ao5 m c5)) (fun v _ => (intOf v + 1).toNat)
        case atStart => exact ⟨(m : Int) - 1, m, rfl, by omega, Nat.le_refl _, HBS0⟩
        case round =>
          obtain ⟨z, j, rfl, hzj, hjm, HB⟩ := hrel
          by_cases hz : 0 ≤ z
          · obtain ⟨k, rfl⟩ : ∃ k : Nat, z = (k : Int) := ⟨z.toNat, by omega⟩
            obtain rfl : j = k + 1 := by omega
            obtain ⟨S, S2, htw, how⟩ := HB.out
            have HTW := Lib.hid htw
            have HOW := Lib.hid how
            obtain ⟨x, hx⟩ : ∃ x, (lastA acts)[k]? = some x := ⟨_, List.getElem?_eq_getElem (by rw [HLM.out]; omega)⟩
            have hokx := HOK.out x (lastA_mem (List.mem_of_getElem? hx)).1
            have hshx := (lastA_mem (List.mem_of_getElem? hx)).2
            obtain ⟨gone, nm, tx, LG⟩ := x
            have HX := Lib.hid hx
            have HOX := Lib.hid hokx
            obtain ⟨g5, rfl⟩ := ownsRow_head how.own (by omega)
            have hkc5 : k < c5 := by obtain ⟨_, _, e, h, _⟩ := ownsRow_slice how.own; cases e; omega
            have hkm : (k : Int) < m := by omega
            have HPUT : Hid (putA (backA (lastA acts) (k + 1)) ⟨gone, nm, tx, LG⟩ = backA (lastA acts) k) := Lib.hid (by
              unfold putA
              rw [if_pos hshx]
              exact backA_step hx)
            have HFL : Hid ((backA (lastA acts) (k + 1)).length ≤ 29000) := Lib.hid (by
              have := backA_len (lastA acts) (k + 1)
              have := HLM.out
              omega)
            have hwk : wrap64 ((k : Int) - 1) = (k : Int) - 1 := by unfold wrap64; omega
            have hwk2 : IntKind.i64.wrap ((k : Int) - 1) = (k : Int) - 1 := by rw [IntKind.wrap_i64]; omega
            clear htw how hx hokx hshx HB HBS0
            have KD := Lib.hid (show Calls Tryd.prog 30 #[.agg #[.bool gone, .string nm, .string tx, .int .i64 LG]] wr.drew (DataOf wr.drew (ActV.data ⟨gone, nm, tx, LG⟩)) from law_data ⟨gone, nm, tx, LG⟩ wr.drew HOX.out.1)
            go_upto_region 21 with (fail)
            refine wp_region_held_drew (S := fun w' => w'.ownsRow 0 50 4 (.slice (some ⟨g5, 0, none⟩) m c5) m (avs (lastA acts))) (by kernel_rfl) ((HOW.out.keep0 (Chg.drewN [] wr 1)).own) (fun H0 => ?_)
            refine' wpAnyH_take (i := 0) (v := _) rfl (by kernel_rfl) (by kernel_rfl) (by kernel_rfl) (fun _ _ _ h => h) (Or.inl ⟨by rfl, ?hyv0⟩) H0 ?restv0
            case hyv0 =>
              intro w' hSw
              have s1 := hSw
              go_simp
              try with_reducible rfl
            (try simp only [Act.put, List.getElem_toArray, List.getElem_cons_zero, List.setIfInBounds_toArray, List.set_cons_zero, List.set_cons_succ])
            refine' wpAnyH_take (i := 1) (v := _) rfl (by kernel_rfl) (by kernel_rfl) (by kernel_rfl) (fun _ _ _ h => h) (Or.inl ⟨by rfl, ?hyv1⟩) H0 ?restv1
            case hyv1 =>
              intro w' hSw
              have s1 := hSw
              go_simp
              try with_reducible rfl
            (try simp only [Act.put, List.getElem_toArray, List.getElem_cons_succ, List.getElem_cons_zero, List.setIfInBounds_toArray, List.set_cons_zero, List.set_cons_succ])
            refine' wpAnyH_take (i := 2) (v := _) rfl (by kernel_rfl) (by kernel_rfl) (by kernel_rfl) (fun _ _ _ h => h) (Or.inl ⟨by rfl, ?hyv2⟩) H0 ?restv2
            case hyv2 =>
              intro w' hSw
              have s1 := hSw
              go_simp
              try with_reducible rfl
            (try simp only [Act.put, List.getElem_toArray, List.getElem_cons_succ, List.getElem_cons_zero, List.setIfInBounds_toArray, List.set_cons_zero, List.set_cons_succ])
            refine' wpAnyH_take (i := 3) (v := _) rfl (by kernel_rfl) (by kernel_rfl) (by kernel_rfl) (fun _ _ _ h => h) (Or.inl ⟨by rfl, ?hyv3⟩) H0 ?restv3
            case hyv3 =>
              intro w' hSw
              have s1 := hSw
              go_simp
              try with_reducible rfl
            (try simp only [Act.put, List.getElem_toArray, List.getElem_cons_succ, List.getElem_cons_zero, List.setIfInBounds_toArray, List.set_cons_zero, List.set_cons_succ])
            refine' wpAnyH_take (i := 4) (v := _) rfl (by kernel_rfl) (by kernel_rfl) (by kernel_rfl) (fun _ _ _ h => h) (Or.inl ⟨by rfl, ?hyv4⟩) H0 ?restv4
            case hyv4 =>
              intro w' hSw
              have s1 := hSw
              go_simp
              try with_reducible rfl
            (try simp only [Act.put, List.getElem_toArray, List.getElem_cons_succ, List.getElem_cons_zero, List.setIfInBounds_toArray, List.set_cons_zero, List.set_cons_succ])
            refine' wpAnyH_take (i := 5) (v := _) rfl (by kernel_rfl) (by kernel_rfl) (by kernel_rfl) (fun _ _ _ h => h) (Or.inl ⟨by rfl, ?hyv5⟩) H0 ?restv5
            case hyv5 =>
              intro w' hSw
              have s1 := hSw
              have hc := (row_act s1 HX.out).1
              go_simp
              try with_reducible rfl
            (try simp only [Act.put, List.getElem_toArray, List.getElem_cons_succ, List.getElem_cons_zero, List.setIfInBounds_toArray, List.set_cons_zero, List.set_cons_succ])
            refine' wpAnyH_take (i := 6) (v := _) rfl (by kernel_rfl) (by kernel_rfl) (by kernel_rfl) (fun _ _ _ h => h) (Or.inl ⟨by rfl, ?hyv6⟩) H0 ?restv6
            case hyv6 =>
              intro w' hSw
              have s1 := hSw
              go_simp
              try with_reducible rfl
            (try simp only [Act.put, List.getElem_toArray, List.getElem_cons_succ, List.getElem_cons_zero, List.setIfInBounds_toArray, List.set_cons_zero, List.set_cons_succ])
            refine' wpAnyH_take (i := 7) (v := _) rfl (by kernel_rfl) (by kernel_rfl) (by kernel_rfl) (fun _ _ _ h => h) (Or.inl ⟨by rfl, ?hyv7⟩) H0 ?restv7
            case hyv7 =>
              intro w' hSw
              have s1 := hSw
              go_simp
              try with_reducible rfl
            (try simp only [Act.put, List.getElem_toArray, List.getElem_cons_succ, List.getElem_cons_zero, List.setIfInBounds_toArray, List.set_cons_zero, List.set_cons_succ])
            refine' wpAnyH_take (i := 8) (v := _) rfl (by kernel_rfl) (by kernel_rfl) (by kernel_rfl) (fun _ _ _ h => h) (Or.inl ⟨by rfl, ?hyv8⟩) H0 ?restv8
            case hyv8 =>
              intro w' hSw
              have s1 := hSw
              go_simp
              try with_reducible rfl
            (try simp only [Act.put, List.getElem_toArray, List.getElem_cons_succ, List.getElem_cons_zero, List.setIfInBounds_toArray, List.set_cons_zero, List.set_cons_succ])
            refine' wpAnyH_take (i := 9) (v := .agg #[.bool gone, .string nm, .string tx, .int .i64 LG]) rfl (by kernel_rfl) (by kernel_rfl) (by kernel_rfl) (fun _ _ _ h => h) (Or.inl ⟨by rfl, ?hyv9⟩) H0 ?restv9
            case hyv9 =>
              intro w' hSw
              have s1 := hSw
              have hl := (row_act s1 HX.out).2
              simp only [ActV.cells] at hl
              simp [execOp, Act.eval, hl, Result.andThen]
            (try simp only [Act.put, List.getElem_toArray, List.getElem_cons_succ, List.getElem_cons_zero, List.setIfInBounds_toArray, List.set_cons_zero, List.set_cons_succ])
            refine wpAnyH_ready (rs := [10]) (by kernel_rfl) (by simp) (AllReadyH.cons rfl (fun K hK => ?_) AllReadyH.nil)
            go_simp
            refine (KD.out).mono ?_
            rintro e w6 ⟨da, dc, rfl, hdo, hdnew, C6⟩
            have hdc : (ActV.data ⟨gone, nm, tx, LG⟩).length ≤ dc ∧ (da = none → dc = 0) := by obtain ⟨_, _, e, h, h2⟩ := ownsRow_slice hdo; cases e; exact ⟨h, fun h => (h2 h).2⟩
            have KA := Lib.hid (blk_put b2 (backA (lastA acts) (k + 1)) S2 ⟨gone, nm, tx, LG⟩ da dc w6 (HL.out.chg ((HTW.out.swap).keep0 ((Chg.drewN [] wr 1).trans C6 (by simp))).chg (by simp)) ((HTW.out.swap).keep0 ((Chg.drewN [] wr 1).trans C6 (by simp))).fin1 HFL.out (ownsRow_src hdo) hdc.1 hdc.2 (fun a ha => by
              subst ha
              exact ((HTW.out.swap).fresh (hdnew _ rfl)).2.1))
            have HC6 := Lib.hid ((Chg.drewN [] wr 1).trans C6 (by simp))
            have hS6 := ownsRow_chg H0 C6 (by simp)
            clear hdo hdnew hdc C6 KD
            obtain ⟨d, hd⟩ : ∃ d, ActV.data ⟨gone, nm, tx, LG⟩ = d := ⟨_, rfl⟩
            have KA := Lib.hid KA.out
            rw [hd] at KA ⊢
            clear hd
            go_simp
            refine hK.out _ _ hS6 (fun H1 => ?_)
            clear hK K hS6
            refine wpAnyH_ready (rs := [11]) (by kernel_rfl) (by simp) (AllReadyH.cons rfl (fun K hK => ?_) AllReadyH.nil)
            go_simp
            refine (KA.out).mono ?_
            rintro e w7 ⟨⟨r7, rfl⟩, S7, hf7, C7, hS7⟩
            have HT7 := Lib.hid (((HTW.out.swap).keep0 HC6.out).one hf7 C7 hS7)
            have HO7 := Lib.hid (((HOW.out.swap).keep0 HC6.out).one C7 hS7)
            have hS8 := HO7.out.own
            clear hf7 C7 hS7 KA HC6
            go_simp
            refine hK.out _ _ hS8 (fun H2 => ?_)
            clear hK K hS8
            refine wpAnyH_done (by kernel_rfl) ?_ _
            have HB7 : Hid (BackSt w w7 b b2 acts k (some ⟨g5, 0, none⟩) m c5) := Lib.hid ⟨S, S7, by rw [← HPUT.out]; exact HT7.out.swap, HO7.out.swap⟩
            clear H0 H1 H2 HTW HOW HT7 HO7 HPUT HFL
            go_wp2_with fail
            go_roundw
            case rel => exact ⟨(k : Int) - 1, k, rfl, by omega, by omega, HB7⟩
            case measure => simp [intOf] <;> omega
          · have hj0 : j = 0 := by omega
            subst hj0
            obtain ⟨S, S2, htw, how⟩ := HB.out
            generalize wr = wD at *
            have HTD := Lib.hid (fun (w' : World) (C : Chg [] wD w') => htw.keep0 C)
            have HOD := Lib.hid (fun (w' : World) (C : Chg [] wD w') => how.keep0 C)
            have HFL : Hid ((filesA acts).length ≤ 30000) := Lib.hid (by rw [filesA_last, List.length_map, HLM.out]; omega)
            have HGL : Hid ((backA (lastA acts) 0).length ≤ 30000) := Lib.hid (by have := backA_len (lastA acts) 0; have := HLM.out; omega)
            have HFM : Hid ((filesA acts).length = m) := Lib.hid (by rw [filesA_last, List.length_map, HLM.out])
            have HGM : Hid ((backA (lastA acts) 0).length = m) := Lib.hid (by rw [backA_zero, List.length_reverse, HFM.out])
            clear htw how HB HBS0 hwm hwm2
            go_wp2_with fail
            go_loopw [10] (fun v wr => ∃ i : Nat, v = .int .i64 (i : Int) ∧ i ≤ m ∧ Hid (Chg [] wD wr)) (fun v _ => m - (intOf v).toNat)
            case atStart => exact ⟨0, rfl, Nat.zero_le _, Lib.hid (Chg.refl _ _)⟩
            case round =>
              clear hi hmi hlt e1
              obtain ⟨i, rfl, hi, HC⟩ := hrel
              by_cases him : i < m
              ·
                have f1 : (i : Int) < m := Int.ofNat_lt.2 him
                have f0 : (0 : Int) ≤ i := Int.natCast_nonneg _
                obtain ⟨x, hx⟩ : ∃ x, (lastA acts)[i]? = some x := ⟨_, List.getElem?_eq_getElem (by rw [HLM.out]; exact him)⟩
                have hmx := lastA_mem (List.mem_of_getElem? hx)
                have hokx := HOK.out x hmx.1
                have hshx := (shortA_iff x).1 hmx.2
                obtain ⟨gone, nm, tx, LG⟩ := x
                have HXI := Lib.hid hx
                obtain ⟨g5, rfl⟩ := ownsRow_head (HOD.out wD (Chg.refl _ _)).own (by omega)
                have him5 : i < c5 := by obtain ⟨_, _, e, h, _⟩ := ownsRow_slice (HOD.out wD (Chg.refl _ _)).own; cases e; omega
                have hlda := (row_act (HOD.out wr HC.out).own hx).2
                simp only [ActV.cells] at hlda
                have KD := Lib.hid (show Calls Tryd.prog 30 #[.agg #[.bool gone, .string nm, .string tx, .int .i64 LG]] wr (DataOf wr (ActV.data ⟨gone, nm, tx, LG⟩)) from law_data ⟨gone, nm, tx, LG⟩ wr hokx.1)
                obtain ⟨d, hd⟩ : ∃ d, ActV.data ⟨gone, nm, tx, LG⟩ = d := ⟨_, rfl⟩
                have HD := Lib.hid hd
                rw [hd] at hshx KD
                clear hd hx hmx hokx
                go_wp2_with (refine wpList_load_y 50 (.tmp 125) rfl (by go_simp) (.pointer (some ⟨g5, i * 4, none⟩)) (.agg #[.bool gone, .string nm, .string tx, .int .i64 LG]) hlda rfl ?_)
                refine (KD.out).mono ?_
                rintro e w6 ⟨da, dc, rfl, hdo, hdnew, C6⟩
                have hdc : d.length ≤ dc := by obtain ⟨_, _, e, h, _⟩ := ownsRow_slice hdo; cases e; exact h
                have HC6 := Lib.hid (HC.out.trans C6 (by simp))
                have KL := Lib.hid (by
                  have := blk_List d da dc w6 (HL.out.chg (HTD.out w6 HC6.out).chg (by simp)) (ownsRow_src hdo) hdc
                  rewrite [show listO d = some (listL d) by unfold listO; rw [if_neg (by omega)]] at this
                  exact this)
                clear hdo hdnew hdc C6 KD hlda
                go_wp2_with fail
                refine (KL.out).mono ?_
                rintro e w8 ⟨C8, al, cl, rfl, hol, hnl⟩
                obtain ⟨M, hM⟩ : ∃ M, (listL d).length = M := ⟨_, rfl⟩
                rw [hM] at hol hnl ⊢
                have HM := Lib.hid hM
                have hM1000 : M ≤ 1000 := by rw [← hM, listL_length]; exact Nat.le_trans (cntN_le _) (by decide)
                have HOL := Lib.hid hol
                have HC8 := Lib.hid (HC6.out.trans C8 (by simp))
                clear hol hnl C8 hM KL
                go_wp2_with fail
                go_loopw [13] (fun v wr => ∃ k : Nat, v = .int .i64 (k : Int) ∧ k ≤ M ∧ Hid (Chg [] w8 wr)) (fun v _ => M - (intOf v).toNat)
                case atStart => exact ⟨0, rfl, Nat.zero_le _, Lib.hid (Chg.refl _ _)⟩
                case round =>
                  obtain ⟨k, rfl, hk, HC⟩ := hrel
                  by_cases hkM : k < M
                  ·
                    have f1 : (k : Int) < M := Int.ofNat_lt.2 hkM
                    have f0 : (0 : Int) ≤ k := Int.natCast_nonneg _
                    obtain ⟨fk, hfk⟩ : ∃ fk, (listL d)[k]? = some fk := ⟨_, List.getElem?_eq_getElem (by rw [HM.out]; exact hkM)⟩
                    obtain ⟨gl, rfl⟩ := ownsRow_head HOL.out (by omega)
                    have hcl : M ≤ cl := by obtain ⟨_, _, e, h, _⟩ := ownsRow_slice HOL.out; cases e; exact h
                    have hkcl : k < cl := by omega
                    obtain ⟨Rk, hRk⟩ : ∃ Rk, hashC fk = Rk := ⟨_, rfl⟩
                    obtain ⟨⟨mn, mb⟩, X, hfind, hname, hsame⟩ := order_find (i := i) (k := k) (f := fk) HXI.out (by rw [HD.out]; exact hfk)
                    obtain ⟨XN, hXN⟩ : ∃ XN, X.length = XN := ⟨_, rfl⟩
                    have hX128 := findL_short (filesA acts) (hkey fk)
                    rw [hfind, show fX (some ((mn, mb), X)) = X from rfl, hXN] at hX128
                    have hkk : hkV (hkey fk) = .agg Rk := by rw [hkV_hkey, hashV, hRk]
                    have HLQ0 := Lib.hid (fun (w' : World) (C : Chg [] w8 w') => by
                      have h := ownsRow_chg HOL.out C (by simp)
                      have hh := HM.out
                      rewrite [← hh] at h
                      have := load_of_list h rfl hfk
                      rewrite [hRk] at this
                      exact this)
                    have KF1 := Lib.hid (fun w' (C : Chg [] wD w') => by
                      have := blk_find b (filesA acts) S (hkey fk) w' (HTD.out w' C).fin1 HFL.out
                      rewrite [hkk, hfind] at this
                      exact this)
                    have KF2 := Lib.hid (fun w' (C : Chg [] wD w') => by
                      have := blk_find b2 (backA (lastA acts) 0) S2 (hkey fk) w' (HTD.out w' C).fin2 HGL.out
                      rewrite [hkk, backA_find, hfind] at this
                      exact this)
                    have HXN := Lib.hid hXN
                    have HSAME := Lib.hid hsame
                    have HRK := Lib.hid hRk
                    have HNAME : Hid (Op.bytesLess mn.toList nm.toList = false → mn.toList = nm.toList) := Lib.hid (fun h => by
                      rw [bless] at h
                      rcases list_lt_tri mn.toList nm.toList with g | g | g
                      · exact absurd g (of_decide_eq_false h)
                      · exact g
                      · exact absurd g hname)
                    have hl0 := HLQ0.out wr HC.out
                    clear hfk hRk hfind hname hsame hXN hkk
                    go_wp2_with (refine wpList_load_y 32 (.tmp 141) rfl (by go_simp) (.pointer (some ⟨gl, k * 32, none⟩)) (.agg Rk) hl0 rfl ?_)
                    refine (KF1.out _ (HC8.out.trans HC.out (by simp))).mono ?_
                    rintro e w5 ⟨C5, fa, fc, rfl, hob, hnb⟩
                    rw [HXN.out] at hob hnb ⊢
                    have HOB := Lib.hid hob
                    have HC5 := Lib.hid (HC.out.trans C5 (by simp))
                    have hn6 := heap_alloc_new w5 (.cells #[.string mn, .int .i64 mb] 57)
                    have C6 := Chg.alloc [] w5 (.cells #[.string mn, .int .i64 mb] 57)
                    have hl6 := HLQ0.out _ (HC5.out.trans C6 (by simp))
                    clear C5 hob hnb hl0
                    simp only [plC]
                    go_upto_region 30 with (fail)
                    obtain ⟨q1, hq1⟩ : ∃ q1, w5.heap.size = q1 := ⟨_, rfl⟩
                    rw [hq1] at hn6 ⊢
                    have HN6 := Lib.hid hn6
                    have HC6 := Lib.hid C6
                    clear hn6 C6 hq1
                    generalize w5.alloc (.cells #[.string mn, .int .i64 mb] 57) = w6 at *
                    go_wp2_with (refine wpList_load_y 32 (.tmp 151) rfl (by go_simp) (.pointer (some ⟨gl, k * 32, none⟩)) (.agg Rk) hl6 rfl ?_)
                    refine (KF2.out _ (HC8.out.trans (HC5.out.trans HC6.out (by simp)) (by simp))).mono ?_
                    rintro e w7 ⟨C7, ga, gc, rfl, hog, hng⟩
                    rw [HXN.out] at hog hng ⊢
                    have HOG := Lib.hid hog
                    have HC67 := Lib.hid C7
                    have hn7 := heap_alloc_new w7 (.cells #[.string mn, .int .i64 mb] 57)
                    have C9 := Chg.alloc [] w7 (.cells #[.string mn, .int .i64 mb] 57)
                    clear C7 hog hng hl6
                    simp only [plC]
                    go_upto_region 31 with (fail)
                    obtain ⟨q2, hq2⟩ : ∃ q2, w7.heap.size = q2 := ⟨_, rfl⟩
                    rw [hq2] at hn7 ⊢
                    have HN7 := Lib.hid hn7
                    have HC9 := Lib.hid C9
                    clear hn7 C9 hq2
                    generalize w7.alloc (.cells #[.string mn, .int .i64 mb] 57) = wb at *
                    have HC6b := Lib.hid (HC67.out.trans HC9.out (by simp))
                    have HC5b := Lib.hid (HC6.out.trans HC6b.out (by simp))
                    have HCb := Lib.hid (HC5.out.trans HC5b.out (by simp))
                    have HC8b := Lib.hid (HC8.out.trans HCb.out (by simp))
                    have hx1 := (HC6b.out.block q1 (lt_of_block HN6.out) (by simp)).trans HN6.out
                    have HP1 := Lib.hid (fun (w' : World) (C : Chg [] wb w') => load_pl w' q1 (mn, mb) ((C.block q1 (lt_of_block hx1) (by simp)).trans hx1))
                    have HP2 := Lib.hid (fun (w' : World) (C : Chg [] wb w') => load_pl w' q2 (mn, mb) ((C.block q2 (lt_of_block HN7.out) (by simp)).trans HN7.out))
                    have HPC := Lib.hid (fun (w' : World) (C : Chg [] wb w') => show w'.cell? ⟨q1, 0, none⟩ = some (.string mn) by rw [cell_of_row _ _ _ _ _ _ ((C.block q1 (lt_of_block hx1) (by simp)).trans hx1)]; rfl)
                    have HO1 := Lib.hid (fun (w' : World) (C : Chg [] wb w') => ownsRow_chg HOB.out (HC5b.out.trans C (by simp)) (by simp))
                    have HO2 := Lib.hid (fun (w' : World) (C : Chg [] wb w') => ownsRow_chg HOG.out (HC9.out.trans C (by simp)) (by simp))
                    have HLQ := Lib.hid (fun (w' : World) (C : Chg [] wb w') => HLQ0.out w' (HCb.out.trans C (by simp)))
                    have HNMC := Lib.hid (fun (w' : World) (C : Chg [] wb w') => (row_act (HOD.out w' (HC8b.out.trans C (by simp))).own HXI.out).1)
                    have KV := Lib.hid (fun (w' : World) (C : Chg [] wb w') => by
                      have ho := HO1.out w' C
                      have hlt := ownsRow_lt ho
                      have := blk_verify X fk fa fc w' (HL.out.chg ((HTD.out w' (HC8b.out.trans C (by simp))).chg) (by simp)) (ownsRow_src ho) (by rw [HXN.out]; obtain ⟨_, _, e, h, _⟩ := ownsRow_slice ho; cases e; exact h) (by rw [HXN.out]; omega) (fun a ha => hlt _ (by rw [ha]; rfl))
                      rewrite [HSAME.out, hashV, HRK.out, HXN.out] at this
                      exact this)
                    clear hx1 HLQ0 KF1 KF2
                    refine wp_region_held_drew (S := fun w' => Chg [] wb w') (by kernel_rfl) (Chg.drewN [] wb 1) (fun H0 => ?_)
                    refine' wpAnyH_take (i := 0) (v := _) rfl (by kernel_rfl) (by kernel_rfl) (by kernel_rfl) (fun _ _ _ h => h) (Or.inl ⟨by rfl, ?hyz0⟩) H0 ?restz0
                    case hyz0 =>
                      intro w' hSw
                      have s1 := hSw
                      go_simp
                      try with_reducible rfl
                    (try simp only [Act.put, List.getElem_toArray, List.getElem_cons_zero, List.setIfInBounds_toArray, List.set_cons_zero, List.set_cons_succ])
                    refine' wpAnyH_take (i := 1) (v := _) rfl (by kernel_rfl) (by kernel_rfl) (by kernel_rfl) (fun _ _ _ h => h) (Or.inl ⟨by rfl, ?hyz1⟩) H0 ?restz1
                    case hyz1 =>
                      intro w' hSw
                      have s1 := hSw
                      go_simp
                      try with_reducible rfl
                    (try simp only [Act.put, List.getElem_toArray, List.getElem_cons_succ, List.getElem_cons_zero, List.setIfInBounds_toArray, List.set_cons_zero, List.set_cons_succ])
                    refine' wpAnyH_take (i := 2) (v := _) rfl (by kernel_rfl) (by kernel_rfl) (by kernel_rfl) (fun _ _ _ h => h) (Or.inl ⟨by rfl, ?hyz2⟩) H0 ?restz2
                    case hyz2 =>
                      intro w' hSw
                      have s1 := hSw
                      go_simp
                      try with_reducible rfl
                    (try simp only [Act.put, List.getElem_toArray, List.getElem_cons_succ, List.getElem_cons_zero, List.setIfInBounds_toArray, List.set_cons_zero, List.set_cons_succ])
                    refine' wpAnyH_take (i := 3) (v := _) rfl (by kernel_rfl) (by kernel_rfl) (by kernel_rfl) (fun _ _ _ h => h) (Or.inl ⟨by rfl, ?hyz3⟩) H0 ?restz3
                    case hyz3 =>
                      intro w' hSw
                      have s1 := hSw
                      go_simp
                      try with_reducible rfl
                    (try simp only [Act.put, List.getElem_toArray, List.getElem_cons_succ, List.getElem_cons_zero, List.setIfInBounds_toArray, List.set_cons_zero, List.set_cons_succ])
                    refine' wpAnyH_take (i := 4) (v := _) rfl (by kernel_rfl) (by kernel_rfl) (by kernel_rfl) (fun _ _ _ h => h) (Or.inl ⟨by rfl, ?hyz4⟩) H0 ?restz4
                    case hyz4 =>
                      intro w' hSw
                      have s1 := hSw
                      go_simp
                      try with_reducible rfl
                    (try simp only [Act.put, List.getElem_toArray, List.getElem_cons_succ, List.getElem_cons_zero, List.setIfInBounds_toArray, List.set_cons_zero, List.set_cons_succ])
                    refine' wpAnyH_take (i := 5) (v := _) rfl (by kernel_rfl) (by kernel_rfl) (by kernel_rfl) (fun _ _ _ h => h) (Or.inl ⟨by rfl, ?hyz5⟩) H0 ?restz5
                    case hyz5 =>
                      intro w' hSw
                      have s1 := hSw
                      go_simp
                      try with_reducible rfl
                    (try simp only [Act.put, List.getElem_toArray, List.getElem_cons_succ, List.getElem_cons_zero, List.setIfInBounds_toArray, List.set_cons_zero, List.set_cons_succ])
                    refine' wpAnyH_take (i := 6) (v := _) rfl (by kernel_rfl) (by kernel_rfl) (by kernel_rfl) (fun _ _ _ h => h) (Or.inl ⟨by rfl, ?hyz6⟩) H0 ?restz6
                    case hyz6 =>
                      intro w' hSw
                      have s1 := hSw
                      go_simp
                      try with_reducible rfl
                    (try simp only [Act.put, List.getElem_toArray, List.getElem_cons_succ, List.getElem_cons_zero, List.setIfInBounds_toArray, List.set_cons_zero, List.set_cons_succ])
                    refine' wpAnyH_take (i := 7) (v := .agg #[.string mn, .int .i64 mb]) rfl (by kernel_rfl) (by kernel_rfl) (by kernel_rfl) (fun _ _ _ h => h) (Or.inl ⟨by rfl, ?hyz7⟩) H0 ?restz7
                    case hyz7 =>
                      intro w' hSw
                      have s1 := hSw
                      have hb := HP1.out w' s1
                      simp only [plC] at hb
                      simp [execOp, Act.eval, hb, Result.andThen]
                    (try simp only [Act.put, List.getElem_toArray, List.getElem_cons_succ, List.getElem_cons_zero, List.setIfInBounds_toArray, List.set_cons_zero, List.set_cons_succ])
                    refine' wpAnyH_take (i := 8) (v := .agg #[.string mn, .int .i64 mb]) rfl (by kernel_rfl) (by kernel_rfl) (by kernel_rfl) (fun _ _ _ h => h) (Or.inl ⟨by rfl, ?hyz8⟩) H0 ?restz8
                    case hyz8 =>
                      intro w' hSw
                      have s1 := hSw
                      have hb := HP2.out w' s1
                      simp only [plC] at hb
                      simp [execOp, Act.eval, hb, Result.andThen]
                    (try simp only [Act.put, List.getElem_toArray, List.getElem_cons_succ, List.getElem_cons_zero, List.setIfInBounds_toArray, List.set_cons_zero, List.set_cons_succ])
                    refine' wpAnyH_take (i := 9) (v := _) rfl (by kernel_rfl) (by kernel_rfl) (by kernel_rfl) (fun _ _ _ h => h) (Or.inl ⟨by rfl, ?hyz9⟩) H0 ?restz9
                    case hyz9 =>
                      intro w' hSw
                      have s1 := hSw
                      go_simp
                      try with_reducible rfl
                    (try simp only [Act.put, List.getElem_toArray, List.getElem_cons_succ, List.getElem_cons_zero, List.setIfInBounds_toArray, List.set_cons_zero, List.set_cons_succ])
                    refine' wpAnyH_take (i := 10) (v := _) rfl (by kernel_rfl) (by kernel_rfl) (by kernel_rfl) (fun _ _ _ h => h) (Or.inl ⟨by rfl, ?hyz10⟩) H0 ?restz10
                    case hyz10 =>
                      intro w' hSw
                      have s1 := hSw
                      go_simp
                      try with_reducible rfl
                    (try simp only [Act.put, List.getElem_toArray, List.getElem_cons_succ, List.getElem_cons_zero, List.setIfInBounds_toArray, List.set_cons_zero, List.set_cons_succ])
                    refine' wpAnyH_take (i := 11) (v := _) rfl (by kernel_rfl) (by kernel_rfl) (by kernel_rfl) (fun _ _ _ h => h) (Or.inl ⟨by rfl, ?hyz11⟩) H0 ?restz11
                    case hyz11 =>
                      intro w' hSw
                      have s1 := hSw
                      go_simp
                      try with_reducible rfl
                    (try simp only [Act.put, List.getElem_toArray, List.getElem_cons_succ, List.getElem_cons_zero, List.setIfInBounds_toArray, List.set_cons_zero, List.set_cons_succ])
                    refine' wpAnyH_take (i := 12) (v := _) rfl (by kernel_rfl) (by kernel_rfl) (by kernel_rfl) (fun _ _ _ h => h) (Or.inl ⟨by rfl, ?hyz12⟩) H0 ?restz12
                    case hyz12 =>
                      intro w' hSw
                      have s1 := hSw
                      go_simp
                      try with_reducible rfl
                    (try simp only [Act.put, List.getElem_toArray, List.getElem_cons_succ, List.getElem_cons_zero, List.setIfInBounds_toArray, List.set_cons_zero, List.set_cons_succ])
                    refine' wpAnyH_take (i := 13) (v := .string ⟨X.toArray⟩) rfl (by kernel_rfl) (by kernel_rfl) (by kernel_rfl) (fun _ _ _ h => h) (Or.inl ⟨by rfl, ?hyz13⟩) H0 ?restz13
                    case hyz13 =>
                      intro w' hSw
                      have s1 := hSw
                      have hl := run_str_of_bytes (P := Tryd.prog) w' 25 9 5 Tryd.underlying25 Tryd.underlying5 Tryd.underlying9 fa XN fc X HXN.out (ownsRow_src (HO1.out w' s1))
                      simp [execOp, Act.eval, hl, Result.andThen]
                    (try simp only [Act.put, List.getElem_toArray, List.getElem_cons_succ, List.getElem_cons_zero, List.setIfInBounds_toArray, List.set_cons_zero, List.set_cons_succ])
                    refine' wpAnyH_take (i := 14) (v := _) rfl (by kernel_rfl) (by kernel_rfl) (by kernel_rfl) (fun _ _ _ h => h) (Or.inl ⟨by rfl, ?hyz14⟩) H0 ?restz14
                    case hyz14 =>
                      intro w' hSw
                      have s1 := hSw
                      go_simp
                      try with_reducible rfl
                    (try simp only [Act.put, List.getElem_toArray, List.getElem_cons_succ, List.getElem_cons_zero, List.setIfInBounds_toArray, List.set_cons_zero, List.set_cons_succ])
                    refine' wpAnyH_take (i := 15) (v := .string ⟨X.toArray⟩) rfl (by kernel_rfl) (by kernel_rfl) (by kernel_rfl) (fun _ _ _ h => h) (Or.inl ⟨by rfl, ?hyz15⟩) H0 ?restz15
                    case hyz15 =>
                      intro w' hSw
                      have s1 := hSw
                      have hl := run_str_of_bytes (P := Tryd.prog) w' 25 9 5 Tryd.underlying25 Tryd.underlying5 Tryd.underlying9 ga XN gc X HXN.out (ownsRow_src (HO2.out w' s1))
                      simp [execOp, Act.eval, hl, Result.andThen]
                    (try simp only [Act.put, List.getElem_toArray, List.getElem_cons_succ, List.getElem_cons_zero, List.setIfInBounds_toArray, List.set_cons_zero, List.set_cons_succ])
                    refine' wpAnyH_take (i := 16) (v := _) rfl (by kernel_rfl) (by kernel_rfl) (by kernel_rfl) (fun _ _ _ h => h) (Or.inl ⟨by rfl, ?hyz16⟩) H0 ?restz16
                    case hyz16 =>
                      intro w' hSw
                      have s1 := hSw
                      go_simp
                      try with_reducible rfl
                    (try simp only [Act.put, List.getElem_toArray, List.getElem_cons_succ, List.getElem_cons_zero, List.setIfInBounds_toArray, List.set_cons_zero, List.set_cons_succ])
                    refine' wpAnyH_take (i := 17) (v := _) rfl (by kernel_rfl) (by kernel_rfl) (by kernel_rfl) (fun _ _ _ h => h) (Or.inl ⟨by rfl, ?hyz17⟩) H0 ?restz17
                    case hyz17 =>
                      intro w' hSw
                      have s1 := hSw
                      go_simp
                      try with_reducible rfl
                    (try simp only [Act.put, List.getElem_toArray, List.getElem_cons_succ, List.getElem_cons_zero, List.setIfInBounds_toArray, List.set_cons_zero, List.set_cons_succ])
                    refine' wpAnyH_take (i := 18) (v := _) rfl (by kernel_rfl) (by kernel_rfl) (by kernel_rfl) (fun _ _ _ h => h) (Or.inl ⟨by rfl, ?hyz18⟩) H0 ?restz18
                    case hyz18 =>
                      intro w' hSw
                      have s1 := hSw
                      go_simp
                      try with_reducible rfl
                    (try simp only [Act.put, List.getElem_toArray, List.getElem_cons_succ, List.getElem_cons_zero, List.setIfInBounds_toArray, List.set_cons_zero, List.set_cons_succ])
                    refine' wpAnyH_take (i := 19) (v := _) rfl (by kernel_rfl) (by kernel_rfl) (by kernel_rfl) (fun _ _ _ h => h) (Or.inl ⟨by rfl, ?hyz19⟩) H0 ?restz19
                    case hyz19 =>
                      intro w' hSw
                      have s1 := hSw
                      go_simp
                      try with_reducible rfl
                    (try simp only [Act.put, List.getElem_toArray, List.getElem_cons_succ, List.getElem_cons_zero, List.setIfInBounds_toArray, List.set_cons_zero, List.set_cons_succ])
                    refine' wpAnyH_take (i := 20) (v := _) rfl (by kernel_rfl) (by kernel_rfl) (by kernel_rfl) (fun _ _ _ h => h) (Or.inl ⟨by rfl, ?hyz20⟩) H0 ?restz20
                    case hyz20 =>
                      intro w' hSw
                      have s1 := hSw
                      go_simp
                      try with_reducible rfl
                    (try simp only [Act.put, List.getElem_toArray, List.getElem_cons_succ, List.getElem_cons_zero, List.setIfInBounds_toArray, List.set_cons_zero, List.set_cons_succ])
                    refine' wpAnyH_take (i := 21) (v := _) rfl (by kernel_rfl) (by kernel_rfl) (by kernel_rfl) (fun _ _ _ h => h) (Or.inl ⟨by rfl, ?hyz21⟩) H0 ?restz21
                    case hyz21 =>
                      intro w' hSw
                      have s1 := hSw
                      go_simp
                      try with_reducible rfl
                    (try simp only [Act.put, List.getElem_toArray, List.getElem_cons_succ, List.getElem_cons_zero, List.setIfInBounds_toArray, List.set_cons_zero, List.set_cons_succ])
                    refine' wpAnyH_take (i := 22) (v := _) rfl (by kernel_rfl) (by kernel_rfl) (by kernel_rfl) (fun _ _ _ h => h) (Or.inl ⟨by rfl, ?hyz22⟩) H0 ?restz22
                    case hyz22 =>
                      intro w' hSw
                      have s1 := hSw
                      go_simp
                      try with_reducible rfl
                    (try simp only [Act.put, List.getElem_toArray, List.getElem_cons_succ, List.getElem_cons_zero, List.setIfInBounds_toArray, List.set_cons_zero, List.set_cons_succ])
                    refine' wpAnyH_take (i := 23) (v := .agg Rk) rfl (by kernel_rfl) (by kernel_rfl) (by kernel_rfl) (fun _ _ _ h => h) (Or.inl ⟨by rfl, ?hyz23⟩) H0 ?restz23
                    case hyz23 =>
                      intro w' hSw
                      have s1 := hSw
                      have hl := HLQ.out w' s1
                      simp [execOp, Act.eval, hl, Result.andThen]
                    (try simp only [Act.put, List.getElem_toArray, List.getElem_cons_succ, List.getElem_cons_zero, List.setIfInBounds_toArray, List.set_cons_zero, List.set_cons_succ])
                    refine wpAnyH_ready (rs := [24]) (by kernel_rfl) (by simp) (AllReadyH.cons rfl (fun K hK => ?_) AllReadyH.nil)
                    go_simp
                    refine (KV.out _ H0).mono ?_
                    rintro e wx ⟨rfl, Cx⟩
                    go_simp
                    refine hK.out _ _ (H0.trans Cx (by simp)) (fun H1 => ?_)
                    clear hK K Cx
                    refine' wpAnyH_take (i := 25) (v := _) rfl (by kernel_rfl) (by kernel_rfl) (by kernel_rfl) (fun _ _ _ h => h) (Or.inl ⟨by rfl, ?hyz25⟩) H1 ?restz25
                    case hyz25 =>
                      intro w' hSw
                      have s1 := hSw
                      go_simp
                      try with_reducible rfl
                    (try simp only [Act.put, List.getElem_toArray, List.getElem_cons_succ, List.getElem_cons_zero, List.setIfInBounds_toArray, List.set_cons_zero, List.set_cons_succ])
                    refine' wpAnyH_take (i := 26) (v := _) rfl (by kernel_rfl) (by kernel_rfl) (by kernel_rfl) (fun _ _ _ h => h) (Or.inl ⟨by rfl, ?hyz26⟩) H1 ?restz26
                    case hyz26 =>
                      intro w' hSw
                      have s1 := hSw
                      go_simp
                      try with_reducible rfl
                    (try simp only [Act.put, List.getElem_toArray, List.getElem_cons_succ, List.getElem_cons_zero, List.setIfInBounds_toArray, List.set_cons_zero, List.set_cons_succ])
                    refine' wpAnyH_take (i := 27) (v := _) rfl (by kernel_rfl) (by kernel_rfl) (by kernel_rfl) (fun _ _ _ h => h) (Or.inl ⟨by rfl, ?hyz27⟩) H1 ?restz27
                    case hyz27 =>
                      intro w' hSw
                      have s1 := hSw
                      go_simp
                      try with_reducible rfl
                    (try simp only [Act.put, List.getElem_toArray, List.getElem_cons_succ, List.getElem_cons_zero, List.setIfInBounds_toArray, List.set_cons_zero, List.set_cons_succ])
                    refine' wpAnyH_take (i := 28) (v := _) rfl (by kernel_rfl) (by kernel_rfl) (by kernel_rfl) (fun _ _ _ h => h) (Or.inl ⟨by rfl, ?hyz28⟩) H1 ?restz28
                    case hyz28 =>
                      intro w' hSw
                      have s1 := hSw
                      go_simp
                      try with_reducible rfl
                    (try simp only [Act.put, List.getElem_toArray, List.getElem_cons_succ, List.getElem_cons_zero, List.setIfInBounds_toArray, List.set_cons_zero, List.set_cons_succ])
                    refine' wpAnyH_take (i := 29) (v := _) rfl (by kernel_rfl) (by kernel_rfl) (by kernel_rfl) (fun _ _ _ h => h) (Or.inl ⟨by rfl, ?hyz29⟩) H1 ?restz29
                    case hyz29 =>
                      intro w' hSw
                      have s1 := hSw
                      have hb := (HPC.out w' s1)
                      go_simp
                      try with_reducible rfl
                    (try simp only [Act.put, List.getElem_toArray, List.getElem_cons_succ, List.getElem_cons_zero, List.setIfInBounds_toArray, List.set_cons_zero, List.set_cons_succ])
                    refine' wpAnyH_take (i := 30) (v := _) rfl (by kernel_rfl) (by kernel_rfl) (by kernel_rfl) (fun _ _ _ h => h) (Or.inl ⟨by rfl, ?hyz30⟩) H1 ?restz30
                    case hyz30 =>
                      intro w' hSw
                      have s1 := hSw
                      go_simp
                      try with_reducible rfl
                    (try simp only [Act.put, List.getElem_toArray, List.getElem_cons_succ, List.getElem_cons_zero, List.setIfInBounds_toArray, List.set_cons_zero, List.set_cons_succ])
                    refine' wpAnyH_take (i := 31) (v := _) rfl (by kernel_rfl) (by kernel_rfl) (by kernel_rfl) (fun _ _ _ h => h) (Or.inl ⟨by rfl, ?hyz31⟩) H1 ?restz31
                    case hyz31 =>
                      intro w' hSw
                      have s1 := hSw
                      go_simp
                      try with_reducible rfl
                    (try simp only [Act.put, List.getElem_toArray, List.getElem_cons_succ, List.getElem_cons_zero, List.setIfInBounds_toArray, List.set_cons_zero, List.set_cons_succ])
                    refine' wpAnyH_take (i := 32) (v := _) rfl (by kernel_rfl) (by kernel_rfl) (by kernel_rfl) (fun _ _ _ h => h) (Or.inl ⟨by rfl, ?hyz32⟩) H1 ?restz32
                    case hyz32 =>
                      intro w' hSw
                      have s1 := hSw
                      go_simp
                      try with_reducible rfl
                    (try simp only [Act.put, List.getElem_toArray, List.getElem_cons_succ, List.getElem_cons_zero, List.setIfInBounds_toArray, List.set_cons_zero, List.set_cons_succ])
                    refine' wpAnyH_take (i := 33) (v := _) rfl (by kernel_rfl) (by kernel_rfl) (by kernel_rfl) (fun _ _ _ h => h) (Or.inl ⟨by rfl, ?hyz33⟩) H1 ?restz33
                    case hyz33 =>
                      intro w' hSw
                      have s1 := hSw
                      go_simp
                      try with_reducible rfl
                    (try simp only [Act.put, List.getElem_toArray, List.getElem_cons_succ, List.getElem_cons_zero, List.setIfInBounds_toArray, List.set_cons_zero, List.set_cons_succ])
                    refine' wpAnyH_take (i := 34) (v := _) rfl (by kernel_rfl) (by kernel_rfl) (by kernel_rfl) (fun _ _ _ h => h) (Or.inl ⟨by rfl, ?hyz34⟩) H1 ?restz34
                    case hyz34 =>
                      intro w' hSw
                      have s1 := hSw
                      have hb := HNMC.out w' s1
                      go_simp
                      try with_reducible rfl
                    (try simp only [Act.put, List.getElem_toArray, List.getElem_cons_succ, List.getElem_cons_zero, List.setIfInBounds_toArray, List.set_cons_zero, List.set_cons_succ])
                    refine' wpAnyH_take (i := 35) (v := .bool false) rfl (by kernel_rfl) (by kernel_rfl) (by kernel_rfl) (fun _ _ _ h => h) (Or.inl ⟨by rfl, ?hyz35⟩) H1 ?restz35
                    case hyz35 =>
                      intro w' hSw
                      have s1 := hSw
                      go_simp
                      first | (intro hx; exact HNAME.out hx) | (intro hx; simpa using HNAME.out hx)
                    (try simp only [Act.put, List.getElem_toArray, List.getElem_cons_succ, List.getElem_cons_zero, List.setIfInBounds_toArray, List.set_cons_zero, List.set_cons_succ])
                    refine' wpAnyH_take (i := 36) (v := _) rfl (by kernel_rfl) (by kernel_rfl) (by kernel_rfl) (fun _ _ _ h => h) (Or.inl ⟨by rfl, ?hyz36⟩) H1 ?restz36
                    case hyz36 =>
                      intro w' hSw
                      have s1 := hSw
                      go_simp
                      try with_reducible rfl
                    (try simp only [Act.put, List.getElem_toArray, List.getElem_cons_succ, List.getElem_cons_zero, List.setIfInBounds_toArray, List.set_cons_zero, List.set_cons_succ])
                    refine wpAnyH_done (by kernel_rfl) ?_ _
                    have HCE : Hid (Chg [] w8 wx) := Lib.hid (HCb.out.trans H1 (by simp))
                    clear H0 H1 HP1 HP2 HPC HO1 HO2 HLQ HNMC KV
                    go_wp2_with fail
                    go_roundw
                    case rel => exact ⟨k + 1, by go_num, hkM, HCE⟩
                    case measure => simp [intOf] <;> omega
                  · have f2 : ¬ (k : Int) < M := fun h => hkM (Int.ofNat_lt.1 h)
                    have HCR := Lib.hid (HC8.out.trans HC.out (by simp))
                    go_wp2_with fail
                    go_roundw
                    case rel => exact ⟨i + 1, by go_num, him, HCR⟩
                    case measure => simp [intOf] <;> omega
              · have f2 : ¬ (i : Int) < m := fun h => him (Int.ofNat_lt.1 h)
                have KN1 := Lib.hid (fun (w' : World) (C : Chg [] wD w') => by
                  obtain ⟨_, _, bf, bp, fv, pv, HI, _⟩ := (HTD.out w' C).fin1
                  have := blk_len b bf bp (filesA acts) _ fv pv S w' HI
                  rewrite [HFM.out] at this
                  exact this)
                have KN2 := Lib.hid (fun (w' : World) (C : Chg [] wD w') => by
                  obtain ⟨_, _, bf, bp, fv, pv, HI, _⟩ := (HTD.out w' C).fin2
                  have := blk_len b2 bf bp (backA (lastA acts) 0) _ fv pv S2 w' HI
                  rewrite [HGM.out] at this
                  exact this)
                have KWF := Lib.hid (KW.out wr (HTD.out wr HC.out).chg)
                have HCW := Lib.hid (HTD.out wr HC.out).chg
                go_wp2_with fail
                refine (KN1.out _ HC.out).mono ?_
                rintro e w6 ⟨rfl, rfl⟩
                go_wp2_with fail
                refine (KN2.out _ HC.out).mono ?_
                rintro e w6 ⟨rfl, rfl⟩
                go_wp2_with fail
                refine KWF.out.mono ?_
                rintro e w6 ⟨rfl, C6⟩
                go_wp2_with fail
                go_ret
                exact ⟨rfl, HCW.out.trans C6 (by simp)⟩
end Go.Proofs.YtfdhpjflkimihaaDoor
