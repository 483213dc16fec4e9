/- What the law GlobMatches does: true, and it leaves what was there. No conditions beyond those that each statement types. -/
import Derived.Test.YtnbeamggbehclaaGlobRe
import Derived.Test.YtnbeamggbehclaaGlobO
import Derived.Test.YtnbeamggbehclaaOpenInts
namespace Go.Proofs.Ytnbeamggbehclaa
open Go.RowKit

theorem el_ranges (es : List REl) {w : World} {lo n c : Nat} {a : Option Addr} (H : ElsAt lo w a n c es) (h : ∀ p ∈ es, p.1.rs.length ≤ 1000000) : ∀ p ∈ es, p.2.2.1 ≤ 1000000 :=
  fun p hp => by have := (H.rg p hp).len; have := h p hp; omega
theorem rangesF_count : ∀ (k : Nat) (l : List UInt8) (acc rs : List (UInt8 × UInt8)) (r : List UInt8), rangesF k l acc = some (rs, r) → rs.length ≤ acc.length + k
  | 0, l, acc, rs, r, h => by cases h; omega
  | k + 1, l, acc, rs, r, h => by
    rw [rangesF] at h
    split at h
    · cases h; omega
    · split at h
      · cases h
      · have := rangesF_count k _ _ _ _ h
        simp at this
        omega
theorem elem1_ranges {l : List UInt8} {x : El} {r : List UInt8} (h : elem1 l = some (x, r)) : x.rs.length ≤ l.length + 1 := by
  unfold elem1 at h
  split at h
  · cases h; exact Nat.zero_le _
  · split at h
    · cases h; exact Nat.zero_le _
    · split at h
      · cases h; exact Nat.zero_le _
      · split at h
        · cases h; exact Nat.zero_le _
        · split at h
          · unfold class1 at h
            split at h
            · cases h
            · rename_i rs r' hr
              split at h
              · cases h
              · cases h
                have h2 := rangesF_count _ _ _ _ _ hr
                have h3 : (if pre [33] (l.drop 1) then (l.drop 1).drop 1 else l.drop 1).length ≤ l.length := by
                  split <;> simp <;> omega
                show rs.length ≤ _
                simp only [List.length_nil] at h2
                omega
          · split at h
            · cases h
            · cases h; exact Nat.zero_le _
theorem elsF_ranges : ∀ (k : Nat) (l : List UInt8) (acc r : List El) (N : Nat), elsF k l acc = some r → l.length < N → (∀ x ∈ acc, x.rs.length ≤ N) → ∀ x ∈ r, x.rs.length ≤ N
  | 0, l, acc, r, N, h, _, ha => by cases h; exact ha
  | k + 1, l, acc, r, N, h, hl, ha => by
    rw [elsF] at h
    split at h
    · cases h; exact ha
    · rename_i h0
      split at h
      · cases h
      · rename_i x q hx
        have h1 := elem1_len (by omega) hx
        have h2 := elem1_ranges hx
        exact elsF_ranges k q _ r N h (by omega) (fun y hy => by
          rcases List.mem_append.1 hy with h3 | h3
          · exact ha y h3
          · simp at h3; rw [h3]; omega)
theorem parse_ranges {l : List UInt8} {m : Mk} {root : Bool} {els : List El} (h : parse l = .pat m root els) : ∀ x ∈ els, x.rs.length ≤ 1000000 := by
  have h128 := (parse_els h).2.2
  unfold parse at h
  split at h
  · cases h
  · split at h
    · cases h
    · rename_i m' r hm
      have hr := marksOf_len hm
      obtain ⟨q, hq⟩ : ∃ q, (if pre [47] r then r.drop 1 else r) = q := ⟨_, rfl⟩
      have h2 : q.length ≤ r.length := by rw [← hq]; split <;> simp
      rw [hq] at h
      split at h
      · cases h
      · split at h
        · cases h
        · rename_i e he
          cases h
          intro x hx
          have := elsF_ranges _ _ _ _ 129 he (by omega) (fun y hy => by cases hy) x hx
          omega

set_option maxRecDepth 100000 in
set_option maxHeartbeats 16000000 in
theorem law_matches (s : ByteArray) (_ : s.size ≤ 9223372036854775807) (ao : Option Addr) (cc : Nat) (l : List ByteArray) (hl : l.length ≤ 9223372036854775807) (W : World) (hsrc : Src W ao (l.map Value.string)) :
    Calls Try.prog 3 #[.string s, .slice ao l.length cc] W (Holds W) := by
  have KP := glob_parse s W
  have KR : ∀ w, Calls Try.prog 10 #[.string s] w (RParsed w (parse s.data.toList)) := fun w => by have := ref_parse s.data.toList w; rwa [bs_of] at this
  cases hp : parse s.data.toList with
  | long =>
    rw [hp] at KP KR
    have HP := Lib.hid KP
    have HR := Lib.hid KR
    clear KP KR hp
    go_enter Try.func3, Try.ntmps3
    go_wp2_with fail
    refine HP.out.mono ?_
    rintro e w1 ⟨C1, rfl⟩
    go_wp2_with fail
    refine (HR.out w1).mono ?_
    rintro e w2 ⟨C2, rfl⟩
    have C3 := (C1.trans C2 (by simp)).trans (Chg.alloc [] w2 (.cells (patC mk0 false none 0 0) 29)) (by simp)
    go_upto_region 3 with (refine wpList_store_y 29 (.tmp 7) (.tmp 18) rfl rfl (.pointer (some ⟨w2.heap.size, 0, none⟩)) (.agg (patC mk0 false none 0 0)) _ (run_storeAt_new w2 _ #[.bool false, .bool false, .bool false, .bool false, .slice none 0 0] (patC mk0 false none 0 0) Try.infoPat rfl (patC_one ..)) rfl rfl ?_)
    generalize w2.alloc (.cells (patC mk0 false none 0 0) 29) = w3 at *
    go_wp2_with fail
    go_loopw [9] (fun v wr => v = .int .i64 0 ∧ Chg [] W wr) (fun _ _ => 0)
    case atStart => exact ⟨rfl, C3⟩
    case round =>
      obtain ⟨rfl, C3⟩ := hrel
      by_cases h : 0 < l.length
      · have h' : (0 : Int) < l.length := by omega
        go_wp2_with fail
        refine (glob_awake _).mono ?_
        rintro e w4 ⟨rfl, C4⟩
        go_wp2_with fail
        go_ret
        exact ⟨rfl, C3.trans C4 (by simp)⟩
      · have h' : ¬ (0 : Int) < l.length := by omega
        go_wp2_with fail
        refine (glob_awake _).mono ?_
        rintro e w4 ⟨rfl, C4⟩
        go_wp2_with fail
        go_ret
        exact ⟨rfl, C3.trans C4 (by simp)⟩
  | form =>
    rw [hp] at KP KR
    have HP := Lib.hid KP
    have HR := Lib.hid KR
    clear KP KR hp
    go_enter Try.func3, Try.ntmps3
    go_wp2_with fail
    refine HP.out.mono ?_
    rintro e w1 ⟨C1, rfl⟩
    go_wp2_with fail
    refine (HR.out w1).mono ?_
    rintro e w2 ⟨C2, rfl⟩
    have C3 := (C1.trans C2 (by simp)).trans (Chg.alloc [] w2 (.cells (patC mk0 false none 0 0) 29)) (by simp)
    go_upto_region 3 with (refine wpList_store_y 29 (.tmp 7) (.tmp 18) rfl rfl (.pointer (some ⟨w2.heap.size, 0, none⟩)) (.agg (patC mk0 false none 0 0)) _ (run_storeAt_new w2 _ #[.bool false, .bool false, .bool false, .bool false, .slice none 0 0] (patC mk0 false none 0 0) Try.infoPat rfl (patC_one ..)) rfl rfl ?_)
    generalize w2.alloc (.cells (patC mk0 false none 0 0) 29) = w3 at *
    go_wp2_with fail
    go_loopw [9] (fun v wr => v = .int .i64 0 ∧ Chg [] W wr) (fun _ _ => 0)
    case atStart => exact ⟨rfl, C3⟩
    case round =>
      obtain ⟨rfl, C3⟩ := hrel
      by_cases h : 0 < l.length
      · have h' : (0 : Int) < l.length := by omega
        go_wp2_with fail
        refine (glob_awake _).mono ?_
        rintro e w4 ⟨rfl, C4⟩
        go_wp2_with fail
        go_ret
        exact ⟨rfl, C3.trans C4 (by simp)⟩
      · have h' : ¬ (0 : Int) < l.length := by omega
        go_wp2_with fail
        refine (glob_awake _).mono ?_
        rintro e w4 ⟨rfl, C4⟩
        go_wp2_with fail
        go_ret
        exact ⟨rfl, C3.trans C4 (by simp)⟩
  | pat m root els =>
    obtain ⟨hne, hel, _⟩ := parse_els hp
    have hrs := parse_ranges hp
    rw [hp] at KP KR
    have HP := Lib.hid KP
    have HR := Lib.hid KR
    clear KP KR hp
    have HSRC := Lib.hid hsrc
    clear hsrc
    go_enter Try.func3, Try.ntmps3
    go_wp2_with fail
    refine HP.out.mono ?_
    rintro e w1 ⟨C1, b, rfl, hP⟩
    go_wp2_with fail
    refine (HR.out w1).mono ?_
    rintro e w2 ⟨C2, a, n, c, es, rfl, hE, hes⟩
    have CA := Chg.alloc [] w2 (.cells (patC m root a n c) 29)
    have C3 := (C1.trans C2 (by simp)).trans CA (by simp)
    have hP3 := (hP.chg C2).chg CA
    have hE3 := (hE.low (Nat.zero_le _)).chg CA (by simp)
    have hx := heap_alloc_new w2 (.cells (patC m root a n c) 29)
    go_upto_region 3 with (refine wpList_store_y 29 (.tmp 7) (.tmp 18) rfl rfl (.pointer (some ⟨w2.heap.size, 0, none⟩)) (.agg (patC m root a n c)) _ (run_storeAt_new w2 _ #[.bool false, .bool false, .bool false, .bool false, .slice none 0 0] (patC m root a n c) Try.infoPat rfl (patC_one ..)) rfl rfl ?_)
    obtain ⟨g, hg⟩ : ∃ g, w2.heap.size = g := ⟨_, rfl⟩
    rw [hg] at hx
    generalize w2.alloc (.cells (patC m root a n c) 29) = w3 at *
    (try rw [hg])
    have hn : n ≤ 1000 := by
      have := hE3.len
      have h2 := congrArg List.length hes
      rw [List.length_map] at h2
      omega
    have hrc := el_ranges es hE3 (fun p hp => hrs p.1 (by rw [← hes]; exact List.mem_map.2 ⟨p, hp, rfl⟩))
    have KM : Hid (∀ w (t : ByteArray), Chg [] w3 w → Calls Try.prog 12 #[.agg (patC m root a n c), .string t] w fun e w' => e = .returned (.bool (matchP m.fold root els t.data.toList)) ∧ Chg [] w w') := Lib.hid (fun w t C => by
      have := ref_match m root a n c es t w (hE3.chg C (by simp)) hn hrc
      rwa [hes] at this)
    have KG : Hid (∀ w (t : ByteArray), Chg [] w3 w → Calls Try.prog 11 #[.pointer (some ⟨b, 0, none⟩), .string t] w fun e w' => e = .returned (.bool (matchP m.fold root els t.data.toList)) ∧ Chg [] w w') := Lib.hid (fun w t C => glob_match b s t m root els w (hP3.chg C) (by omega) hne)
    have HC3 := Lib.hid C3
    have HX := Lib.hid hx
    clear hE hes hx hg hP C1 C2 CA hP3 hE3 hrc hn hrs hel hne C3
    go_wp2_with fail
    go_loopw [9] (fun v wr => ∃ k : Nat, v = .int .i64 k ∧ k ≤ l.length ∧ Hid (Chg [] w3 wr)) (fun v _ => l.length - (intOf v).toNat)
    case atStart => exact ⟨0, rfl, Nat.zero_le _, Lib.hid (Chg.refl _ _)⟩
    case round =>
      obtain ⟨k, rfl, hk, hC⟩ := hrel
      have HW := Lib.hid (HC3.out.trans hC.out (by simp))
      by_cases h1 : k < l.length
      · have h1' : (k : Int) < l.length := by omega
        have hk0 : (0 : Int) ≤ k := by omega
        by_cases h2 : k < 40
        · have h2' : (k : Int) < 40 := by omega
          obtain ⟨t, ht⟩ : ∃ t, l[k]? = some t := ⟨_, List.getElem?_eq_getElem h1⟩
          obtain ⟨pa, rfl, _⟩ := HSRC.out.lt (by rw [List.length_map]; omega)
          have cp : wr.cell? (pa.add k) = some (.string t) := HW.out.cell_some (HSRC.out.cell pa rfl k (.string t) (by rw [List.getElem?_map, ht]; rfl)) (by simp)
          have hpw := (hC.out.block _ (lt_of_block HX.out) (by simp)).trans HX.out
          have c0 : wr.cell? ⟨g, 0, none⟩ = some (.bool m.neg) := by rw [cell_of_row _ _ _ _ _ _ hpw]; rfl
          have c1 : wr.cell? ⟨g, 1, none⟩ = some (.bool m.fold) := by rw [cell_of_row _ _ _ _ _ _ hpw]; rfl
          have c2 : wr.cell? ⟨g, 2, none⟩ = some (.bool m.del) := by rw [cell_of_row _ _ _ _ _ _ hpw]; rfl
          have c3 : wr.cell? ⟨g, 3, none⟩ = some (.bool root) := by rw [cell_of_row _ _ _ _ _ _ hpw]; rfl
          have c4 : wr.cell? ⟨g, 4, none⟩ = some (.slice a n c) := by rw [cell_of_row _ _ _ _ _ _ hpw]; rfl
          obtain ⟨B, hB⟩ : ∃ b, matchP m.fold root els t.data.toList = b := ⟨_, rfl⟩
          have K1 : Hid (∀ w, Chg [] w3 w → Calls Try.prog 11 #[.pointer (some ⟨b, 0, none⟩), .string t] w fun e w' => e = .returned (.bool B) ∧ Chg [] w w') := Lib.hid (fun w C => by have := KG.out w t C; rwa [hB] at this)
          have K2 : Hid (∀ w, Chg [] w3 w → Calls Try.prog 12 #[.agg (patC m root a n c), .string t] w fun e w' => e = .returned (.bool B) ∧ Chg [] w w') := Lib.hid (fun w C => by have := KM.out w t C; rwa [hB] at this)
          have C' := hC.out
          have hBB : (B != B) = false := by cases B <;> rfl
          clear hpw hB ht
          go_upto_region 8 with (fail)
          refine wp_region_held_drew (S := fun w' => Chg [] w3 w' ∧ w'.cell? (pa.add k) = some (.string t) ∧ w'.cell? ⟨g, 0, none⟩ = some (.bool m.neg) ∧ w'.cell? ⟨g, 1, none⟩ = some (.bool m.fold) ∧ w'.cell? ⟨g, 2, none⟩ = some (.bool m.del) ∧ w'.cell? ⟨g, 3, none⟩ = some (.bool root) ∧ w'.cell? ⟨g, 4, none⟩ = some (.slice a n c)) (by kernel_rfl) ⟨C'.trans (Chg.drewN [] wr 1) (by simp), cp, c0, c1, c2, c3, c4⟩ (fun H0 => ?_)
          refine' wpAnyH_take (i := 0) (v := _) rfl (by kernel_rfl) (by kernel_rfl) (by kernel_rfl) (fun _ _ _ h => h) (Or.inl ⟨by rfl, ?hym0⟩) H0 ?restm0
          case hym0 =>
            intro w' hSw
            obtain ⟨zC, zp, z0, z1, z2, z3, z4⟩ := hSw
            go_simp
            try with_reducible rfl
          (try simp only [Act.put, List.getElem_toArray, List.getElem_cons_zero, List.setIfInBounds_toArray, List.set_cons_zero, List.set_cons_succ])
          refine' wpAnyH_take (i := 1) (v := _) rfl (by kernel_rfl) (by kernel_rfl) (by kernel_rfl) (fun _ _ _ h => h) (Or.inl ⟨by rfl, ?hym1⟩) H0 ?restm1
          case hym1 =>
            intro w' hSw
            obtain ⟨zC, zp, z0, z1, z2, z3, z4⟩ := hSw
            go_simp
            try with_reducible rfl
          (try simp only [Act.put, List.getElem_toArray, List.getElem_cons_succ, List.getElem_cons_zero, List.setIfInBounds_toArray, List.set_cons_zero, List.set_cons_succ])
          refine' wpAnyH_take (i := 2) (v := _) rfl (by kernel_rfl) (by kernel_rfl) (by kernel_rfl) (fun _ _ _ h => h) (Or.inl ⟨by rfl, ?hym2⟩) H0 ?restm2
          case hym2 =>
            intro w' hSw
            obtain ⟨zC, zp, z0, z1, z2, z3, z4⟩ := hSw
            go_simp
            try with_reducible rfl
          (try simp only [Act.put, List.getElem_toArray, List.getElem_cons_succ, List.getElem_cons_zero, List.setIfInBounds_toArray, List.set_cons_zero, List.set_cons_succ])
          refine' wpAnyH_take (i := 3) (v := _) rfl (by kernel_rfl) (by kernel_rfl) (by kernel_rfl) (fun _ _ _ h => h) (Or.inl ⟨by rfl, ?hym3⟩) H0 ?restm3
          case hym3 =>
            intro w' hSw
            obtain ⟨zC, zp, z0, z1, z2, z3, z4⟩ := hSw
            go_simp
            try with_reducible rfl
          (try simp only [Act.put, List.getElem_toArray, List.getElem_cons_succ, List.getElem_cons_zero, List.setIfInBounds_toArray, List.set_cons_zero, List.set_cons_succ])
          refine' wpAnyH_take (i := 4) (v := _) rfl (by kernel_rfl) (by kernel_rfl) (by kernel_rfl) (fun _ _ _ h => h) (Or.inl ⟨by rfl, ?hym4⟩) H0 ?restm4
          case hym4 =>
            intro w' hSw
            obtain ⟨zC, zp, z0, z1, z2, z3, z4⟩ := hSw
            go_simp
            try with_reducible rfl
          (try simp only [Act.put, List.getElem_toArray, List.getElem_cons_succ, List.getElem_cons_zero, List.setIfInBounds_toArray, List.set_cons_zero, List.set_cons_succ])
          refine' wpAnyH_take (i := 6) (v := _) rfl (by kernel_rfl) (by kernel_rfl) (by kernel_rfl) (fun _ _ _ h => h) (Or.inl ⟨by rfl, ?hym6⟩) H0 ?restm6
          case hym6 =>
            intro w' hSw
            obtain ⟨zC, zp, z0, z1, z2, z3, z4⟩ := hSw
            go_simp
            try with_reducible rfl
          (try simp only [Act.put, List.getElem_toArray, List.getElem_cons_succ, List.getElem_cons_zero, List.setIfInBounds_toArray, List.set_cons_zero, List.set_cons_succ])
          refine' wpAnyH_take (i := 7) (v := _) rfl (by kernel_rfl) (by kernel_rfl) (by kernel_rfl) (fun _ _ _ h => h) (Or.inl ⟨by rfl, ?hym7⟩) H0 ?restm7
          case hym7 =>
            intro w' hSw
            obtain ⟨zC, zp, z0, z1, z2, z3, z4⟩ := hSw
            go_simp
            try with_reducible rfl
          (try simp only [Act.put, List.getElem_toArray, List.getElem_cons_succ, List.getElem_cons_zero, List.setIfInBounds_toArray, List.set_cons_zero, List.set_cons_succ])
          refine' wpAnyH_take (i := 8) (v := _) rfl (by kernel_rfl) (by kernel_rfl) (by kernel_rfl) (fun _ _ _ h => h) (Or.inl ⟨by rfl, ?hym8⟩) H0 ?restm8
          case hym8 =>
            intro w' hSw
            obtain ⟨zC, zp, z0, z1, z2, z3, z4⟩ := hSw
            go_simp
            try with_reducible rfl
          (try simp only [Act.put, List.getElem_toArray, List.getElem_cons_succ, List.getElem_cons_zero, List.setIfInBounds_toArray, List.set_cons_zero, List.set_cons_succ])
          refine' wpAnyH_take (i := 9) (v := _) rfl (by kernel_rfl) (by kernel_rfl) (by kernel_rfl) (fun _ _ _ h => h) (Or.inl ⟨by rfl, ?hym9⟩) H0 ?restm9
          case hym9 =>
            intro w' hSw
            obtain ⟨zC, zp, z0, z1, z2, z3, z4⟩ := hSw
            go_simp
            try with_reducible rfl
          (try simp only [Act.put, List.getElem_toArray, List.getElem_cons_succ, List.getElem_cons_zero, List.setIfInBounds_toArray, List.set_cons_zero, List.set_cons_succ])
          refine' wpAnyH_take (i := 10) (v := _) rfl (by kernel_rfl) (by kernel_rfl) (by kernel_rfl) (fun _ _ _ h => h) (Or.inl ⟨by rfl, ?hym10⟩) H0 ?restm10
          case hym10 =>
            intro w' hSw
            obtain ⟨zC, zp, z0, z1, z2, z3, z4⟩ := hSw
            go_simp
            try with_reducible rfl
          (try simp only [Act.put, List.getElem_toArray, List.getElem_cons_succ, List.getElem_cons_zero, List.setIfInBounds_toArray, List.set_cons_zero, List.set_cons_succ])
          refine wpAnyH_ready (rs := [5]) (by kernel_rfl) (by simp) (AllReadyH.cons rfl (fun K hK => ?_) AllReadyH.nil)
          go_simp
          refine (K1.out _ H0.1).mono ?_
          rintro e w4 ⟨rfl, C4⟩
          go_simp
          refine hK.out _ _ ⟨H0.1.trans C4 (by simp), C4.cell_some H0.2.1 (by simp), C4.cell_some H0.2.2.1 (by simp), C4.cell_some H0.2.2.2.1 (by simp), C4.cell_some H0.2.2.2.2.1 (by simp), C4.cell_some H0.2.2.2.2.2.1 (by simp), C4.cell_some H0.2.2.2.2.2.2 (by simp)⟩ (fun H1 => ?_)
          clear hK K
          refine wpAnyH_ready (rs := [11]) (by kernel_rfl) (by simp) (AllReadyH.cons rfl (fun K hK => ?_) AllReadyH.nil)
          go_simp
          refine (K2.out _ H1.1).mono ?_
          rintro e w5 ⟨rfl, C5⟩
          go_simp
          refine hK.out _ _ ⟨H1.1.trans C5 (by simp), C5.cell_some H1.2.1 (by simp), C5.cell_some H1.2.2.1 (by simp), C5.cell_some H1.2.2.2.1 (by simp), C5.cell_some H1.2.2.2.2.1 (by simp), C5.cell_some H1.2.2.2.2.2.1 (by simp), C5.cell_some H1.2.2.2.2.2.2 (by simp)⟩ (fun H2 => ?_)
          clear hK K
          refine' wpAnyH_take (i := 12) (v := _) rfl (by kernel_rfl) (by kernel_rfl) (by kernel_rfl) (fun _ _ _ h => h) (Or.inl ⟨by rfl, ?hyx12⟩) H2 ?restx12
          case hyx12 =>
            intro w' hSw
            obtain ⟨zC, zp, z0, z1, z2, z3, z4⟩ := hSw
            go_simp
            try with_reducible rfl
          (try simp only [Act.put, List.getElem_toArray, List.getElem_cons_succ, List.getElem_cons_zero, List.setIfInBounds_toArray, List.set_cons_zero, List.set_cons_succ])
          refine wpAnyH_done (by kernel_rfl) ?_ _
          have HC5 := Lib.hid H2.1
          clear H0 H1 H2 C4 C5 cp c0 c1 c2 c3 c4
          go_wp2_with fail
          go_roundw
          case rel => exact ⟨k + 1, by go_num, by omega, HC5⟩
          case measure => simp [intOf] <;> omega
        · have h2' : ¬ (k : Int) < 40 := by omega
          go_wp2_with fail
          refine (glob_awake _).mono ?_
          rintro e w4 ⟨rfl, C4⟩
          go_wp2_with fail
          go_ret
          exact ⟨rfl, HW.out.trans C4 (by simp)⟩
      · have h1' : ¬ (k : Int) < l.length := by omega
        go_wp2_with fail
        refine (glob_awake _).mono ?_
        rintro e w4 ⟨rfl, C4⟩
        go_wp2_with fail
        go_ret
        exact ⟨rfl, HW.out.trans C4 (by simp)⟩
end Go.Proofs.Ytnbeamggbehclaa
