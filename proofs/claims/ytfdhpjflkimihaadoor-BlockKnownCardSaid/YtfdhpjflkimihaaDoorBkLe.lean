/- What the law BlockLists does: true, and it leaves what was there. No conditions beyond those that each statement types. -/
import Derived.Test.YtfdhpjflkimihaaDoorBkJf
import Derived.Laws.BitsAllLaws
namespace Go.Proofs.YtfdhpjflkimihaaDoor
open Go.RowKit

theorem xor255 (x : UInt8) : bits .xor .u8 (x.toNat : Int) 255 = ((x ^^^ 255).toNat : Int) := by
  have h := u8_xor_nat x.toNat 255 (UInt8.toNat_lt x) (by decide)
  rw [show (x ^^^ 255).toNat = x.toNat ^^^ 255 from UInt8.toNat_xor x 255]
  exact h
theorem xset {ys : List UInt8} {k : Nat} (x : UInt8) : (bvs ys).set k (.int .u8 (x.toNat : Int)) = bvs (ys.set k x) := bvs_set ys k x
theorem listed_any {w : World} {r : Option (List (Nat → UInt8))} {e : Ending} {w' : World} (h : Listed w r e w') :
    Chg [] w w' ∧ ∃ a c, e = .returned (.tuple #[.slice a (r.getD []).length c, .int .i64 (if r.isSome then 0 else 3)]) ∧ w'.ownsRow 0 32 32 (.slice a (r.getD []).length c) (r.getD []).length (hvs (r.getD [])) := by
  obtain ⟨C, h⟩ := h
  refine ⟨C, ?_⟩
  cases r with
  | none => exact ⟨none, 0, h, World.ownsRow_nil _ _ _ _⟩
  | some L =>
    obtain ⟨a, c, he, ho, _⟩ := h
    exact ⟨a, c, he, ho⟩
set_option maxRecDepth 100000 in
set_option maxHeartbeats 8000000 in
theorem block_lists (ao : Option Addr) (c : Nat) (l : List UInt8) (hlm : l.length ≤ 9223372036854775807) (hc0 : ao = none → c = 0) (hlc : l.length ≤ c) (i : Int) (_hi : -9223372036854775808 ≤ i ∧ i ≤ 9223372036854775807) (f : Nat → UInt8) (w : World) (hL : Laid w) (hs : Src w ao (bvs l)) :
    Calls Tryd.prog 5 #[.slice ao l.length c, .int .i64 i, hashV f] w (Holds w) := by
  have KW := Lib.hid (fun w' (C : Chg [] w w') => law_awake w' (hL.chg C (by simp)))
  clear _hi
  obtain ⟨R, hR⟩ : ∃ R, hashC f = R := ⟨_, rfl⟩
  have hRs : R.size = 32 := by rw [← hR]; exact hashC_size _
  have hRV : hashV f = .agg R := by rw [hashV, hR]
  have C0 := Chg.alloc [] w (.cells R 32)
  have hx0 := heap_alloc_new w (.cells R 32)
  by_cases hbig : 9000 < l.length
  · have h' : (l.length : Int) > 9000 := by omega
    rw [hRV]
    clear hs hL hc0 hlc hlm hbig
    generalize l.length = n at *
    go_enter Tryd.func5, Tryd.ntmps5
    go_wp2_with fail
    refine (KW.out _ C0).mono ?_
    rintro e w1 ⟨rfl, C⟩
    go_wp2_with fail
    go_ret
    exact ⟨rfl, C0.trans C (by simp)⟩
  · have h' : ¬ (l.length : Int) > 9000 := by omega
    have hl9 : l.length ≤ 9000 := by omega
    have HL := Lib.hid hL
    have HS0 := Lib.hid (hs.chg C0 (by simp))
    have hbv : (bvs l).length = l.length * 1 := by rw [bvs_length, Nat.mul_one]
    obtain ⟨i0, hi, hz0, hz1, hz2⟩ := info_parts Tryd.infoU8'
    obtain ⟨n, hn⟩ : ∃ n, l.length = n := ⟨_, rfl⟩
    have HN := Lib.hid hn
    have HRV := Lib.hid hRV
    have HR := Lib.hid hRs
    have HLC := Lib.hid hlc
    have HLM := Lib.hid hlm
    have HC00 := Lib.hid hc0
    rw [hRV]
    rw [hn] at h' hl9 hbv ⊢
    clear hs hL hc0 hlc hlm hbig hn hRV hRs hR
    have hwsz : (w.alloc (.cells R 32)).heap.size = w.heap.size + 1 := by simp
    go_enter Tryd.func5, Tryd.ntmps5
    go_upto_region 3 with (fail)
    obtain ⟨q0, hq0⟩ : ∃ q0, w.heap.size = q0 := ⟨_, rfl⟩
    rw [hq0] at hx0 hwsz
    try rw [hq0]
    have HX0 := Lib.hid hx0
    have HC0 := Lib.hid C0
    clear hx0 C0 hq0
    generalize w.alloc (.cells R 32) = w0 at *
    have CA := Chg.alloc [] w0 (.cells #[] 5)
    have hsA := HS0.out.chg CA (by simp)
    have hown := World.ownsRow_made w0 #[] 0 (Nat.zero_le _) (Nat.zero_le _) (e := 5) (size := 1) (base := 0) rfl
    rw [hwsz] at hown
    have hcc := HC00.out
    go_upto_region 4 with (at_builtin; go_loud (refine wpList_append_x _ rfl _ _ 25 rfl 5 i0 _ 1 1 Tryd.underlying25 hi hz0 hz1 hz2 rfl (by decide) (.slice (some ⟨q0 + 1, 0, none⟩) 0 0) 0 [] rfl hown ao n c (bvs l) rfl hbv hsA hcc (bvs_one _) (by unfold maxLen; omega) (by omega) ?_))
    intro ao1 c1 w1 hown1 hgr hblk
    try simp only [Nat.zero_add, List.nil_append] at hown1
    try simp only [Nat.zero_add] at hblk
    try simp only [Nat.zero_add]
    have hnew1 : ∀ x, (Value.slice ao1 n c1).ownBlock = some x → q0 + 1 ≤ x := fun x hx => by
      rcases hblk with h | h <;> rw [h] at hx
      · exact Nat.le_of_eq (Option.some.inj hx)
      · have := Option.some.inj hx
        omega
    have C1 : Chg [] w0 w1 := CA.trans (Chg.grown hgr (S := [q0 + 1]) (fun x hx => .inl (by simpa [Value.ownBlock] using hx.symm))) (fun x hx => by simp at hx; right; omega)
    have HO1 := Lib.hid hown1
    have HCW1 := Lib.hid (HC0.out.trans C1 (by simp))
    have HX1 := Lib.hid ((C1.block q0 (by omega) (by simp)).trans HX0.out)
    have hlc1 : l.length ≤ c1 := by obtain ⟨_, _, e, h, _⟩ := ownsRow_slice hown1; cases e; rw [HN.out]; exact h
    have KL := blk_List l ao1 c1 w1 (HL.out.chg HCW1.out (by simp)) (ownsRow_src hown1) hlc1
    rw [HN.out] at KL
    have HKL := Lib.hid KL
    have HSW := Lib.hid (fun w' (C : Chg [] w0 w') => HS0.out.chg C (by simp))
    have HC01 := Lib.hid C1
    clear hown hown1 hgr hblk hsA CA KL C1 hwsz hcc hi hz0 hz1 hz2 hbv hnew1 HX0 hlc1
    go_wp2_with fail
    refine HKL.out.mono ?_
    rintro e w2 h2
    obtain ⟨C2, a2, c2, rfl, ho2⟩ := listed_any h2
    have HC2 := Lib.hid C2
    have HO2 := Lib.hid ho2
    have KR := ref_list l ao c w2 (HSW.out w2 (HC01.out.trans C2 (by simp))) HLC.out HLM.out
    rw [HN.out] at KR
    have HKR := Lib.hid KR
    obtain ⟨E0, hE0⟩ : ∃ E0 : Int, (if (listO l).isSome then (0 : Int) else 3) = E0 := ⟨_, rfl⟩
    have HE0 := Lib.hid hE0
    rw [hE0]
    obtain ⟨LN, hLN⟩ : ∃ LN, ((listO l).getD []).length = LN := ⟨_, rfl⟩
    have HLN := Lib.hid hLN
    rw [hLN]
    clear h2 C2 ho2 KR HKL hE0 hLN
    go_wp2_with fail
    refine HKR.out.mono ?_
    rintro e w3 h3
    obtain ⟨C3, a3, c3, rfl, ho3⟩ := listed_any (show Listed w2 (listO l) e w3 from h3)
    rw [HE0.out, HLN.out]
    have HC3 := Lib.hid C3
    have HC13 := Lib.hid (HC2.out.trans C3 (by simp))
    have HO3 := Lib.hid ho3
    have KP := blk_Part l ao1 c1 i w3 (ownsRow_src (ownsRow_chg HO1.out HC13.out (by simp))) (by obtain ⟨_, _, e, h, _⟩ := ownsRow_slice HO1.out; cases e; rw [HN.out]; exact h)
    rw [HN.out] at KP
    have HKP := Lib.hid KP
    clear h3 C3 ho3 KP HKR
    go_wp2_with fail
    refine HKP.out.mono ?_
    obtain ⟨P, hP⟩ : ∃ P, partZ l i = P := ⟨_, rfl⟩
    rintro e w4 ⟨ap, cp, rfl, ho4, hn4, C4⟩
    rw [hP] at ho4 hn4 ⊢
    obtain ⟨PN, hPN⟩ : ∃ PN, P.length = PN := ⟨_, rfl⟩
    have HPN := Lib.hid hPN
    have HP := Lib.hid hP
    have hpn : PN ≤ 128 := by
      rw [← hPN, ← hP]
      unfold partZ
      split
      · rw [partL_length]
        exact Nat.le_trans (Nat.min_le_left _ _) (bszN_le _)
      · exact Nat.zero_le _
    rw [hPN] at ho4 hn4 ⊢
    have HO4 := Lib.hid ho4
    have HN4 := Lib.hid hn4
    have HC4 := Lib.hid C4
    have HC14 := Lib.hid (HC13.out.trans C4 (by simp))
    have KP := blk_Part l ao1 c1 i w4 (ownsRow_src (ownsRow_chg HO1.out HC14.out (by simp))) (by obtain ⟨_, _, e, h, _⟩ := ownsRow_slice HO1.out; cases e; rw [HN.out]; exact h)
    rw [HN.out] at KP
    have HKP := Lib.hid KP
    clear ho4 hn4 C4 KP hPN hP
    go_wp2_with fail
    refine HKP.out.mono ?_
    rintro e w5 ⟨aq, cq, rfl, ho5, hn5, C5⟩
    rw [HP.out, HPN.out] at ho5 hn5 ⊢
    have HO5 := Lib.hid ho5
    have HN5 := Lib.hid hn5
    have HC5 := Lib.hid C5
    have HC15 := Lib.hid (HC14.out.trans C5 (by simp))
    have KR := ref_part l i ao c w5 (HSW.out w5 (HC01.out.trans HC15.out (by simp))) HLC.out HLM.out
    rw [HN.out, HP.out] at KR
    have HKR := Lib.hid KR
    clear ho5 hn5 C5 KR HKP
    go_wp2_with fail
    refine HKR.out.mono ?_
    rintro e w8 ⟨v, rfl, ⟨ar, cr, rfl, hor⟩, hnr, C8⟩
    rw [HPN.out] at hor ⊢
    have HC8 := Lib.hid C8
    have HC18 := Lib.hid (HC15.out.trans C8 (by simp))
    have hsr := ownsRow_src hor
    have hsn : (⟨P.toArray⟩ : ByteArray).data.toList.length = PN := HPN.out
    clear hor hnr C8 HKR
    go_upto_region 8 with (refine wpList_str_of_bytes _ rfl 25 9 _ rfl 5 Tryd.underlying25 Tryd.underlying5 Tryd.underlying9 ar PN cr rfl ⟨P.toArray⟩ hsn hsr ?_)
    have HCW8 := Lib.hid (HCW1.out.trans HC18.out (by simp))
    have hx8 := (HC18.out.block q0 (lt_of_block HX1.out) (by simp)).trans HX1.out
    have HS := Lib.hid (show ∀ w', Chg [] w8 w' → Chg [] w8 w' ∧ w'.heap[q0]? = some (.cells R 32 (0, 0)) from fun w' C => ⟨C, (C.block q0 (lt_of_block hx8) (by simp)).trans hx8⟩)
    have KSA := Lib.hid (fun w' (C : Chg [] w8 w') => by
      have C28 := ((HC3.out.trans HC4.out (by simp)).trans HC5.out (by simp)).trans HC8.out (by simp) |>.trans C (by simp)
      have C38 := ((HC4.out.trans HC5.out (by simp)).trans HC8.out (by simp)).trans C (by simp)
      have := ref_same ((listO l).getD []) a2 a3 c2 c3 w' (ownsRow_chg HO2.out C28 (by simp)) (ownsRow_chg HO3.out C38 (by simp)) (by
        unfold listO
        split
        · simp
        · rw [Option.getD_some, listL_length]; exact Nat.le_trans (cntN_le _) (by decide))
      rw [HLN.out] at this
      exact this)
    have HPS := Lib.hid (fun w' (C : Chg [] w8 w') => ownsRow_src (ownsRow_chg HO4.out ((HC5.out.trans HC8.out (by simp)).trans C (by simp)) (by simp)))
    obtain ⟨D, hD⟩ : ∃ D, hashC (digest l) = D := ⟨_, rfl⟩
    obtain ⟨BB, hBB⟩ : ∃ BB, sameHash (digest l) f = BB := ⟨_, rfl⟩
    have HQ := Lib.hid (fun w' => by
      have := run_eq_hash (digest l) f w'
      rw [hBB, HRV.out, hashV, hD] at this
      exact this)
    have HVV := Lib.hid (fun (h : Nat → UInt8) w' (C : Chg [] w8 w') => by
      have ho := ownsRow_chg HO1.out (HC18.out.trans C (by simp)) (by simp)
      have hlt := ownsRow_lt ho
      have := blk_verify l h ao1 c1 w' (HL.out.chg (HCW8.out.trans C (by simp)) (by simp)) (ownsRow_src ho) (by obtain ⟨_, _, e, h, _⟩ := ownsRow_slice ho; cases e; rw [HN.out]; exact h) (by rw [HN.out]; omega) (fun a ha => hlt _ (by rw [ha]; rfl))
      rw [HN.out] at this
      exact this)
    have KV1 := Lib.hid (fun w' (C : Chg [] w8 w') => by
      have := HVV.out f w' C
      rw [hBB, HRV.out] at this
      exact this)
    have KV2 := Lib.hid (fun w' (C : Chg [] w8 w') => by
      have := HVV.out (digest l) w' C
      rw [self_same, hashV, hD] at this
      exact this)
    have KSU := Lib.hid (fun w' (C : Chg [] w8 w') => by
      have := ref_sum l ao c w' (HSW.out w' ((HC01.out.trans HC18.out (by simp)).trans C (by simp))) HC00.out (by rw [HN.out]; omega)
      rw [HN.out, hashV, hD] at this
      exact this)
    clear hx8 hD hBB hsr hsn
    refine wp_region_held_drew (S := fun w' => Chg [] w8 w' ∧ w'.heap[q0]? = some (.cells R 32 (0, 0))) (by kernel_rfl) (HS.out _ (Chg.drewN _ w8 1)) (fun H0 => ?_)
    refine' wpAnyH_take (i := 0) (v := _) rfl (by kernel_rfl) (by kernel_rfl) (by kernel_rfl) (fun _ _ _ h => h) (Or.inl ⟨by rfl, ?hya0⟩) H0 ?resta0
    case hya0 =>
      intro w' hSw
      obtain ⟨s1, s2⟩ := hSw
      go_simp
      try with_reducible rfl
    (try simp only [Act.put, List.getElem_toArray, List.getElem_cons_zero, List.setIfInBounds_toArray, List.set_cons_zero, List.set_cons_succ])
    refine' wpAnyH_take (i := 1) (v := _) rfl (by kernel_rfl) (by kernel_rfl) (by kernel_rfl) (fun _ _ _ h => h) (Or.inl ⟨by rfl, ?hya1⟩) H0 ?resta1
    case hya1 =>
      intro w' hSw
      obtain ⟨s1, s2⟩ := hSw
      go_simp
      try with_reducible rfl
    (try simp only [Act.put, List.getElem_toArray, List.getElem_cons_succ, List.getElem_cons_zero, List.setIfInBounds_toArray, List.set_cons_zero, List.set_cons_succ])
    refine wpAnyH_ready (rs := [2]) (by kernel_rfl) (by simp) (AllReadyH.cons rfl (fun K hK => ?_) AllReadyH.nil)
    go_simp
    refine (KSA.out _ (H0).1).mono ?_
    rintro e wx ⟨rfl, Cx⟩
    go_simp
    refine hK.out _ _ (HS.out _ ((H0).1.trans Cx (by simp))) (fun H1 => ?_)
    clear hK K Cx
    refine' wpAnyH_take (i := 3) (v := _) rfl (by kernel_rfl) (by kernel_rfl) (by kernel_rfl) (fun _ _ _ h => h) (Or.inl ⟨by rfl, ?hya3⟩) H1 ?resta3
    case hya3 =>
      intro w' hSw
      obtain ⟨s1, s2⟩ := hSw
      go_simp
      try with_reducible rfl
    (try simp only [Act.put, List.getElem_toArray, List.getElem_cons_succ, List.getElem_cons_zero, List.setIfInBounds_toArray, List.set_cons_zero, List.set_cons_succ])
    refine' wpAnyH_take (i := 4) (v := _) rfl (by kernel_rfl) (by kernel_rfl) (by kernel_rfl) (fun _ _ _ h => h) (Or.inl ⟨by rfl, ?hya4⟩) H1 ?resta4
    case hya4 =>
      intro w' hSw
      obtain ⟨s1, s2⟩ := hSw
      go_simp
      try with_reducible rfl
    (try simp only [Act.put, List.getElem_toArray, List.getElem_cons_succ, List.getElem_cons_zero, List.setIfInBounds_toArray, List.set_cons_zero, List.set_cons_succ])
    refine' wpAnyH_take (i := 5) (v := _) rfl (by kernel_rfl) (by kernel_rfl) (by kernel_rfl) (fun _ _ _ h => h) (Or.inl ⟨by rfl, ?hya5⟩) H1 ?resta5
    case hya5 =>
      intro w' hSw
      obtain ⟨s1, s2⟩ := hSw
      go_simp
      try with_reducible rfl
    (try simp only [Act.put, List.getElem_toArray, List.getElem_cons_succ, List.getElem_cons_zero, List.setIfInBounds_toArray, List.set_cons_zero, List.set_cons_succ])
    refine' wpAnyH_take (i := 6) (v := _) rfl (by kernel_rfl) (by kernel_rfl) (by kernel_rfl) (fun _ _ _ h => h) (Or.inl ⟨by rfl, ?hya6⟩) H1 ?resta6
    case hya6 =>
      intro w' hSw
      obtain ⟨s1, s2⟩ := hSw
      go_simp
      try with_reducible rfl
    (try simp only [Act.put, List.getElem_toArray, List.getElem_cons_succ, List.getElem_cons_zero, List.setIfInBounds_toArray, List.set_cons_zero, List.set_cons_succ])
    refine' wpAnyH_take (i := 7) (v := _) rfl (by kernel_rfl) (by kernel_rfl) (by kernel_rfl) (fun _ _ _ h => h) (Or.inl ⟨by rfl, ?hya7⟩) H1 ?resta7
    case hya7 =>
      intro w' hSw
      obtain ⟨s1, s2⟩ := hSw
      go_simp
      try with_reducible rfl
    (try simp only [Act.put, List.getElem_toArray, List.getElem_cons_succ, List.getElem_cons_zero, List.setIfInBounds_toArray, List.set_cons_zero, List.set_cons_succ])
    refine' wpAnyH_take (i := 8) (v := _) rfl (by kernel_rfl) (by kernel_rfl) (by kernel_rfl) (fun _ _ _ h => h) (Or.inl ⟨by rfl, ?hya8⟩) H1 ?resta8
    case hya8 =>
      intro w' hSw
      obtain ⟨s1, s2⟩ := hSw
      go_simp
      try with_reducible rfl
    (try simp only [Act.put, List.getElem_toArray, List.getElem_cons_succ, List.getElem_cons_zero, List.setIfInBounds_toArray, List.set_cons_zero, List.set_cons_succ])
    refine' wpAnyH_take (i := 9) (v := _) rfl (by kernel_rfl) (by kernel_rfl) (by kernel_rfl) (fun _ _ _ h => h) (Or.inl ⟨by rfl, ?hya9⟩) H1 ?resta9
    case hya9 =>
      intro w' hSw
      obtain ⟨s1, s2⟩ := hSw
      go_simp
      try with_reducible rfl
    (try simp only [Act.put, List.getElem_toArray, List.getElem_cons_succ, List.getElem_cons_zero, List.setIfInBounds_toArray, List.set_cons_zero, List.set_cons_succ])
    refine' wpAnyH_take (i := 10) (v := _) rfl (by kernel_rfl) (by kernel_rfl) (by kernel_rfl) (fun _ _ _ h => h) (Or.inl ⟨by rfl, ?hya10⟩) H1 ?resta10
    case hya10 =>
      intro w' hSw
      obtain ⟨s1, s2⟩ := hSw
      go_simp
      try with_reducible rfl
    (try simp only [Act.put, List.getElem_toArray, List.getElem_cons_succ, List.getElem_cons_zero, List.setIfInBounds_toArray, List.set_cons_zero, List.set_cons_succ])
    refine' wpAnyH_take (i := 11) (v := .string ⟨P.toArray⟩) rfl (by kernel_rfl) (by kernel_rfl) (by kernel_rfl) (fun _ _ _ h => h) (Or.inl ⟨by rfl, ?hya11⟩) H1 ?resta11
    case hya11 =>
      intro w' hSw
      obtain ⟨s1, s2⟩ := hSw
      have hl := run_str_of_bytes (P := Tryd.prog) w' 25 9 5 Tryd.underlying25 Tryd.underlying5 Tryd.underlying9 ap PN cp P HPN.out (HPS.out w' s1)
      simp [execOp, Act.eval, hl, Result.andThen]
    (try simp only [Act.put, List.getElem_toArray, List.getElem_cons_succ, List.getElem_cons_zero, List.setIfInBounds_toArray, List.set_cons_zero, List.set_cons_succ])
    refine' wpAnyH_take (i := 12) (v := _) rfl (by kernel_rfl) (by kernel_rfl) (by kernel_rfl) (fun _ _ _ h => h) (Or.inl ⟨by rfl, ?hya12⟩) H1 ?resta12
    case hya12 =>
      intro w' hSw
      obtain ⟨s1, s2⟩ := hSw
      go_simp
      try with_reducible rfl
    (try simp only [Act.put, List.getElem_toArray, List.getElem_cons_succ, List.getElem_cons_zero, List.setIfInBounds_toArray, List.set_cons_zero, List.set_cons_succ])
    refine' wpAnyH_take (i := 13) (v := _) rfl (by kernel_rfl) (by kernel_rfl) (by kernel_rfl) (fun _ _ _ h => h) (Or.inl ⟨by rfl, ?hya13⟩) H1 ?resta13
    case hya13 =>
      intro w' hSw
      obtain ⟨s1, s2⟩ := hSw
      go_simp
      try with_reducible rfl
    (try simp only [Act.put, List.getElem_toArray, List.getElem_cons_succ, List.getElem_cons_zero, List.setIfInBounds_toArray, List.set_cons_zero, List.set_cons_succ])
    refine' wpAnyH_take (i := 14) (v := _) rfl (by kernel_rfl) (by kernel_rfl) (by kernel_rfl) (fun _ _ _ h => h) (Or.inl ⟨by rfl, ?hya14⟩) H1 ?resta14
    case hya14 =>
      intro w' hSw
      obtain ⟨s1, s2⟩ := hSw
      go_simp
      try with_reducible rfl
    (try simp only [Act.put, List.getElem_toArray, List.getElem_cons_succ, List.getElem_cons_zero, List.setIfInBounds_toArray, List.set_cons_zero, List.set_cons_succ])
    refine' wpAnyH_take (i := 15) (v := _) rfl (by kernel_rfl) (by kernel_rfl) (by kernel_rfl) (fun _ _ _ h => h) (Or.inl ⟨by rfl, ?hya15⟩) H1 ?resta15
    case hya15 =>
      intro w' hSw
      obtain ⟨s1, s2⟩ := hSw
      go_simp
      try with_reducible rfl
    (try simp only [Act.put, List.getElem_toArray, List.getElem_cons_succ, List.getElem_cons_zero, List.setIfInBounds_toArray, List.set_cons_zero, List.set_cons_succ])
    refine' wpAnyH_take (i := 16) (v := _) rfl (by kernel_rfl) (by kernel_rfl) (by kernel_rfl) (fun _ _ _ h => h) (Or.inl ⟨by rfl, ?hya16⟩) H1 ?resta16
    case hya16 =>
      intro w' hSw
      obtain ⟨s1, s2⟩ := hSw
      go_simp
      try with_reducible rfl
    (try simp only [Act.put, List.getElem_toArray, List.getElem_cons_succ, List.getElem_cons_zero, List.setIfInBounds_toArray, List.set_cons_zero, List.set_cons_succ])
    refine' wpAnyH_take (i := 17) (v := .agg R) rfl (by kernel_rfl) (by kernel_rfl) (by kernel_rfl) (fun _ _ _ h => h) (Or.inl ⟨by rfl, ?hya17⟩) H1 ?resta17
    case hya17 =>
      intro w' hSw
      obtain ⟨s1, s2⟩ := hSw
      have hld := run_load_hash w' _ _ _ _ s2 HR.out
      simp [execOp, Act.eval, hld, Result.andThen]
    (try simp only [Act.put, List.getElem_toArray, List.getElem_cons_succ, List.getElem_cons_zero, List.setIfInBounds_toArray, List.set_cons_zero, List.set_cons_succ])
    refine' wpAnyH_take (i := 19) (v := _) rfl (by kernel_rfl) (by kernel_rfl) (by kernel_rfl) (fun _ _ _ h => h) (Or.inl ⟨by rfl, ?hya19⟩) H1 ?resta19
    case hya19 =>
      intro w' hSw
      obtain ⟨s1, s2⟩ := hSw
      go_simp
      try with_reducible rfl
    (try simp only [Act.put, List.getElem_toArray, List.getElem_cons_succ, List.getElem_cons_zero, List.setIfInBounds_toArray, List.set_cons_zero, List.set_cons_succ])
    refine' wpAnyH_take (i := 21) (v := .agg R) rfl (by kernel_rfl) (by kernel_rfl) (by kernel_rfl) (fun _ _ _ h => h) (Or.inl ⟨by rfl, ?hya21⟩) H1 ?resta21
    case hya21 =>
      intro w' hSw
      obtain ⟨s1, s2⟩ := hSw
      have hld := run_load_hash w' _ _ _ _ s2 HR.out
      simp [execOp, Act.eval, hld, Result.andThen]
    (try simp only [Act.put, List.getElem_toArray, List.getElem_cons_succ, List.getElem_cons_zero, List.setIfInBounds_toArray, List.set_cons_zero, List.set_cons_succ])
    refine wpAnyH_ready (rs := [18]) (by kernel_rfl) (by simp) (AllReadyH.cons rfl (fun K hK => ?_) AllReadyH.nil)
    go_simp
    refine (KV1.out _ H1.1).mono ?_
    rintro e wx ⟨rfl, Cx⟩
    go_simp
    refine hK.out _ _ (HS.out _ ((H1).1.trans Cx (by simp))) (fun H2 => ?_)
    clear hK K Cx
    refine wpAnyH_ready (rs := [20]) (by kernel_rfl) (by simp) (AllReadyH.cons rfl (fun K hK => ?_) AllReadyH.nil)
    go_simp
    refine (KSU.out _ H2.1).mono ?_
    rintro e wx ⟨rfl, Cx⟩
    go_simp
    refine hK.out _ _ (HS.out _ ((H2).1.trans Cx (by simp))) (fun H3 => ?_)
    clear hK K Cx
    refine' wpAnyH_take (i := 22) (v := .bool BB) rfl (by kernel_rfl) (by kernel_rfl) (by kernel_rfl) (fun _ _ _ h => h) (Or.inl ⟨by rfl, ?hya22⟩) H3 ?resta22
    case hya22 =>
      intro w' hSw
      obtain ⟨s1, s2⟩ := hSw
      have hqq := HQ.out w'
      simp [execOp, Act.eval, hash_guard, hqq, Result.andThen]
    (try simp only [Act.put, List.getElem_toArray, List.getElem_cons_succ, List.getElem_cons_zero, List.setIfInBounds_toArray, List.set_cons_zero, List.set_cons_succ])
    refine' wpAnyH_take (i := 23) (v := _) rfl (by kernel_rfl) (by kernel_rfl) (by kernel_rfl) (fun _ _ _ h => h) (Or.inl ⟨by rfl, ?hya23⟩) H3 ?resta23
    case hya23 =>
      intro w' hSw
      obtain ⟨s1, s2⟩ := hSw
      go_simp
      try with_reducible rfl
    (try simp only [Act.put, List.getElem_toArray, List.getElem_cons_succ, List.getElem_cons_zero, List.setIfInBounds_toArray, List.set_cons_zero, List.set_cons_succ])
    refine' wpAnyH_take (i := 24) (v := _) rfl (by kernel_rfl) (by kernel_rfl) (by kernel_rfl) (fun _ _ _ h => h) (Or.inl ⟨by rfl, ?hya24⟩) H3 ?resta24
    case hya24 =>
      intro w' hSw
      obtain ⟨s1, s2⟩ := hSw
      go_simp
      try with_reducible rfl
    (try simp only [Act.put, List.getElem_toArray, List.getElem_cons_succ, List.getElem_cons_zero, List.setIfInBounds_toArray, List.set_cons_zero, List.set_cons_succ])
    refine' wpAnyH_take (i := 25) (v := _) rfl (by kernel_rfl) (by kernel_rfl) (by kernel_rfl) (fun _ _ _ h => h) (Or.inl ⟨by rfl, ?hya25⟩) H3 ?resta25
    case hya25 =>
      intro w' hSw
      obtain ⟨s1, s2⟩ := hSw
      go_simp
      try with_reducible rfl
    (try simp only [Act.put, List.getElem_toArray, List.getElem_cons_succ, List.getElem_cons_zero, List.setIfInBounds_toArray, List.set_cons_zero, List.set_cons_succ])
    refine' wpAnyH_take (i := 26) (v := _) rfl (by kernel_rfl) (by kernel_rfl) (by kernel_rfl) (fun _ _ _ h => h) (Or.inl ⟨by rfl, ?hya26⟩) H3 ?resta26
    case hya26 =>
      intro w' hSw
      obtain ⟨s1, s2⟩ := hSw
      go_simp
      try with_reducible rfl
    (try simp only [Act.put, List.getElem_toArray, List.getElem_cons_succ, List.getElem_cons_zero, List.setIfInBounds_toArray, List.set_cons_zero, List.set_cons_succ])
    refine' wpAnyH_take (i := 27) (v := _) rfl (by kernel_rfl) (by kernel_rfl) (by kernel_rfl) (fun _ _ _ h => h) (Or.inl ⟨by rfl, ?hya27⟩) H3 ?resta27
    case hya27 =>
      intro w' hSw
      obtain ⟨s1, s2⟩ := hSw
      go_simp
      try with_reducible rfl
    (try simp only [Act.put, List.getElem_toArray, List.getElem_cons_succ, List.getElem_cons_zero, List.setIfInBounds_toArray, List.set_cons_zero, List.set_cons_succ])
    refine wpAnyH_ready (rs := [28]) (by kernel_rfl) (by simp) (AllReadyH.cons rfl (fun K hK => ?_) AllReadyH.nil)
    go_simp
    refine (KSU.out _ H3.1).mono ?_
    rintro e wx ⟨rfl, Cx⟩
    go_simp
    refine hK.out _ _ (HS.out _ ((H3).1.trans Cx (by simp))) (fun H4 => ?_)
    clear hK K Cx
    refine wpAnyH_ready (rs := [29]) (by kernel_rfl) (by simp) (AllReadyH.cons rfl (fun K hK => ?_) AllReadyH.nil)
    go_simp
    refine (KV2.out _ H4.1).mono ?_
    rintro e wx ⟨rfl, Cx⟩
    go_simp
    refine hK.out _ _ (HS.out _ ((H4).1.trans Cx (by simp))) (fun H5 => ?_)
    clear hK K Cx
    refine' wpAnyH_take (i := 30) (v := _) rfl (by kernel_rfl) (by kernel_rfl) (by kernel_rfl) (fun _ _ _ h => h) (Or.inl ⟨by rfl, ?hya30⟩) H5 ?resta30
    case hya30 =>
      intro w' hSw
      obtain ⟨s1, s2⟩ := hSw
      go_simp
      try with_reducible rfl
    (try simp only [Act.put, List.getElem_toArray, List.getElem_cons_succ, List.getElem_cons_zero, List.setIfInBounds_toArray, List.set_cons_zero, List.set_cons_succ])
    refine' wpAnyH_take (i := 31) (v := _) rfl (by kernel_rfl) (by kernel_rfl) (by kernel_rfl) (fun _ _ _ h => h) (Or.inl ⟨by rfl, ?hya31⟩) H5 ?resta31
    case hya31 =>
      intro w' hSw
      obtain ⟨s1, s2⟩ := hSw
      go_simp
      try with_reducible rfl
    (try simp only [Act.put, List.getElem_toArray, List.getElem_cons_succ, List.getElem_cons_zero, List.setIfInBounds_toArray, List.set_cons_zero, List.set_cons_succ])
    refine wpAnyH_done (by kernel_rfl) ?_ _
    have HC9 := Lib.hid (HC8.out.trans H5.1 (by simp))
    have HW9 := Lib.hid (HCW8.out.trans H5.1 (by simp))
    have HO9 := Lib.hid (ownsRow_chg HO4.out (HC5.out.trans HC9.out (by simp)) (by simp))
    have HQS := Lib.hid (fun wr (C : Chg (Value.slice ap PN cp).ownBlock.toList wx wr) => show Src wr aq (bvs P) from by
      have h4 := ownsRow_lt HO4.out
      have h5 := HN5.out
      have ho := ownsRow_chg (ownsRow_chg HO5.out HC9.out (by simp)) C (fun x hx hm => by
        have := h5 x hx
        have := h4 x (by simpa using hm)
        omega)
      exact ownsRow_src ho)
    have HSN1 := Lib.hid (fun wr (C : Chg (Value.slice ap PN cp).ownBlock.toList wx wr) => show Chg [] w1 wr ∧ Chg [] w wr from by
      have h4 := HN4.out
      have h13 := HC13.out.size
      have hw1 := HCW1.out.size
      have C1x := (HC18.out.trans H5.1 (by simp)).trans C (fun x hx => .inr (by have := h4 x (by simpa using hx); omega))
      exact ⟨C1x, HCW1.out.trans C1x (by simp)⟩)
    clear H0 H1 H2 H3 H4 H5 KSA KV1 KV2 KSU HQ HVV HPS HS
    go_wp2_with fail
    go_loopw [15] (fun v wr => ∃ (k : Nat) (ys : List UInt8), v = .int .i64 (k : Int) ∧ k ≤ PN ∧ Hid (wr.ownsRow 0 5 1 (.slice ap PN cp) PN (bvs ys)) ∧ Hid (Chg (Value.slice ap PN cp).ownBlock.toList wx wr)) (fun v _ => PN - (intOf v).toNat)
    case atStart => exact ⟨0, P, rfl, Nat.zero_le _, HO9, Lib.hid (Chg.refl _ _)⟩
    case round =>
      obtain ⟨k, ys, rfl, hk, HO, HC⟩ := hrel
      by_cases hlt : k < PN
      · have e1 : (k : Int) < PN := Int.ofNat_lt.2 hlt
        have e0 : (0 : Int) ≤ k := Int.natCast_nonneg _
        obtain ⟨g, rfl⟩ := ownsRow_head HO.out (by omega)
        have hkc : k < cp := by obtain ⟨_, _, e, h, _⟩ := ownsRow_slice HO.out; cases e; omega
        obtain ⟨y, hy⟩ : ∃ y, ys[k]? = some y := ⟨_, List.getElem?_eq_getElem (by have := HO.out.1; rw [bvs_length] at this; omega)⟩
        have hyc : (bvs ys)[k]? = some (bv y) := by unfold bvs; rw [List.getElem?_map, hy]; rfl
        obtain ⟨hc0, hf1⟩ := ownsRow_cell1 HO.out hyc
        have hc1 : wr.cell? ⟨g, k, none⟩ = some (.int .u8 (y.toNat : Int)) := hc0
        clear hc0
        have hxr := xor255 y
        have ho2 := ownsRow_set1 HO.out (k := k) (bv (y ^^^ 255))
        rw [bvs_set] at ho2
        have HO2 := Lib.hid ho2
        have HC2 : Hid (Chg (Value.slice (some ⟨g, 0, none⟩) PN cp).ownBlock.toList wx (wr.setCell ⟨g, k, none⟩ (bv (y ^^^ 255)))) := Lib.hid (HC.out.trans (Chg.setCell (S := (Value.slice (some ⟨g, 0, none⟩) PN cp).ownBlock.toList) wr ⟨g, k, none⟩ (bv (y ^^^ 255)) (.inl (by simp [Value.ownBlock]))) (fun x hx => .inl hx))
        clear ho2 hyc hy
        go_wp2_with fail
        go_roundw
        case rel => exact ⟨k + 1, ys.set k (y ^^^ 255), by go_num, hlt, HO2, HC2⟩
        case measure => simp [intOf] <;> omega
      · have e1 : ¬ (k : Int) < PN := fun h => hlt (Int.ofNat_lt.1 h)
        obtain ⟨hc1r, hcwr⟩ := HSN1.out wr HC.out
        have s1 := HQS.out wr HC.out
        have s2 := ownsRow_src (ownsRow_chg HO1.out hc1r (by simp))
        have s3 := HSW.out wr (HC01.out.trans hc1r (by simp))
        have KWF := Lib.hid (KW.out wr hcwr)
        have HCR := Lib.hid hcwr
        have l1 : (⟨P.toArray⟩ : ByteArray).data.toList.length = PN := HPN.out
        have l2 : (⟨l.toArray⟩ : ByteArray).data.toList.length = n := HN.out
        clear hc1r hcwr
        go_wp2_with (first | (refine wpList_str_of_bytes _ rfl 25 9 (.tmp 89) rfl 5 Tryd.underlying25 Tryd.underlying5 Tryd.underlying9 aq PN cq rfl ⟨P.toArray⟩ l1 s1 ?_) | (refine wpList_str_of_bytes _ (by go_simp) 25 9 (.tmp 94) rfl 5 Tryd.underlying25 Tryd.underlying5 Tryd.underlying9 ao1 n c1 rfl ⟨l.toArray⟩ l2 s2 ?_) | (refine wpList_str_of_bytes _ (by go_simp) 25 9 (.tmp 96) rfl 5 Tryd.underlying25 Tryd.underlying5 Tryd.underlying9 ao n c rfl ⟨l.toArray⟩ l2 s3 ?_))
        refine KWF.out.mono ?_
        rintro e w6 ⟨rfl, C6⟩
        go_wp2_with fail
        go_ret
        exact ⟨rfl, HCR.out.trans C6 (by simp)⟩
end Go.Proofs.YtfdhpjflkimihaaDoor
