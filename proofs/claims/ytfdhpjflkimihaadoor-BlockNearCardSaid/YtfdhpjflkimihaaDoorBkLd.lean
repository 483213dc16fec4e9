/- What the law BlockNear does: true, and it leaves what was there. No conditions beyond those that each statement types. -/
import Derived.Test.YtfdhpjflkimihaaDoorBkLb
import Derived.Test.YtfdhpjflkimihaaDoorBkLc
namespace Go.Proofs.YtfdhpjflkimihaaDoor
open Go.RowKit

theorem run_neq_hash (f g : Nat → UInt8) (w : World) : (binOp .neq 32 (hashV f) (hashV g)).run Tryd.prog w = .ok (.bool (!sameHash f g)) w := by
  obtain ⟨i, hi⟩ := u8_info
  unfold hashV
  rw [run_neq_struct, run_equalIn_array w 9999 (hashC f) (hashC g) Tryd.underlying32 hi, u8_cells, run_eq_bytes f g w 9998 _ (fun j hj => List.mem_range.1 hj)]
  rfl
theorem hash_guardn (x y : Operand) (X Y : Array Value) (w : World) : (eqGuard .neq 32 x y (.agg X) (.agg Y)).run Tryd.prog w = .ok () w := by
  have h : Tryd.prog.eqGuardType Tryd.prog.depth 32 = false := by kernel_rfl
  have hp : (program).run Tryd.prog w = .ok Tryd.prog w := rfl
  simp [eqGuard, hp, h, Result.andThen]

theorem small64 {n N : Nat} (h : n < N) (h2 : N ≤ 32) : wrap64 (n : Int) = (n : Int) ∧ IntKind.i64.wrap (n : Int) = (n : Int) := ⟨by unfold wrap64; omega, by rw [IntKind.wrap_i64]; omega⟩
theorem wrap1 {i N : Nat} (h : i < N) (h2 : N ≤ 32) : wrap64 ((i : Int) + 1) = (i : Int) + 1 := by unfold wrap64; omega
theorem meas_of {i N : Nat} (h : i + 1 ≤ N) : N - (intOf (.int .i64 ((i : Int) + 1))).toNat < N - (intOf (.int .i64 (i : Int))).toNat := by
  show N - ((i : Int) + 1).toNat < N - (i : Int).toNat
  omega
def fL (l : List UInt8) (i : Nat) : Nat → UInt8 := digest (partL l i)
theorem fL_at {l : List UInt8} {i : Nat} (h : i < cntN l.length) : (listL l)[i]? = some (fL l i) := by
  rw [listL, List.getElem?_map, partsL_get h]
  rfl
set_option maxRecDepth 100000 in
set_option maxHeartbeats 8000000 in
theorem block_near (ao : Option Addr) (c : Nat) (l : List UInt8) (hlm : l.length ≤ 9223372036854775807) (hc0 : ao = none → c = 0) (hlc : l.length ≤ c) (a : Int) (ha : 0 ≤ a ∧ a ≤ 65535) (t : Int) (ht : 0 ≤ t ∧ t ≤ 255) (w : World) (hL : Laid w) (hs : Src w ao (bvs l)) :
    Calls Tryd.prog 4 #[.slice ao l.length c, .int .u16 a, .int .u8 t] w (Holds w) := by
  have KW := Lib.hid (fun w' (C : Chg [] w w') => law_awake w' (hL.chg C (by simp)))
  by_cases h0 : l.length = 0
  · have h' : (l.length : Int) = 0 := by omega
    clear hs hL hc0 hlc hlm h0
    generalize l.length = n at *
    go_enter Tryd.func4, Tryd.ntmps4
    go_wp2_with fail
    refine (KW.out _ (Chg.refl _ _)).mono ?_
    rintro e w1 ⟨rfl, C⟩
    go_wp2_with fail
    go_ret
    exact ⟨rfl, C⟩
  · by_cases hbig : 4096 < l.length
    · have h' : ¬ ((l.length : Int) = 0) := by omega
      have h2 : (l.length : Int) > 4096 := by omega
      clear hs hL hc0 hlc hlm
      generalize l.length = n at *
      go_enter Tryd.func4, Tryd.ntmps4
      go_wp2_with fail
      refine (KW.out _ (Chg.refl _ _)).mono ?_
      rintro e w1 ⟨rfl, C⟩
      go_wp2_with fail
      go_ret
      exact ⟨rfl, C⟩
    · have h' : ¬ ((l.length : Int) = 0) := by omega
      have h2 : ¬ (l.length : Int) > 4096 := by omega
      have hl4 : l.length ≤ 4096 := by omega
      obtain ⟨A, rfl⟩ : ∃ A : Nat, a = A := ⟨a.toNat, by omega⟩
      obtain ⟨x, rfl⟩ : ∃ x : UInt8, t = x.toNat := ⟨UInt8.ofNat t.toNat, by rw [UInt8.toNat_ofNat', Nat.mod_eq_of_lt (by omega)]; omega⟩
      obtain ⟨ad, rfl, had⟩ := hs.lt (by rw [bvs_length]; omega)
      obtain ⟨k, hk⟩ : ∃ k, A % l.length = k := ⟨_, rfl⟩
      have hkn : k < l.length := by rw [← hk]; exact Nat.mod_lt _ (by omega)
      have hrem : (A : Int).tmod l.length = (k : Int) := by rw [← hk]; rfl
      obtain ⟨y, hy⟩ : ∃ y, l[k]? = some y := ⟨_, List.getElem?_eq_getElem hkn⟩
      have hB := bszN_pos hl4
      have hbl := bszN_le l.length
      have hcl := cntN_le l.length
      have hkb : k / bszN l.length < cntN l.length := by
        rw [cntN_lt hl4]
        have := Nat.div_mul_le_self k (bszN l.length)
        omega
      have hquo : (k : Int).tdiv (bszN l.length) = ((k / bszN l.length : Nat) : Int) := rfl
      have KS := Lib.hid (fun w' => blk_size l.length w')
      rw [show bszZ l.length = bszN l.length by unfold bszZ; rw [if_neg (by omega)]; rfl] at KS
      have HSAME := Lib.hid (fun i (hi : i ≠ k / bszN l.length) => show fL (l.set k x) i = fL l i by unfold fL; rw [part_set x hB.1 hi])
      have HSET : Hid ((l.set k x).length = l.length) := Lib.hid (by simp)
      have HLL := Lib.hid (listL_length l)
      have HLL2 := Lib.hid (show (listL (l.set k x)).length = cntN l.length by rw [listL_length, List.length_set])
      have HAT := Lib.hid (fun i (hi : i < cntN l.length) => fL_at hi)
      have HAT2 := Lib.hid (fun i (hi : i < cntN l.length) => show (listL (l.set k x))[i]? = some (fL (l.set k x) i) from fL_at (by rw [List.length_set]; exact hi))
      have HSELF := Lib.hid (fun (e : x = y) => show l.set k x = l by
        subst e
        apply List.ext_getElem?
        intro j
        rw [List.getElem?_set]
        split
        · rename_i e
          subst e
          rw [hy]
        · rfl)
      have KL1 := Lib.hid (fun w' (C : Chg [] w w') => by
        have := blk_List l (some ad) c w' (hL.chg C (by simp)) (hs.chg C (by simp)) hlc
        rw [show listO l = some (listL l) by unfold listO; rw [if_neg hbig]] at this
        exact this)
      have KL2 := Lib.hid (fun w' g cc (C : Chg [] w w') (ho : w'.ownsRow 0 5 1 (.slice (some ⟨g, 0, none⟩) l.length cc) l.length (bvs (l.set k x))) => by
        have := blk_List (l.set k x) (some ⟨g, 0, none⟩) cc w' (hL.chg C (by simp)) (ownsRow_src ho) (by rw [List.length_set]; obtain ⟨_, _, e, h, _⟩ := ownsRow_slice ho; cases e; exact h)
        rw [show listO (l.set k x) = some (listL (l.set k x)) by unfold listO; rw [if_neg (by simp; omega)], List.length_set] at this
        exact this)
      have HSRC := Lib.hid hs
      have HY := Lib.hid hy
      have hbv : (bvs l).length = l.length * 1 := by rw [bvs_length, Nat.mul_one]
      obtain ⟨i0, hi, hz0, hz1, hz2⟩ := info_parts Tryd.infoU8'
      have CA := Chg.alloc [] w (.cells #[] 5)
      have hsA := hs.chg CA (by simp)
      have hown := World.ownsRow_made w #[] 0 (Nat.zero_le _) (Nat.zero_le _) (e := 5) (size := 1) (base := 0) rfl
      obtain ⟨B, hBB⟩ : ∃ B, bszN l.length = B := ⟨_, rfl⟩
      obtain ⟨N, hNN⟩ : ∃ N, cntN l.length = N := ⟨_, rfl⟩
      obtain ⟨n, hnn⟩ : ∃ n, l.length = n := ⟨_, rfl⟩
      rw [hBB] at hB hbl hkb hquo KS HSAME
      rw [hNN] at hcl hkb HLL HLL2 HAT HAT2
      have Hn := Lib.hid hnn
      obtain ⟨kb, hkbe⟩ : ∃ kb, k / B = kb := ⟨_, rfl⟩
      rw [hkbe] at hkb hquo HSAME
      have hq1 : (k : Int) / (B : Int) = (kb : Int) := by rw [← hkbe]; rfl
      have hq2 : wrap64 ((k : Int) / (B : Int)) = (kb : Int) := by rw [hq1]; exact (small64 hkb hcl).1
      rw [hnn] at h' h2 hkn hrem KS HSET KL1 KL2 hbv hl4 hlc ⊢
      have hk1 : ¬ (k : Int) ≥ n := fun h => absurd (Int.ofNat_le.1 h) (Nat.not_le.2 hkn)
      have HB0 : Hid (¬ B = 0) := Lib.hid (Nat.ne_of_gt hB.1)
      have HWQ : Hid (IntKind.i64.wrap ((k : Int) / (B : Int)) = (kb : Int)) := Lib.hid (by rw [hq1]; exact (small64 hkb hcl).2)
      have hB0 : ¬ ((B : Int) = 0) := fun e => absurd (Int.ofNat_inj.1 e) (Nat.ne_of_gt hB.1)
      have hB1 : ((B : Int) < 1) = False := eq_false (fun h => absurd hB.1 (Nat.not_lt.2 (Nat.le_of_lt_succ (Int.ofNat_lt.1 (show ((B : Nat) : Int) < ((1 : Nat) : Int) from h)))))
      have hB2 : ((N : Int) ≤ (kb : Int)) = False := eq_false (fun h => absurd (Int.ofNat_le.1 h) (Nat.not_le.2 hkb))
      have hA0 : (0 : Int) ≤ A ∧ (A : Int) ≤ 65535 := ha
      have hxb : (0 : Int) ≤ (x.toNat : Int) ∧ (x.toNat : Int) ≤ 255 := ht
      clear hs hL h0 hbig hlm hc0 hy hBB hNN hnn hk ha ht hq1 hquo hkbe
      go_enter Tryd.func4, Tryd.ntmps4
      go_upto_region 4 with (fail)
      clear hrem
      have HCA := Lib.hid CA
      have HQ2 := Lib.hid hq2
      clear hq2
      go_upto_region 5 with (at_builtin; refine wpList_append_x _ rfl _ _ 25 rfl 5 i0 _ 1 1 Tryd.underlying25 hi hz0 hz1 hz2 rfl (by decide) (.slice (some ⟨w.heap.size, 0, none⟩) 0 0) 0 [] rfl hown (some ad) n c (bvs l) rfl hbv hsA (fun h => by cases h) (bvs_one _) (by unfold maxLen; omega) (by omega) ?_)
      intro ao1 c1 w1 hown1 hgr hblk
      try simp only [Nat.zero_add, List.nil_append] at hown1
      try simp only [Nat.zero_add] at hblk
      try simp only [Nat.zero_add]
      have CG := CA.trans (Chg.grown hgr (S := [w.heap.size]) (fun x hx => .inl (by simpa [Value.ownBlock] using hx.symm))) (fun x hx => by simp at hx; right; omega)
      have HNB : Hid (∀ b, (Value.slice ao1 n c1).ownBlock = some b → w.heap.size ≤ b) := Lib.hid (fun b hb => by
        rcases hblk with h | h <;> rw [h] at hb
        · exact Nat.le_of_eq (Option.some.inj hb)
        · rw [← Option.some.inj hb]
          exact Nat.le_succ _)
      obtain ⟨g, rfl⟩ := ownsRow_head hown1 (by omega)
      have hyc : (bvs l)[k]? = some (bv y) := by unfold bvs; rw [List.getElem?_map, HY.out]; rfl
      obtain ⟨hc1, hf1⟩ := ownsRow_cell1 hown1 hyc
      have hown2 := ownsRow_set1 hown1 (k := k) (bv x)
      rw [bvs_set] at hown2
      have hgw : w.heap.size ≤ g := HNB.out g rfl
      have C2 := CG.trans (Chg.setCell (S := [g]) w1 ⟨g, k, none⟩ (bv x) (.inl (by simp))) (fun x hx => by simp at hx; right; omega)
      have hkc1 : k < c1 := by obtain ⟨_, _, e, h, _⟩ := ownsRow_slice hown1; cases e; omega
      have hk0 : (0 : Int) ≤ k := by omega
      have hkn2 : (k : Int) < n := by omega
      have HO2 := Lib.hid hown2
      have HC2 := Lib.hid C2
      clear hown1 hgr hblk hown hsA hbv hi hz0 hz1 hz2 hown2 C2 CG CA hyc
      go_upto_region 6 with (fail)
      change Code.wp _ _ _ _ (w1.setCell ⟨g, k, none⟩ (bv x))
      generalize w1.setCell ⟨g, k, none⟩ (bv x) = w2 at *
      have K1 := Lib.hid (KL1.out w2 HC2.out)
      clear hc1 hf1 KL1
      go_wp2_with fail
      refine K1.out.mono ?_
      rintro e w3 ⟨C3, a3, c3, rfl, ho3, hn3⟩
      have HC3 := Lib.hid (HC2.out.trans C3 (by simp))
      have K2 := Lib.hid (KL2.out w3 g c1 HC3.out (ownsRow_chg HO2.out C3 (by simp)))
      rw [HLL.out] at ho3 ⊢
      have HO3 := Lib.hid ho3
      clear ho3 hn3 C3 K1 HC2 HO2 KL2
      go_wp2_with fail
      refine K2.out.mono ?_
      rintro e w4 ⟨C4, a4, c4, rfl, ho4, hn4⟩
      rw [HLL2.out] at ho4 ⊢
      have HCW := Lib.hid (HC3.out.trans C4 (by simp))
      have HO3' := Lib.hid (ownsRow_chg HO3.out C4 (by simp))
      have hNp : 0 < N := Nat.lt_of_le_of_lt (Nat.zero_le _) hkb
      obtain ⟨g3, rfl⟩ := ownsRow_head HO3'.out hNp
      obtain ⟨g4, rfl⟩ := ownsRow_head ho4 hNp
      have HO4 := Lib.hid ho4
      obtain ⟨fA, hfA⟩ : ∃ fA, fL l = fA := ⟨_, rfl⟩
      obtain ⟨fB, hfB⟩ : ∃ fB, fL (l.set k x) = fB := ⟨_, rfl⟩
      rw [hfA] at HAT HSAME
      rw [hfB] at HAT2 HSAME
      have HLD : Hid (∀ i w', i < N → Chg [] w4 w' → (Instr.loadAt 32 (.pointer (some ⟨g3, i * 32, none⟩))).run Tryd.prog w' = .ok (.agg (hashC (fA i))) w' ∧ (Instr.loadAt 32 (.pointer (some ⟨g4, i * 32, none⟩))).run Tryd.prog w' = .ok (.agg (hashC (fB i))) w') := Lib.hid (fun i w' hi C => by
        have h1 := ownsRow_chg HO3'.out C (by simp)
        have h2 := ownsRow_chg HO4.out C (by simp)
        rw [← HLL.out] at h1
        rw [← HLL2.out] at h2
        exact ⟨load_of_list h1 rfl (HAT.out i hi), load_of_list h2 rfl (HAT2.out i hi)⟩)
      have HDK : Hid (∀ w', Chg [] w4 w' → w'.cell? (ad.add k) = some (.int .u8 (y.toNat : Int))) := Lib.hid (fun w' C => by
        have h := (HSRC.out.chg (HCW.out.trans C (by simp)) (by simp)).cell ad rfl k (bv y) (by unfold bvs; rw [List.getElem?_map, HY.out]; rfl)
        exact h)
      have HSF := Lib.hid (fun (e : x = y) => show fB = fA by rw [← hfA, ← hfB, HSELF.out e])
      clear ho4 hn4 C4 HO3 HO3' HO4 hfA hfB HC3 K2 HLL HLL2 HAT HAT2
      go_wp2_with fail
      refine (KS.out _).mono ?_
      rintro e w5 ⟨rfl, rfl⟩
      have hqw := HQ2.out
      go_wp2_with fail
      clear hqw
      go_loopw [14] (fun v wr => ∃ i : Nat, v = .int .i64 (i : Int) ∧ i ≤ N ∧ Hid (Chg [] w4 wr)) (fun v _ => N - (intOf v).toNat)
      case atStart => exact ⟨0, rfl, Nat.zero_le _, Lib.hid (Chg.refl _ _)⟩
      case round =>
        obtain ⟨i, rfl, hiN, HC⟩ := hrel
        by_cases hlt : i < N
        · clear had hbl hl4 h2 h' hk1 hB0 hB1 hB2 hgw hkc1 hk0 hkn2 hNp hlc hA0 hxb hkn hB
          have e1 : (i : Int) < N := Int.ofNat_lt.2 hlt
          have e2 : (0 : Int) ≤ i := Int.natCast_nonneg _
          have hwi : wrap64 ((i : Int) + 1) = (i : Int) + 1 := wrap1 hlt hcl
          by_cases hik : i = kb
          · subst hik
            have hqw := HQ2.out
            go_upto_region 14 with (fail)
            refine wp_region_held_drew (S := fun w' => Chg [] wr w') (by kernel_rfl) (Chg.drewN _ wr 1) (fun H0 => ?_)
            refine' wpAnyH_take (i := 0) (v := _) rfl (by kernel_rfl) (by kernel_rfl) (by kernel_rfl) (fun _ _ _ h => h) (Or.inl ⟨by rfl, ?hya0⟩) H0 ?resta0
            case hya0 =>
              intro w' hSw
              have s1 := hSw
              go_simp
              try with_reducible rfl
            (try simp only [Act.put, List.getElem_toArray, List.getElem_cons_zero, List.setIfInBounds_toArray, List.set_cons_zero, List.set_cons_succ])
            refine' wpAnyH_take (i := 1) (v := _) rfl (by kernel_rfl) (by kernel_rfl) (by kernel_rfl) (fun _ _ _ h => h) (Or.inl ⟨by rfl, ?hya1⟩) H0 ?resta1
            case hya1 =>
              intro w' hSw
              have s1 := hSw
              go_simp
              try with_reducible rfl
            (try simp only [Act.put, List.getElem_toArray, List.getElem_cons_succ, List.getElem_cons_zero, List.setIfInBounds_toArray, List.set_cons_zero, List.set_cons_succ])
            refine' wpAnyH_take (i := 2) (v := _) rfl (by kernel_rfl) (by kernel_rfl) (by kernel_rfl) (fun _ _ _ h => h) (Or.inl ⟨by rfl, ?hya2⟩) H0 ?resta2
            case hya2 =>
              intro w' hSw
              have s1 := hSw
              go_simp
              try with_reducible rfl
            (try simp only [Act.put, List.getElem_toArray, List.getElem_cons_succ, List.getElem_cons_zero, List.setIfInBounds_toArray, List.set_cons_zero, List.set_cons_succ])
            refine' wpAnyH_take (i := 3) (v := .int .i64 i) rfl (by kernel_rfl) (by kernel_rfl) (by kernel_rfl) (fun _ _ _ h => h) (Or.inl ⟨by rfl, ?hya3⟩) H0 ?resta3
            case hya3 =>
              intro w' hSw
              have s1 := hSw
              go_simp
              simp [HB0.out, HWQ.out]
            (try simp only [Act.put, List.getElem_toArray, List.getElem_cons_succ, List.getElem_cons_zero, List.setIfInBounds_toArray, List.set_cons_zero, List.set_cons_succ])
            refine' wpAnyH_take (i := 4) (v := .bool false) rfl (by kernel_rfl) (by kernel_rfl) (by kernel_rfl) (fun _ _ _ h => h) (Or.inl ⟨by rfl, ?hya4⟩) H0 ?resta4
            case hya4 =>
              intro w' hSw
              have s1 := hSw
              go_simp
              try simp
            (try simp only [Act.put, List.getElem_toArray, List.getElem_cons_succ, List.getElem_cons_zero, List.setIfInBounds_toArray, List.set_cons_zero, List.set_cons_succ])
            refine' wpAnyH_take (i := 5) (v := _) rfl (by kernel_rfl) (by kernel_rfl) (by kernel_rfl) (fun _ _ _ h => h) (Or.inl ⟨by rfl, ?hya5⟩) H0 ?resta5
            case hya5 =>
              intro w' hSw
              have s1 := hSw
              go_simp
              try with_reducible rfl
            (try simp only [Act.put, List.getElem_toArray, List.getElem_cons_succ, List.getElem_cons_zero, List.setIfInBounds_toArray, List.set_cons_zero, List.set_cons_succ])
            refine wpAnyH_take (i := 6) (v := undef) rfl (by kernel_rfl) (by kernel_rfl) (by kernel_rfl) (fun _ _ _ h => h) (Or.inr ⟨by rfl, rfl⟩) H0 ?_
            (try simp only [Act.put, List.getElem_toArray, List.getElem_cons_succ, List.getElem_cons_zero, List.setIfInBounds_toArray, List.set_cons_zero, List.set_cons_succ])
            refine wpAnyH_take (i := 7) (v := undef) rfl (by kernel_rfl) (by kernel_rfl) (by kernel_rfl) (fun _ _ _ h => h) (Or.inr ⟨by rfl, rfl⟩) H0 ?_
            (try simp only [Act.put, List.getElem_toArray, List.getElem_cons_succ, List.getElem_cons_zero, List.setIfInBounds_toArray, List.set_cons_zero, List.set_cons_succ])
            refine wpAnyH_take (i := 8) (v := undef) rfl (by kernel_rfl) (by kernel_rfl) (by kernel_rfl) (fun _ _ _ h => h) (Or.inr ⟨by rfl, rfl⟩) H0 ?_
            (try simp only [Act.put, List.getElem_toArray, List.getElem_cons_succ, List.getElem_cons_zero, List.setIfInBounds_toArray, List.set_cons_zero, List.set_cons_succ])
            refine wpAnyH_take (i := 9) (v := undef) rfl (by kernel_rfl) (by kernel_rfl) (by kernel_rfl) (fun _ _ _ h => h) (Or.inr ⟨by rfl, rfl⟩) H0 ?_
            (try simp only [Act.put, List.getElem_toArray, List.getElem_cons_succ, List.getElem_cons_zero, List.setIfInBounds_toArray, List.set_cons_zero, List.set_cons_succ])
            refine wpAnyH_take (i := 10) (v := undef) rfl (by kernel_rfl) (by kernel_rfl) (by kernel_rfl) (fun _ _ _ h => h) (Or.inr ⟨by rfl, rfl⟩) H0 ?_
            (try simp only [Act.put, List.getElem_toArray, List.getElem_cons_succ, List.getElem_cons_zero, List.setIfInBounds_toArray, List.set_cons_zero, List.set_cons_succ])
            refine wpAnyH_take (i := 11) (v := undef) rfl (by kernel_rfl) (by kernel_rfl) (by kernel_rfl) (fun _ _ _ h => h) (Or.inr ⟨by rfl, rfl⟩) H0 ?_
            (try simp only [Act.put, List.getElem_toArray, List.getElem_cons_succ, List.getElem_cons_zero, List.setIfInBounds_toArray, List.set_cons_zero, List.set_cons_succ])
            refine wpAnyH_take (i := 12) (v := undef) rfl (by kernel_rfl) (by kernel_rfl) (by kernel_rfl) (fun _ _ _ h => h) (Or.inr ⟨by rfl, rfl⟩) H0 ?_
            (try simp only [Act.put, List.getElem_toArray, List.getElem_cons_succ, List.getElem_cons_zero, List.setIfInBounds_toArray, List.set_cons_zero, List.set_cons_succ])
            refine wpAnyH_take (i := 13) (v := undef) rfl (by kernel_rfl) (by kernel_rfl) (by kernel_rfl) (fun _ _ _ h => h) (Or.inr ⟨by rfl, rfl⟩) H0 ?_
            (try simp only [Act.put, List.getElem_toArray, List.getElem_cons_succ, List.getElem_cons_zero, List.setIfInBounds_toArray, List.set_cons_zero, List.set_cons_succ])
            refine wpAnyH_take (i := 14) (v := undef) rfl (by kernel_rfl) (by kernel_rfl) (by kernel_rfl) (fun _ _ _ h => h) (Or.inr ⟨by rfl, rfl⟩) H0 ?_
            (try simp only [Act.put, List.getElem_toArray, List.getElem_cons_succ, List.getElem_cons_zero, List.setIfInBounds_toArray, List.set_cons_zero, List.set_cons_succ])
            refine' wpAnyH_take (i := 15) (v := _) rfl (by kernel_rfl) (by kernel_rfl) (by kernel_rfl) (fun _ _ _ h => h) (Or.inl ⟨by rfl, ?hya15⟩) H0 ?resta15
            case hya15 =>
              intro w' hSw
              have s1 := hSw
              go_simp
              try with_reducible rfl
            (try simp only [Act.put, List.getElem_toArray, List.getElem_cons_succ, List.getElem_cons_zero, List.setIfInBounds_toArray, List.set_cons_zero, List.set_cons_succ])
            refine wpAnyH_done (by kernel_rfl) ?_ _
            have HC6 := Lib.hid (HC.out.trans H0 (by simp))
            clear hqw H0
            go_wp2_with fail
            go_roundw
            case rel => exact ⟨i + 1, rfl, hlt, HC6⟩
            case measure =>
              exact meas_of hlt
          · have hq2 : (i : Int) ≠ (kb : Int) := fun e => hik (Int.ofNat_inj.1 e)
            have hq : ((i : Int) == (kb : Int)) = false := beq_eq_false_iff_ne.2 hq2
            have HNE := Lib.hid (fun i w' => run_neq_hash (fA i) (fB i) w')
            have HNE : Hid (∀ (i : Nat) w', (binOp .neq 32 (.agg (hashC (fA i))) (.agg (hashC (fB i)))).run Tryd.prog w' = .ok (.bool (!sameHash (fA i) (fB i))) w') := HNE
            have HNE : Hid (∀ (j : Nat) w', (binOp .neq 32 (.agg (hashC (fA i))) (.agg (hashC (fB i)))).run Tryd.prog w' = .ok (.bool false) w') := Lib.hid (fun _ w' => by rw [HNE.out i w', HSAME.out i hik, self_same]; rfl)
            have hqw := HQ2.out
            go_upto_region 14 with (fail)
            refine wp_region_held_drew (S := fun w' => Chg [] wr w') (by kernel_rfl) (Chg.drewN _ wr 1) (fun H0 => ?_)
            refine' wpAnyH_take (i := 0) (v := _) rfl (by kernel_rfl) (by kernel_rfl) (by kernel_rfl) (fun _ _ _ h => h) (Or.inl ⟨by rfl, ?hyb0⟩) H0 ?restb0
            case hyb0 =>
              intro w' hSw
              have s1 := hSw
              go_simp
              try with_reducible rfl
            (try simp only [Act.put, List.getElem_toArray, List.getElem_cons_zero, List.setIfInBounds_toArray, List.set_cons_zero, List.set_cons_succ])
            refine' wpAnyH_take (i := 1) (v := _) rfl (by kernel_rfl) (by kernel_rfl) (by kernel_rfl) (fun _ _ _ h => h) (Or.inl ⟨by rfl, ?hyb1⟩) H0 ?restb1
            case hyb1 =>
              intro w' hSw
              have s1 := hSw
              go_simp
              try with_reducible rfl
            (try simp only [Act.put, List.getElem_toArray, List.getElem_cons_succ, List.getElem_cons_zero, List.setIfInBounds_toArray, List.set_cons_zero, List.set_cons_succ])
            refine' wpAnyH_take (i := 2) (v := _) rfl (by kernel_rfl) (by kernel_rfl) (by kernel_rfl) (fun _ _ _ h => h) (Or.inl ⟨by rfl, ?hyb2⟩) H0 ?restb2
            case hyb2 =>
              intro w' hSw
              have s1 := hSw
              go_simp
              try with_reducible rfl
            (try simp only [Act.put, List.getElem_toArray, List.getElem_cons_succ, List.getElem_cons_zero, List.setIfInBounds_toArray, List.set_cons_zero, List.set_cons_succ])
            refine' wpAnyH_take (i := 3) (v := .int .i64 kb) rfl (by kernel_rfl) (by kernel_rfl) (by kernel_rfl) (fun _ _ _ h => h) (Or.inl ⟨by rfl, ?hyb3⟩) H0 ?restb3
            case hyb3 =>
              intro w' hSw
              have s1 := hSw
              go_simp
              simp [HB0.out, HWQ.out]
            (try simp only [Act.put, List.getElem_toArray, List.getElem_cons_succ, List.getElem_cons_zero, List.setIfInBounds_toArray, List.set_cons_zero, List.set_cons_succ])
            refine' wpAnyH_take (i := 4) (v := .bool true) rfl (by kernel_rfl) (by kernel_rfl) (by kernel_rfl) (fun _ _ _ h => h) (Or.inl ⟨by rfl, ?hyb4⟩) H0 ?restb4
            case hyb4 =>
              intro w' hSw
              have s1 := hSw
              go_simp
              try simp [hik]
            (try simp only [Act.put, List.getElem_toArray, List.getElem_cons_succ, List.getElem_cons_zero, List.setIfInBounds_toArray, List.set_cons_zero, List.set_cons_succ])
            refine' wpAnyH_take (i := 5) (v := _) rfl (by kernel_rfl) (by kernel_rfl) (by kernel_rfl) (fun _ _ _ h => h) (Or.inl ⟨by rfl, ?hyb5⟩) H0 ?restb5
            case hyb5 =>
              intro w' hSw
              have s1 := hSw
              go_simp
              try with_reducible rfl
            (try simp only [Act.put, List.getElem_toArray, List.getElem_cons_succ, List.getElem_cons_zero, List.setIfInBounds_toArray, List.set_cons_zero, List.set_cons_succ])
            refine' wpAnyH_take (i := 6) (v := _) rfl (by kernel_rfl) (by kernel_rfl) (by kernel_rfl) (fun _ _ _ h => h) (Or.inl ⟨by rfl, ?hyb6⟩) H0 ?restb6
            case hyb6 =>
              intro w' hSw
              have s1 := hSw
              go_simp
              try with_reducible rfl
            (try simp only [Act.put, List.getElem_toArray, List.getElem_cons_succ, List.getElem_cons_zero, List.setIfInBounds_toArray, List.set_cons_zero, List.set_cons_succ])
            refine' wpAnyH_take (i := 7) (v := _) rfl (by kernel_rfl) (by kernel_rfl) (by kernel_rfl) (fun _ _ _ h => h) (Or.inl ⟨by rfl, ?hyb7⟩) H0 ?restb7
            case hyb7 =>
              intro w' hSw
              have s1 := hSw
              go_simp
              try with_reducible rfl
            (try simp only [Act.put, List.getElem_toArray, List.getElem_cons_succ, List.getElem_cons_zero, List.setIfInBounds_toArray, List.set_cons_zero, List.set_cons_succ])
            refine' wpAnyH_take (i := 8) (v := _) rfl (by kernel_rfl) (by kernel_rfl) (by kernel_rfl) (fun _ _ _ h => h) (Or.inl ⟨by rfl, ?hyb8⟩) H0 ?restb8
            case hyb8 =>
              intro w' hSw
              have s1 := hSw
              go_simp
              try with_reducible rfl
            (try simp only [Act.put, List.getElem_toArray, List.getElem_cons_succ, List.getElem_cons_zero, List.setIfInBounds_toArray, List.set_cons_zero, List.set_cons_succ])
            refine' wpAnyH_take (i := 9) (v := .agg (hashC (fA i))) rfl (by kernel_rfl) (by kernel_rfl) (by kernel_rfl) (fun _ _ _ h => h) (Or.inl ⟨by rfl, ?hyb9⟩) H0 ?restb9
            case hyb9 =>
              intro w' hSw
              have s1 := hSw
              have hl := HLD.out i w' hlt (HC.out.trans s1 (by simp))
              simp [execOp, Act.eval, hl.1, Result.andThen]
            (try simp only [Act.put, List.getElem_toArray, List.getElem_cons_succ, List.getElem_cons_zero, List.setIfInBounds_toArray, List.set_cons_zero, List.set_cons_succ])
            refine' wpAnyH_take (i := 10) (v := _) rfl (by kernel_rfl) (by kernel_rfl) (by kernel_rfl) (fun _ _ _ h => h) (Or.inl ⟨by rfl, ?hyb10⟩) H0 ?restb10
            case hyb10 =>
              intro w' hSw
              have s1 := hSw
              go_simp
              try with_reducible rfl
            (try simp only [Act.put, List.getElem_toArray, List.getElem_cons_succ, List.getElem_cons_zero, List.setIfInBounds_toArray, List.set_cons_zero, List.set_cons_succ])
            refine' wpAnyH_take (i := 11) (v := _) rfl (by kernel_rfl) (by kernel_rfl) (by kernel_rfl) (fun _ _ _ h => h) (Or.inl ⟨by rfl, ?hyb11⟩) H0 ?restb11
            case hyb11 =>
              intro w' hSw
              have s1 := hSw
              go_simp
              try with_reducible rfl
            (try simp only [Act.put, List.getElem_toArray, List.getElem_cons_succ, List.getElem_cons_zero, List.setIfInBounds_toArray, List.set_cons_zero, List.set_cons_succ])
            refine' wpAnyH_take (i := 12) (v := _) rfl (by kernel_rfl) (by kernel_rfl) (by kernel_rfl) (fun _ _ _ h => h) (Or.inl ⟨by rfl, ?hyb12⟩) H0 ?restb12
            case hyb12 =>
              intro w' hSw
              have s1 := hSw
              go_simp
              try with_reducible rfl
            (try simp only [Act.put, List.getElem_toArray, List.getElem_cons_succ, List.getElem_cons_zero, List.setIfInBounds_toArray, List.set_cons_zero, List.set_cons_succ])
            refine' wpAnyH_take (i := 13) (v := .agg (hashC (fB i))) rfl (by kernel_rfl) (by kernel_rfl) (by kernel_rfl) (fun _ _ _ h => h) (Or.inl ⟨by rfl, ?hyb13⟩) H0 ?restb13
            case hyb13 =>
              intro w' hSw
              have s1 := hSw
              have hl := HLD.out i w' hlt (HC.out.trans s1 (by simp))
              simp [execOp, Act.eval, hl.2, Result.andThen]
            (try simp only [Act.put, List.getElem_toArray, List.getElem_cons_succ, List.getElem_cons_zero, List.setIfInBounds_toArray, List.set_cons_zero, List.set_cons_succ])
            refine' wpAnyH_take (i := 14) (v := .bool false) rfl (by kernel_rfl) (by kernel_rfl) (by kernel_rfl) (fun _ _ _ h => h) (Or.inl ⟨by rfl, ?hyb14⟩) H0 ?restb14
            case hyb14 =>
              intro w' hSw
              have s1 := hSw
              have hqq := HNE.out i w'
              simp [execOp, Act.eval, hash_guardn, hqq, Result.andThen]
            (try simp only [Act.put, List.getElem_toArray, List.getElem_cons_succ, List.getElem_cons_zero, List.setIfInBounds_toArray, List.set_cons_zero, List.set_cons_succ])
            refine' wpAnyH_take (i := 15) (v := _) rfl (by kernel_rfl) (by kernel_rfl) (by kernel_rfl) (fun _ _ _ h => h) (Or.inl ⟨by rfl, ?hyb15⟩) H0 ?restb15
            case hyb15 =>
              intro w' hSw
              have s1 := hSw
              go_simp
              try with_reducible rfl
            (try simp only [Act.put, List.getElem_toArray, List.getElem_cons_succ, List.getElem_cons_zero, List.setIfInBounds_toArray, List.set_cons_zero, List.set_cons_succ])
            refine wpAnyH_done (by kernel_rfl) ?_ _
            have HC6 := Lib.hid (HC.out.trans H0 (by simp))
            clear hqw H0
            go_wp2_with fail
            go_roundw
            case rel => exact ⟨i + 1, rfl, hlt, HC6⟩
            case measure => exact meas_of hlt
        · clear had hbl hl4 h2 h' hk1 hB0 hB1 hB2 hgw hkc1 hNp hlc hA0 hxb hB
          have hkb3 : (kb : Int) < N := Int.ofNat_lt.2 hkb
          have hkb4 : (0 : Int) ≤ kb := Int.natCast_nonneg _
          have e1 : ¬ (i : Int) < N := fun h => hlt (Int.ofNat_lt.1 h)
          by_cases hxy : x = y
          · have hq : ((x.toNat : Int) == (y.toNat : Int)) = true := by rw [hxy]; simp
            have hq2 : ¬ ((x.toNat : Int) ≠ (y.toNat : Int)) := by rw [hxy]; simp
            have HEQ : ∀ w', (binOp .eql 32 (.agg (hashC (fA kb))) (.agg (hashC (fB kb)))).run Tryd.prog w' = .ok (.bool true) w' := fun w' => by
              have := run_eq_hash (fA kb) (fB kb) w'
              rw [show sameHash (fA kb) (fB kb) = true by rw [HSF.out hxy]; exact self_same _] at this
              exact this
            have hqw := HQ2.out
            go_upto_region 16 with (fail)
            refine wp_region_held_drew (S := fun w' => Chg [] wr w') (by kernel_rfl) (Chg.drewN _ wr 1) (fun H0 => ?_)
            refine' wpAnyH_take (i := 0) (v := _) rfl (by kernel_rfl) (by kernel_rfl) (by kernel_rfl) (fun _ _ _ h => h) (Or.inl ⟨by rfl, ?hyc0⟩) H0 ?restc0
            case hyc0 =>
              intro w' hSw
              have s1 := hSw
              go_simp
              try with_reducible rfl
            (try simp only [Act.put, List.getElem_toArray, List.getElem_cons_zero, List.setIfInBounds_toArray, List.set_cons_zero, List.set_cons_succ])
            refine' wpAnyH_take (i := 1) (v := _) rfl (by kernel_rfl) (by kernel_rfl) (by kernel_rfl) (fun _ _ _ h => h) (Or.inl ⟨by rfl, ?hyc1⟩) H0 ?restc1
            case hyc1 =>
              intro w' hSw
              have s1 := hSw
              go_simp
              try with_reducible rfl
            (try simp only [Act.put, List.getElem_toArray, List.getElem_cons_succ, List.getElem_cons_zero, List.setIfInBounds_toArray, List.set_cons_zero, List.set_cons_succ])
            refine' wpAnyH_take (i := 2) (v := _) rfl (by kernel_rfl) (by kernel_rfl) (by kernel_rfl) (fun _ _ _ h => h) (Or.inl ⟨by rfl, ?hyc2⟩) H0 ?restc2
            case hyc2 =>
              intro w' hSw
              have s1 := hSw
              go_simp
              try with_reducible rfl
            (try simp only [Act.put, List.getElem_toArray, List.getElem_cons_succ, List.getElem_cons_zero, List.setIfInBounds_toArray, List.set_cons_zero, List.set_cons_succ])
            refine' wpAnyH_take (i := 3) (v := _) rfl (by kernel_rfl) (by kernel_rfl) (by kernel_rfl) (fun _ _ _ h => h) (Or.inl ⟨by rfl, ?hyc3⟩) H0 ?restc3
            case hyc3 =>
              intro w' hSw
              have s1 := hSw
              go_simp
              try with_reducible rfl
            (try simp only [Act.put, List.getElem_toArray, List.getElem_cons_succ, List.getElem_cons_zero, List.setIfInBounds_toArray, List.set_cons_zero, List.set_cons_succ])
            refine' wpAnyH_take (i := 4) (v := _) rfl (by kernel_rfl) (by kernel_rfl) (by kernel_rfl) (fun _ _ _ h => h) (Or.inl ⟨by rfl, ?hyc4⟩) H0 ?restc4
            case hyc4 =>
              intro w' hSw
              have s1 := hSw
              have hl := (HDK.out w' (HC.out.trans s1 (by simp)))
              go_simp
              try with_reducible rfl
            (try simp only [Act.put, List.getElem_toArray, List.getElem_cons_succ, List.getElem_cons_zero, List.setIfInBounds_toArray, List.set_cons_zero, List.set_cons_succ])
            refine' wpAnyH_take (i := 5) (v := .bool false) rfl (by kernel_rfl) (by kernel_rfl) (by kernel_rfl) (fun _ _ _ h => h) (Or.inl ⟨by rfl, ?hyc5⟩) H0 ?restc5
            case hyc5 =>
              intro w' hSw
              have s1 := hSw
              go_simp
              try simp [hxy]
            (try simp only [Act.put, List.getElem_toArray, List.getElem_cons_succ, List.getElem_cons_zero, List.setIfInBounds_toArray, List.set_cons_zero, List.set_cons_succ])
            refine' wpAnyH_take (i := 6) (v := _) rfl (by kernel_rfl) (by kernel_rfl) (by kernel_rfl) (fun _ _ _ h => h) (Or.inl ⟨by rfl, ?hyc6⟩) H0 ?restc6
            case hyc6 =>
              intro w' hSw
              have s1 := hSw
              go_simp
              try with_reducible rfl
            (try simp only [Act.put, List.getElem_toArray, List.getElem_cons_succ, List.getElem_cons_zero, List.setIfInBounds_toArray, List.set_cons_zero, List.set_cons_succ])
            refine' wpAnyH_take (i := 7) (v := _) rfl (by kernel_rfl) (by kernel_rfl) (by kernel_rfl) (fun _ _ _ h => h) (Or.inl ⟨by rfl, ?hyc7⟩) H0 ?restc7
            case hyc7 =>
              intro w' hSw
              have s1 := hSw
              go_simp
              try with_reducible rfl
            (try simp only [Act.put, List.getElem_toArray, List.getElem_cons_succ, List.getElem_cons_zero, List.setIfInBounds_toArray, List.set_cons_zero, List.set_cons_succ])
            refine' wpAnyH_take (i := 8) (v := _) rfl (by kernel_rfl) (by kernel_rfl) (by kernel_rfl) (fun _ _ _ h => h) (Or.inl ⟨by rfl, ?hyc8⟩) H0 ?restc8
            case hyc8 =>
              intro w' hSw
              have s1 := hSw
              go_simp
              try with_reducible rfl
            (try simp only [Act.put, List.getElem_toArray, List.getElem_cons_succ, List.getElem_cons_zero, List.setIfInBounds_toArray, List.set_cons_zero, List.set_cons_succ])
            refine' wpAnyH_take (i := 9) (v := _) rfl (by kernel_rfl) (by kernel_rfl) (by kernel_rfl) (fun _ _ _ h => h) (Or.inl ⟨by rfl, ?hyc9⟩) H0 ?restc9
            case hyc9 =>
              intro w' hSw
              have s1 := hSw
              go_simp
              try with_reducible rfl
            (try simp only [Act.put, List.getElem_toArray, List.getElem_cons_succ, List.getElem_cons_zero, List.setIfInBounds_toArray, List.set_cons_zero, List.set_cons_succ])
            refine' wpAnyH_take (i := 10) (v := .int .i64 kb) rfl (by kernel_rfl) (by kernel_rfl) (by kernel_rfl) (fun _ _ _ h => h) (Or.inl ⟨by rfl, ?hyc10⟩) H0 ?restc10
            case hyc10 =>
              intro w' hSw
              have s1 := hSw
              go_simp
              simp [HB0.out, HWQ.out]
            (try simp only [Act.put, List.getElem_toArray, List.getElem_cons_succ, List.getElem_cons_zero, List.setIfInBounds_toArray, List.set_cons_zero, List.set_cons_succ])
            refine' wpAnyH_take (i := 11) (v := _) rfl (by kernel_rfl) (by kernel_rfl) (by kernel_rfl) (fun _ _ _ h => h) (Or.inl ⟨by rfl, ?hyc11⟩) H0 ?restc11
            case hyc11 =>
              intro w' hSw
              have s1 := hSw
              go_simp
              try with_reducible rfl
            (try simp only [Act.put, List.getElem_toArray, List.getElem_cons_succ, List.getElem_cons_zero, List.setIfInBounds_toArray, List.set_cons_zero, List.set_cons_succ])
            refine' wpAnyH_take (i := 12) (v := .agg (hashC (fA kb))) rfl (by kernel_rfl) (by kernel_rfl) (by kernel_rfl) (fun _ _ _ h => h) (Or.inl ⟨by rfl, ?hyc12⟩) H0 ?restc12
            case hyc12 =>
              intro w' hSw
              have s1 := hSw
              have hl := HLD.out _ w' hkb (HC.out.trans s1 (by simp))
              simp [execOp, Act.eval, hl.1, Result.andThen]
            (try simp only [Act.put, List.getElem_toArray, List.getElem_cons_succ, List.getElem_cons_zero, List.setIfInBounds_toArray, List.set_cons_zero, List.set_cons_succ])
            refine' wpAnyH_take (i := 13) (v := _) rfl (by kernel_rfl) (by kernel_rfl) (by kernel_rfl) (fun _ _ _ h => h) (Or.inl ⟨by rfl, ?hyc13⟩) H0 ?restc13
            case hyc13 =>
              intro w' hSw
              have s1 := hSw
              go_simp
              try with_reducible rfl
            (try simp only [Act.put, List.getElem_toArray, List.getElem_cons_succ, List.getElem_cons_zero, List.setIfInBounds_toArray, List.set_cons_zero, List.set_cons_succ])
            refine' wpAnyH_take (i := 14) (v := _) rfl (by kernel_rfl) (by kernel_rfl) (by kernel_rfl) (fun _ _ _ h => h) (Or.inl ⟨by rfl, ?hyc14⟩) H0 ?restc14
            case hyc14 =>
              intro w' hSw
              have s1 := hSw
              go_simp
              try with_reducible rfl
            (try simp only [Act.put, List.getElem_toArray, List.getElem_cons_succ, List.getElem_cons_zero, List.setIfInBounds_toArray, List.set_cons_zero, List.set_cons_succ])
            refine' wpAnyH_take (i := 15) (v := _) rfl (by kernel_rfl) (by kernel_rfl) (by kernel_rfl) (fun _ _ _ h => h) (Or.inl ⟨by rfl, ?hyc15⟩) H0 ?restc15
            case hyc15 =>
              intro w' hSw
              have s1 := hSw
              go_simp
              try with_reducible rfl
            (try simp only [Act.put, List.getElem_toArray, List.getElem_cons_succ, List.getElem_cons_zero, List.setIfInBounds_toArray, List.set_cons_zero, List.set_cons_succ])
            refine' wpAnyH_take (i := 16) (v := .int .i64 kb) rfl (by kernel_rfl) (by kernel_rfl) (by kernel_rfl) (fun _ _ _ h => h) (Or.inl ⟨by rfl, ?hyc16⟩) H0 ?restc16
            case hyc16 =>
              intro w' hSw
              have s1 := hSw
              go_simp
              simp [HB0.out, HWQ.out]
            (try simp only [Act.put, List.getElem_toArray, List.getElem_cons_succ, List.getElem_cons_zero, List.setIfInBounds_toArray, List.set_cons_zero, List.set_cons_succ])
            refine' wpAnyH_take (i := 17) (v := _) rfl (by kernel_rfl) (by kernel_rfl) (by kernel_rfl) (fun _ _ _ h => h) (Or.inl ⟨by rfl, ?hyc17⟩) H0 ?restc17
            case hyc17 =>
              intro w' hSw
              have s1 := hSw
              go_simp
              try with_reducible rfl
            (try simp only [Act.put, List.getElem_toArray, List.getElem_cons_succ, List.getElem_cons_zero, List.setIfInBounds_toArray, List.set_cons_zero, List.set_cons_succ])
            refine' wpAnyH_take (i := 18) (v := .agg (hashC (fB kb))) rfl (by kernel_rfl) (by kernel_rfl) (by kernel_rfl) (fun _ _ _ h => h) (Or.inl ⟨by rfl, ?hyc18⟩) H0 ?restc18
            case hyc18 =>
              intro w' hSw
              have s1 := hSw
              have hl := HLD.out _ w' hkb (HC.out.trans s1 (by simp))
              simp [execOp, Act.eval, hl.2, Result.andThen]
            (try simp only [Act.put, List.getElem_toArray, List.getElem_cons_succ, List.getElem_cons_zero, List.setIfInBounds_toArray, List.set_cons_zero, List.set_cons_succ])
            refine' wpAnyH_take (i := 19) (v := .bool true) rfl (by kernel_rfl) (by kernel_rfl) (by kernel_rfl) (fun _ _ _ h => h) (Or.inl ⟨by rfl, ?hyc19⟩) H0 ?restc19
            case hyc19 =>
              intro w' hSw
              have s1 := hSw
              have hqq := HEQ w'
              simp [execOp, Act.eval, hash_guard, hqq, Result.andThen]
            (try simp only [Act.put, List.getElem_toArray, List.getElem_cons_succ, List.getElem_cons_zero, List.setIfInBounds_toArray, List.set_cons_zero, List.set_cons_succ])
            refine' wpAnyH_take (i := 20) (v := _) rfl (by kernel_rfl) (by kernel_rfl) (by kernel_rfl) (fun _ _ _ h => h) (Or.inl ⟨by rfl, ?hyc20⟩) H0 ?restc20
            case hyc20 =>
              intro w' hSw
              have s1 := hSw
              go_simp
              try with_reducible rfl
            (try simp only [Act.put, List.getElem_toArray, List.getElem_cons_succ, List.getElem_cons_zero, List.setIfInBounds_toArray, List.set_cons_zero, List.set_cons_succ])
            refine' wpAnyH_take (i := 21) (v := _) rfl (by kernel_rfl) (by kernel_rfl) (by kernel_rfl) (fun _ _ _ h => h) (Or.inl ⟨by rfl, ?hyc21⟩) H0 ?restc21
            case hyc21 =>
              intro w' hSw
              have s1 := hSw
              go_simp
              try with_reducible rfl
            (try simp only [Act.put, List.getElem_toArray, List.getElem_cons_succ, List.getElem_cons_zero, List.setIfInBounds_toArray, List.set_cons_zero, List.set_cons_succ])
            refine wpAnyH_ready (rs := [22]) (by kernel_rfl) (by simp) (AllReadyH.cons rfl (fun K hK => ?_) AllReadyH.nil)
            go_simp
            refine (KW.out _ (HCW.out.trans (HC.out.trans H0 (by simp)) (by simp))).mono ?_
            rintro e wx ⟨rfl, Cx⟩
            go_simp
            refine hK.out _ _ (H0.trans Cx (by simp)) (fun H1 => ?_)
            clear hK K Cx
            refine' wpAnyH_take (i := 23) (v := _) rfl (by kernel_rfl) (by kernel_rfl) (by kernel_rfl) (fun _ _ _ h => h) (Or.inl ⟨by rfl, ?hyc23⟩) H1 ?restc23
            case hyc23 =>
              intro w' hSw
              have s1 := hSw
              go_simp
              try with_reducible rfl
            (try simp only [Act.put, List.getElem_toArray, List.getElem_cons_succ, List.getElem_cons_zero, List.setIfInBounds_toArray, List.set_cons_zero, List.set_cons_succ])
            refine' wpAnyH_take (i := 24) (v := _) rfl (by kernel_rfl) (by kernel_rfl) (by kernel_rfl) (fun _ _ _ h => h) (Or.inl ⟨by rfl, ?hyc24⟩) H1 ?restc24
            case hyc24 =>
              intro w' hSw
              have s1 := hSw
              go_simp
              try with_reducible rfl
            (try simp only [Act.put, List.getElem_toArray, List.getElem_cons_succ, List.getElem_cons_zero, List.setIfInBounds_toArray, List.set_cons_zero, List.set_cons_succ])
            refine wpAnyH_done (by kernel_rfl) ?_ _
            have HC6 := Lib.hid (HCW.out.trans (HC.out.trans H1 (by simp)) (by simp))
            go_wp2_with fail
            go_ret
            exact ⟨rfl, HC6.out⟩
          · have hxy2 : ¬ x.toNat = y.toNat := fun e => hxy (UInt8.toNat_inj.1 e)
            have hq : ((x.toNat : Int) == (y.toNat : Int)) = false := beq_eq_false_iff_ne.2 (fun e => hxy2 (Int.ofNat_inj.1 e))
            have hq2 : (x.toNat : Int) ≠ (y.toNat : Int) := fun e => hxy2 (Int.ofNat_inj.1 e)
            have hqw := HQ2.out
            go_upto_region 16 with (fail)
            refine wp_region_held_drew (S := fun w' => Chg [] wr w') (by kernel_rfl) (Chg.drewN _ wr 1) (fun H0 => ?_)
            refine' wpAnyH_take (i := 0) (v := _) rfl (by kernel_rfl) (by kernel_rfl) (by kernel_rfl) (fun _ _ _ h => h) (Or.inl ⟨by rfl, ?hyd0⟩) H0 ?restd0
            case hyd0 =>
              intro w' hSw
              have s1 := hSw
              go_simp
              try with_reducible rfl
            (try simp only [Act.put, List.getElem_toArray, List.getElem_cons_zero, List.setIfInBounds_toArray, List.set_cons_zero, List.set_cons_succ])
            refine' wpAnyH_take (i := 1) (v := _) rfl (by kernel_rfl) (by kernel_rfl) (by kernel_rfl) (fun _ _ _ h => h) (Or.inl ⟨by rfl, ?hyd1⟩) H0 ?restd1
            case hyd1 =>
              intro w' hSw
              have s1 := hSw
              go_simp
              try with_reducible rfl
            (try simp only [Act.put, List.getElem_toArray, List.getElem_cons_succ, List.getElem_cons_zero, List.setIfInBounds_toArray, List.set_cons_zero, List.set_cons_succ])
            refine' wpAnyH_take (i := 2) (v := _) rfl (by kernel_rfl) (by kernel_rfl) (by kernel_rfl) (fun _ _ _ h => h) (Or.inl ⟨by rfl, ?hyd2⟩) H0 ?restd2
            case hyd2 =>
              intro w' hSw
              have s1 := hSw
              go_simp
              try with_reducible rfl
            (try simp only [Act.put, List.getElem_toArray, List.getElem_cons_succ, List.getElem_cons_zero, List.setIfInBounds_toArray, List.set_cons_zero, List.set_cons_succ])
            refine' wpAnyH_take (i := 3) (v := _) rfl (by kernel_rfl) (by kernel_rfl) (by kernel_rfl) (fun _ _ _ h => h) (Or.inl ⟨by rfl, ?hyd3⟩) H0 ?restd3
            case hyd3 =>
              intro w' hSw
              have s1 := hSw
              go_simp
              try with_reducible rfl
            (try simp only [Act.put, List.getElem_toArray, List.getElem_cons_succ, List.getElem_cons_zero, List.setIfInBounds_toArray, List.set_cons_zero, List.set_cons_succ])
            refine' wpAnyH_take (i := 4) (v := _) rfl (by kernel_rfl) (by kernel_rfl) (by kernel_rfl) (fun _ _ _ h => h) (Or.inl ⟨by rfl, ?hyd4⟩) H0 ?restd4
            case hyd4 =>
              intro w' hSw
              have s1 := hSw
              have hl := (HDK.out w' (HC.out.trans s1 (by simp)))
              go_simp
              try with_reducible rfl
            (try simp only [Act.put, List.getElem_toArray, List.getElem_cons_succ, List.getElem_cons_zero, List.setIfInBounds_toArray, List.set_cons_zero, List.set_cons_succ])
            refine' wpAnyH_take (i := 5) (v := .bool true) rfl (by kernel_rfl) (by kernel_rfl) (by kernel_rfl) (fun _ _ _ h => h) (Or.inl ⟨by rfl, ?hyd5⟩) H0 ?restd5
            case hyd5 =>
              intro w' hSw
              have s1 := hSw
              go_simp
              try simp [hxy2]
            (try simp only [Act.put, List.getElem_toArray, List.getElem_cons_succ, List.getElem_cons_zero, List.setIfInBounds_toArray, List.set_cons_zero, List.set_cons_succ])
            refine' wpAnyH_take (i := 6) (v := _) rfl (by kernel_rfl) (by kernel_rfl) (by kernel_rfl) (fun _ _ _ h => h) (Or.inl ⟨by rfl, ?hyd6⟩) H0 ?restd6
            case hyd6 =>
              intro w' hSw
              have s1 := hSw
              go_simp
              try with_reducible rfl
            (try simp only [Act.put, List.getElem_toArray, List.getElem_cons_succ, List.getElem_cons_zero, List.setIfInBounds_toArray, List.set_cons_zero, List.set_cons_succ])
            refine wpAnyH_take (i := 7) (v := undef) rfl (by kernel_rfl) (by kernel_rfl) (by kernel_rfl) (fun _ _ _ h => h) (Or.inr ⟨by rfl, rfl⟩) H0 ?_
            (try simp only [Act.put, List.getElem_toArray, List.getElem_cons_succ, List.getElem_cons_zero, List.setIfInBounds_toArray, List.set_cons_zero, List.set_cons_succ])
            refine wpAnyH_take (i := 8) (v := undef) rfl (by kernel_rfl) (by kernel_rfl) (by kernel_rfl) (fun _ _ _ h => h) (Or.inr ⟨by rfl, rfl⟩) H0 ?_
            (try simp only [Act.put, List.getElem_toArray, List.getElem_cons_succ, List.getElem_cons_zero, List.setIfInBounds_toArray, List.set_cons_zero, List.set_cons_succ])
            refine wpAnyH_take (i := 9) (v := undef) rfl (by kernel_rfl) (by kernel_rfl) (by kernel_rfl) (fun _ _ _ h => h) (Or.inr ⟨by rfl, rfl⟩) H0 ?_
            (try simp only [Act.put, List.getElem_toArray, List.getElem_cons_succ, List.getElem_cons_zero, List.setIfInBounds_toArray, List.set_cons_zero, List.set_cons_succ])
            refine wpAnyH_take (i := 10) (v := undef) rfl (by kernel_rfl) (by kernel_rfl) (by kernel_rfl) (fun _ _ _ h => h) (Or.inr ⟨by rfl, rfl⟩) H0 ?_
            (try simp only [Act.put, List.getElem_toArray, List.getElem_cons_succ, List.getElem_cons_zero, List.setIfInBounds_toArray, List.set_cons_zero, List.set_cons_succ])
            refine wpAnyH_take (i := 11) (v := undef) rfl (by kernel_rfl) (by kernel_rfl) (by kernel_rfl) (fun _ _ _ h => h) (Or.inr ⟨by rfl, rfl⟩) H0 ?_
            (try simp only [Act.put, List.getElem_toArray, List.getElem_cons_succ, List.getElem_cons_zero, List.setIfInBounds_toArray, List.set_cons_zero, List.set_cons_succ])
            refine wpAnyH_take (i := 12) (v := undef) rfl (by kernel_rfl) (by kernel_rfl) (by kernel_rfl) (fun _ _ _ h => h) (Or.inr ⟨by rfl, rfl⟩) H0 ?_
            (try simp only [Act.put, List.getElem_toArray, List.getElem_cons_succ, List.getElem_cons_zero, List.setIfInBounds_toArray, List.set_cons_zero, List.set_cons_succ])
            refine wpAnyH_take (i := 13) (v := undef) rfl (by kernel_rfl) (by kernel_rfl) (by kernel_rfl) (fun _ _ _ h => h) (Or.inr ⟨by rfl, rfl⟩) H0 ?_
            (try simp only [Act.put, List.getElem_toArray, List.getElem_cons_succ, List.getElem_cons_zero, List.setIfInBounds_toArray, List.set_cons_zero, List.set_cons_succ])
            refine wpAnyH_take (i := 14) (v := undef) rfl (by kernel_rfl) (by kernel_rfl) (by kernel_rfl) (fun _ _ _ h => h) (Or.inr ⟨by rfl, rfl⟩) H0 ?_
            (try simp only [Act.put, List.getElem_toArray, List.getElem_cons_succ, List.getElem_cons_zero, List.setIfInBounds_toArray, List.set_cons_zero, List.set_cons_succ])
            refine wpAnyH_take (i := 15) (v := undef) rfl (by kernel_rfl) (by kernel_rfl) (by kernel_rfl) (fun _ _ _ h => h) (Or.inr ⟨by rfl, rfl⟩) H0 ?_
            (try simp only [Act.put, List.getElem_toArray, List.getElem_cons_succ, List.getElem_cons_zero, List.setIfInBounds_toArray, List.set_cons_zero, List.set_cons_succ])
            refine wpAnyH_take (i := 16) (v := undef) rfl (by kernel_rfl) (by kernel_rfl) (by kernel_rfl) (fun _ _ _ h => h) (Or.inr ⟨by rfl, rfl⟩) H0 ?_
            (try simp only [Act.put, List.getElem_toArray, List.getElem_cons_succ, List.getElem_cons_zero, List.setIfInBounds_toArray, List.set_cons_zero, List.set_cons_succ])
            refine wpAnyH_take (i := 17) (v := undef) rfl (by kernel_rfl) (by kernel_rfl) (by kernel_rfl) (fun _ _ _ h => h) (Or.inr ⟨by rfl, rfl⟩) H0 ?_
            (try simp only [Act.put, List.getElem_toArray, List.getElem_cons_succ, List.getElem_cons_zero, List.setIfInBounds_toArray, List.set_cons_zero, List.set_cons_succ])
            refine wpAnyH_take (i := 18) (v := undef) rfl (by kernel_rfl) (by kernel_rfl) (by kernel_rfl) (fun _ _ _ h => h) (Or.inr ⟨by rfl, rfl⟩) H0 ?_
            (try simp only [Act.put, List.getElem_toArray, List.getElem_cons_succ, List.getElem_cons_zero, List.setIfInBounds_toArray, List.set_cons_zero, List.set_cons_succ])
            refine wpAnyH_take (i := 19) (v := undef) rfl (by kernel_rfl) (by kernel_rfl) (by kernel_rfl) (fun _ _ _ h => h) (Or.inr ⟨by rfl, rfl⟩) H0 ?_
            (try simp only [Act.put, List.getElem_toArray, List.getElem_cons_succ, List.getElem_cons_zero, List.setIfInBounds_toArray, List.set_cons_zero, List.set_cons_succ])
            refine' wpAnyH_take (i := 20) (v := _) rfl (by kernel_rfl) (by kernel_rfl) (by kernel_rfl) (fun _ _ _ h => h) (Or.inl ⟨by rfl, ?hyd20⟩) H0 ?restd20
            case hyd20 =>
              intro w' hSw
              have s1 := hSw
              go_simp
              try with_reducible rfl
            (try simp only [Act.put, List.getElem_toArray, List.getElem_cons_succ, List.getElem_cons_zero, List.setIfInBounds_toArray, List.set_cons_zero, List.set_cons_succ])
            refine' wpAnyH_take (i := 21) (v := _) rfl (by kernel_rfl) (by kernel_rfl) (by kernel_rfl) (fun _ _ _ h => h) (Or.inl ⟨by rfl, ?hyd21⟩) H0 ?restd21
            case hyd21 =>
              intro w' hSw
              have s1 := hSw
              go_simp
              try with_reducible rfl
            (try simp only [Act.put, List.getElem_toArray, List.getElem_cons_succ, List.getElem_cons_zero, List.setIfInBounds_toArray, List.set_cons_zero, List.set_cons_succ])
            refine wpAnyH_ready (rs := [22]) (by kernel_rfl) (by simp) (AllReadyH.cons rfl (fun K hK => ?_) AllReadyH.nil)
            go_simp
            refine (KW.out _ (HCW.out.trans (HC.out.trans H0 (by simp)) (by simp))).mono ?_
            rintro e wx ⟨rfl, Cx⟩
            go_simp
            refine hK.out _ _ (H0.trans Cx (by simp)) (fun H1 => ?_)
            clear hK K Cx
            refine' wpAnyH_take (i := 23) (v := _) rfl (by kernel_rfl) (by kernel_rfl) (by kernel_rfl) (fun _ _ _ h => h) (Or.inl ⟨by rfl, ?hyd23⟩) H1 ?restd23
            case hyd23 =>
              intro w' hSw
              have s1 := hSw
              go_simp
              try with_reducible rfl
            (try simp only [Act.put, List.getElem_toArray, List.getElem_cons_succ, List.getElem_cons_zero, List.setIfInBounds_toArray, List.set_cons_zero, List.set_cons_succ])
            refine' wpAnyH_take (i := 24) (v := _) rfl (by kernel_rfl) (by kernel_rfl) (by kernel_rfl) (fun _ _ _ h => h) (Or.inl ⟨by rfl, ?hyd24⟩) H1 ?restd24
            case hyd24 =>
              intro w' hSw
              have s1 := hSw
              go_simp
              try with_reducible rfl
            (try simp only [Act.put, List.getElem_toArray, List.getElem_cons_succ, List.getElem_cons_zero, List.setIfInBounds_toArray, List.set_cons_zero, List.set_cons_succ])
            refine wpAnyH_done (by kernel_rfl) ?_ _
            have HC6 := Lib.hid (HCW.out.trans (HC.out.trans H1 (by simp)) (by simp))
            go_wp2_with fail
            go_ret
            exact ⟨rfl, HC6.out⟩
end Go.Proofs.YtfdhpjflkimihaaDoor
