/- What the law BlockWhole does: true, and it leaves what was there. No conditions beyond those that each statement types. -/
import Derived.Test.YtfdhpjflkimihaaDoorBkY
namespace Go.Proofs.YtfdhpjflkimihaaDoor
open Go.RowKit

theorem part_pos {l : List UInt8} {k : Nat} (hl : l.length ≤ 4096) (hk : k < cntN l.length) : 0 < (partL l k).length ∧ (partL l k).length ≤ bszN l.length ∧ (k + 1 < cntN l.length → (partL l k).length = bszN l.length) := by
  have h1 := partL_length l k
  have h2 := (cntN_lt hl k).1 hk
  have h3 := bszN_pos hl
  refine ⟨by omega, by omega, fun h => ?_⟩
  have h4 := (cntN_lt hl (k + 1)).1 h
  rw [Nat.add_mul, Nat.one_mul] at h4
  omega
theorem take_next (l : List UInt8) (k : Nat) : l.take (k * bszN l.length) ++ partL l k = l.take ((k + 1) * bszN l.length) := by
  rw [← parts_to l k, ← parts_to l (k + 1), List.range_succ, List.map_append, List.flatten_append]
  simp
theorem self_same (f : Nat → UInt8) : sameHash f f = true := by
  unfold sameHash
  rw [List.all_eq_true]
  intro i _
  simp
set_option maxRecDepth 100000 in
set_option maxHeartbeats 8000000 in
theorem block_whole (ao : Option Addr) (c : Nat) (l : List UInt8) (hlm : l.length ≤ 9223372036854775807) (hc0 : ao = none → c = 0) (hlc : l.length ≤ c) (w : World) (hL : Laid w) (hs : Src w ao (bvs l)) :
    Calls Tryd.prog 6 #[.slice ao l.length c] w (Holds w) := by
  have KW := Lib.hid (fun w' (C : Chg [] w w') => law_awake w' (hL.chg C (by simp)))
  by_cases hbig : 9000 < l.length
  · have h' : (9000 : Int) < l.length := by omega
    clear hs hL hc0 hlc hlm
    generalize l.length = n at *
    go_enter Tryd.func6, Tryd.ntmps6
    go_wp2_with fail
    refine (KW.out _ (Chg.refl _ _)).mono ?_
    rintro e w1 ⟨rfl, C⟩
    go_wp2_with fail
    go_ret
    exact ⟨rfl, C⟩
  · have h' : ¬ (9000 : Int) < l.length := by omega
    have KL := blk_List l ao c w hL hs hlc
    have KC := Lib.hid (fun w' => blk_count l.length w')
    have hz : cntZ l.length = cntN l.length := by unfold cntZ; rw [if_neg (by omega)]; rfl
    rw [hz] at KC
    by_cases hmid : 4096 < l.length
    · rw [show listO l = none by unfold listO; rw [if_pos hmid]] at KL
      rw [cntN_big hmid] at KC
      have HKL := Lib.hid KL
      have h4 : (4096 : Int) < l.length := by omega
      clear hs hL hc0 hlc hlm KL hz
      generalize l.length = n at *
      go_enter Tryd.func6, Tryd.ntmps6
      go_wp2_with fail
      refine HKL.out.mono ?_
      rintro e w1 ⟨C1, rfl⟩
      have HC1 := Lib.hid C1
      clear C1
      go_wp2_with fail
      refine (KC.out _).mono ?_
      rintro e w2 ⟨rfl, rfl⟩
      go_wp2_with fail
      refine (KW.out _ HC1.out).mono ?_
      rintro e w3 ⟨rfl, C3⟩
      have HC3 := Lib.hid (HC1.out.trans C3 (by simp))
      go_wp2_with fail
      go_ret
      exact ⟨rfl, HC3.out⟩
    · have hl4 : l.length ≤ 4096 := by omega
      rw [show listO l = some (listL l) by unfold listO; rw [if_neg hmid]] at KL
      have HKL := Lib.hid KL
      have hLL := listL_length l
      have hcl := cntN_le l.length
      have KS := Lib.hid (fun w' => blk_size l.length w')
      rw [show bszZ l.length = bszN l.length by unfold bszZ; rw [if_neg (by omega)]; rfl] at KS
      have hbl := bszN_le l.length
      have HP := Lib.hid (fun k (hk : k < cntN l.length) => part_pos hl4 hk)
      have HSTEP := Lib.hid (fun k w' (hk : k < cntN l.length) (C : Chg [] w w') => by
        have := blk_Part l ao c k w' (hs.chg C (by simp)) hlc
        rw [show partZ l k = partL l k by unfold partZ; rw [if_pos ⟨by omega, by simpa using hk⟩]; rfl] at this
        exact this)
      have HV := Lib.hid (fun k w' ap cp (hk : k < cntN l.length) (C : Chg [] w w') (ho : w'.ownsRow 0 5 1 (.slice ap (partL l k).length cp) (partL l k).length (bvs (partL l k))) => by
        have hlt := ownsRow_lt ho
        have := blk_verify (partL l k) (digest (partL l k)) ap cp w' (hL.chg C (by simp)) (ownsRow_src ho) (by obtain ⟨_, _, e, h, _⟩ := ownsRow_slice ho; cases e; exact h) (by have := (part_pos hl4 hk).2.1; omega) (fun a ha => hlt _ (by rw [ha]; rfl))
        rw [self_same] at this
        exact this)
      have HEND : Hid (l.take (cntN l.length * bszN l.length) = l) := Lib.hid (List.take_of_length_le (by
        have := mt (cntN_lt hl4 (cntN l.length)).2 (Nat.lt_irrefl _)
        omega))
      have HLEN := Lib.hid (fun k => List.length_take (l := l) (i := k * bszN l.length))
      have HNX := Lib.hid (fun k => take_next l k)
      have HLI := Lib.hid (fun k (hk : k < cntN l.length) => show (listL l)[k]? = some (digest (partL l k)) by rw [listL, List.getElem?_map, partsL_get hk]; rfl)
      have HS := Lib.hid hs
      have HNN : Hid (l.length = l.length) := Lib.hid rfl
      have HC0 := Lib.hid hc0
      have hlc' := hlc
      clear hs hL KL hz hc0 hmid hlm hlc
      generalize hN : cntN l.length = N at *
      generalize hB : bszN l.length = B at *
      generalize hn : l.length = n at *
      have HLL := Lib.hid hLL
      have HN := Lib.hid hN
      have HB := Lib.hid hB
      have Hn := Lib.hid hn
      clear hN hB hn hLL
      have hm4 : ¬ (4096 : Int) < n := by omega
      have e32 : ¬ (32 : Int) < N := by omega
      go_enter Tryd.func6, Tryd.ntmps6
      go_wp2_with fail
      refine HKL.out.mono ?_
      rintro e w1 ⟨C1, al, cl, rfl, hol, hnl⟩
      rw [HLL.out] at hol hnl
      rw [HLL.out]
      have HLD : Hid (∀ k w', k < N → Chg [] w1 w' → ∃ g, al = some ⟨g, 0, none⟩ ∧ (Instr.loadAt 32 (.pointer (some ⟨g, k * 32, none⟩))).run Tryd.prog w' = .ok (.agg (hashC (digest (partL l k)))) w') := Lib.hid (fun k w' hk C => by
        have hh := HLL.out
        obtain ⟨g, hg⟩ := ownsRow_head hol (by omega)
        have hol2 := ownsRow_chg hol C (by simp)
        rw [← hh] at hol2
        exact ⟨g, hg, load_of_list hol2 hg (HLI.out k hk)⟩)
      have HC1 := Lib.hid C1
      clear C1 hol hnl HKL
      go_wp2_with fail
      refine (KC.out _).mono ?_
      rintro e w2 ⟨rfl, rfl⟩
      go_wp2_with fail
      go_loopw [6, 7] (fun v6 v7 wr => ∃ (k m c' : Nat) (ao' : Option Addr), v6 = .slice ao' m c' ∧ v7 = .int .i64 (k : Int) ∧ k ≤ N ∧ m ≤ n ∧ Hid (m = (l.take (k * B)).length) ∧ Hid (wr.ownsRow 0 5 1 (.slice ao' m c') m (bvs (l.take (k * B)))) ∧ Hid (∀ b, (Value.slice ao' m c').ownBlock = some b → w1.heap.size ≤ b) ∧ Hid (Chg [] w1 wr)) (fun _ v _ => N - (intOf v).toNat)
      case atStart => exact ⟨0, 0, 0, none, rfl, rfl, Nat.zero_le _, Nat.zero_le _, Lib.hid (by simp), Lib.hid (by rw [Nat.zero_mul]; exact World.ownsRow_nil _ _ _ _), Lib.hid (fun b hb => by cases hb), Lib.hid (Chg.refl _ _)⟩
      case round =>
        obtain ⟨k, m, c', ao', rfl, rfl, hk, hmn, HM, HO, HW, HC⟩ := hrel
        by_cases hlt : k < N
        · have hlt' : (k : Int) < N := by omega
          have KP := Lib.hid (HSTEP.out k wr hlt (HC1.out.trans HC.out (by simp)))
          go_wp2_with fail
          refine KP.out.mono ?_
          rintro e w3 ⟨ap, cp, rfl, hop, hnp, C3⟩
          have HC3 := Lib.hid (HC.out.trans C3 (by simp))
          obtain ⟨p0, p1, p2⟩ := HP.out k hlt
          have KVF := HV.out k w3 ap cp hlt (HC1.out.trans HC3.out (by simp)) hop
          obtain ⟨gl, rfl, hld⟩ := HLD.out k w3 hlt HC3.out
          obtain ⟨R, hR⟩ : ∃ R, hashC (digest (partL l k)) = R := ⟨_, rfl⟩
          rw [hashV, hR] at KVF
          rw [hR] at hld
          have HVF := Lib.hid KVF
          have HOP := Lib.hid hop
          have hop2 := Lib.hid hop
          have HPL : Hid ((partL l k).length = (partL l k).length) := Lib.hid rfl
          have HSUM : Hid (m + (partL l k).length = (l.take ((k + 1) * B)).length) := Lib.hid (by rw [HM.out, ← HNX.out k, List.length_append])
          have hsum : m + (partL l k).length ≤ n := by rw [HSUM.out, HLEN.out]; have := Hn.out; omega
          clear KVF hop hR KP HPL
          generalize hX : (partL l k).length = X at *
          have HX := Lib.hid hX
          clear hX
          have z0 : ¬ ((X : Int) = 0) := by omega
          have z1 : ¬ (B : Int) < X := by omega
          have z1' : ¬ (X : Int) > B := by omega
          have HO3 := Lib.hid (ownsRow_chg HO.out C3 (by simp))
          obtain ⟨i0, hi, hz0, hz1, hz2⟩ := info_parts Tryd.infoU8'
          have fin : True := trivial
          by_cases hk1 : k + 1 < N
          · have e3 : (k : Int) + 1 < N := by omega
            have z2 : ¬ ((X : Int) ≠ B) := by have := p2 hk1; omega
            have z3 : (X : Int) = B := by have := p2 hk1; omega
            clear p2 p1
            go_wp2_with fail
            refine (KS.out _).mono ?_
            rintro e w4 ⟨rfl, rfl⟩
            go_wp2_with fail
            refine (KS.out _).mono ?_
            rintro e w4 ⟨rfl, rfl⟩
            go_wp2_with (refine wpList_load_y 32 (.tmp 87) rfl (by go_simp) (.pointer (some ⟨gl, k * 32, none⟩)) (.agg R) hld rfl ?_)
            go_wp2_with fail
            refine HVF.out.mono ?_
            rintro e w5 ⟨rfl, C5⟩
            have HC5 := Lib.hid (HC3.out.trans C5 (by simp))
            have hown := ownsRow_chg HO3.out C5 (by simp)
            have hsrc := ownsRow_src (ownsRow_chg HOP.out C5 (by simp))
            have hgs := C5.size
            have hg3 := C3.size
            have hg1 := HC.out.size
            clear C5 HVF HO3 HOP
            go_wp2_with (at_builtin; go_loud (refine wpList_append_y (.tmp 92) (.tmp 93) 25 rfl rfl 5 i0 _ 1 1 Tryd.underlying25 hi hz0 hz1 hz2 rfl (by decide) (.slice ao' m c') m (bvs (l.take (k * B))) hown ap X cp (bvs (partL l k)) (by rw [bvs_length, Nat.mul_one]; exact HX.out) hsrc (fun h => by subst h; obtain ⟨_, _, e, _, h0⟩ := ownsRow_slice hop2.out; cases e; exact (h0 rfl).2) (bvs_one _) (by unfold maxLen; omega) (by omega) rfl rfl ?_))
            intro ao6 c6 w6 hown6 hgr hblk
            have CG := Chg.grown hgr (S := (Value.slice ao' m c').ownBlock.toList) (fun x hx => .inl (by simp [hx]))
            have HC6 : Hid (Chg [] w1 w6) := Lib.hid (HC5.out.trans CG (fun x hx => .inr (HW.out x (by simpa using hx))))
            have HW6 : Hid (∀ b, (Value.slice ao6 (m + X) c6).ownBlock = some b → w1.heap.size ≤ b) := Lib.hid (fun b hb => by
              rcases hblk with h | h <;> rw [h] at hb
              · exact HW.out b hb
              · have := Option.some.inj hb
                omega)
            have HO6 : Hid (w6.ownsRow 0 5 1 (.slice ao6 (m + X) c6) (m + X) (bvs (l.take ((k + 1) * B)))) := Lib.hid (by
              rw [← HNX.out k, bvs_append]
              exact hown6)
            clear hown6 hgr hblk hown hsrc CG hi hz0 hz1 hz2
            go_wp2_with fail
            go_roundw
            case rel => exact ⟨k + 1, m + X, c6, ao6, rfl, by go_num, by omega, by omega, HSUM, HO6, HW6, HC6⟩
            case measure => simp [intOf] <;> omega
          · have e3 : ¬ ((k : Int) + 1 < N) := by omega
            have e3b : ((k : Int) + 1 < N) = False := by simp; omega
            have e3c : (k + 1 < N) = False := by simp; omega
            have zb1 : ((X : Int) == 0) = false := by simp; omega
            have zb2 : (B < X) = False := by simp; omega
            have zb3 : ((B : Int) < X) = False := by simp; omega
            clear p2 p1
            go_wp2_with fail
            refine (KS.out _).mono ?_
            rintro e w4 ⟨rfl, rfl⟩
            go_wp2_with (refine wpList_load_y 32 (.tmp 87) rfl (by go_simp) (.pointer (some ⟨gl, k * 32, none⟩)) (.agg R) hld rfl ?_)
            go_wp2_with fail
            refine HVF.out.mono ?_
            rintro e w5 ⟨rfl, C5⟩
            have HC5 := Lib.hid (HC3.out.trans C5 (by simp))
            have hown := ownsRow_chg HO3.out C5 (by simp)
            have hsrc := ownsRow_src (ownsRow_chg HOP.out C5 (by simp))
            have hgs := C5.size
            have hg3 := C3.size
            have hg1 := HC.out.size
            clear C5 HVF HO3 HOP
            go_wp2_with (at_builtin; go_loud (refine wpList_append_y (.tmp 92) (.tmp 93) 25 rfl rfl 5 i0 _ 1 1 Tryd.underlying25 hi hz0 hz1 hz2 rfl (by decide) (.slice ao' m c') m (bvs (l.take (k * B))) hown ap X cp (bvs (partL l k)) (by rw [bvs_length, Nat.mul_one]; exact HX.out) hsrc (fun h => by subst h; obtain ⟨_, _, e, _, h0⟩ := ownsRow_slice hop2.out; cases e; exact (h0 rfl).2) (bvs_one _) (by unfold maxLen; omega) (by omega) rfl rfl ?_))
            intro ao6 c6 w6 hown6 hgr hblk
            have CG := Chg.grown hgr (S := (Value.slice ao' m c').ownBlock.toList) (fun x hx => .inl (by simp [hx]))
            have HC6 : Hid (Chg [] w1 w6) := Lib.hid (HC5.out.trans CG (fun x hx => .inr (HW.out x (by simpa using hx))))
            have HW6 : Hid (∀ b, (Value.slice ao6 (m + X) c6).ownBlock = some b → w1.heap.size ≤ b) := Lib.hid (fun b hb => by
              rcases hblk with h | h <;> rw [h] at hb
              · exact HW.out b hb
              · have := Option.some.inj hb
                omega)
            have HO6 : Hid (w6.ownsRow 0 5 1 (.slice ao6 (m + X) c6) (m + X) (bvs (l.take ((k + 1) * B)))) := Lib.hid (by
              rw [← HNX.out k, bvs_append]
              exact hown6)
            clear hown6 hgr hblk hown hsrc CG hi hz0 hz1 hz2
            go_wp2_with fail
            go_roundw
            case rel => exact ⟨k + 1, m + X, c6, ao6, rfl, by go_num, by omega, by omega, HSUM, HO6, HW6, HC6⟩
            case measure => simp [intOf] <;> omega
        · have hge : ¬ (k : Int) < N := by omega
          have hkN : k = N := by omega
          have HO' : Hid (wr.ownsRow 0 5 1 (.slice ao' m c') m (bvs l)) := Lib.hid (by have := HO.out; rwa [hkN, HEND.out] at this)
          have HM' : Hid (m = n) := Lib.hid (by rw [HM.out, hkN, HEND.out, Hn.out])
          have hm1 : m = l.length := by rw [HM'.out, Hn.out]
          have hn1 : l.length = n := Hn.out
          have hsr := ownsRow_src HO'.out
          have hsr2 := HS.out.chg (HC1.out.trans HC.out (by simp)) (by simp)
          have KWF := Lib.hid (KW.out _ (HC1.out.trans HC.out (by simp)))
          have hs1 : (⟨l.toArray⟩ : ByteArray).data.toList.length = m := by rw [hm1]
          have hs2 : (⟨l.toArray⟩ : ByteArray).data.toList.length = n := by rw [← hn1]
          clear HO HM HM' hkN hm1 hn1
          go_wp2_with (first | (refine wpList_str_of_bytes _ rfl 25 9 (.tmp 95) rfl 5 Tryd.underlying25 Tryd.underlying5 Tryd.underlying9 ao' m c' rfl ⟨l.toArray⟩ hs1 hsr ?_) | (refine wpList_str_of_bytes _ rfl 25 9 (.tmp 97) rfl 5 Tryd.underlying25 Tryd.underlying5 Tryd.underlying9 ao n c rfl ⟨l.toArray⟩ hs2 hsr2 ?_))
          refine KWF.out.mono ?_
          rintro e w6 ⟨rfl, C6⟩
          go_wp2_with fail
          go_ret
          exact ⟨rfl, HC1.out.trans (HC.out.trans C6 (by simp)) (by simp)⟩
end Go.Proofs.YtfdhpjflkimihaaDoor
