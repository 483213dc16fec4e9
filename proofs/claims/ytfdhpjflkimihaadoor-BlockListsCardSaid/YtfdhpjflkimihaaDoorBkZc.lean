/- The reference's Part, List and Same. No conditions beyond those that each statement types. -/
import Derived.Test.YtfdhpjflkimihaaDoorBkZb
import Derived.Test.YtfdhpjflkimihaaDoorBkSe
import Derived.Test.YtfdhpjflkimihaaDoorBkLc
namespace Go.Proofs.YtfdhpjflkimihaaDoor
open Go.RowKit

/-- Bytes handed back by the reference. -/
def PartR (w : World) (xs : List UInt8) (e : Ending) (w' : World) : Prop :=
  ∃ v, e = .returned v ∧ FVal w' v xs ∧ (∀ x, v.ownBlock = some x → w.heap.size ≤ x) ∧ Chg [] w w'
theorem FVal.nil (w : World) : FVal w (.slice none 0 0) [] := ⟨none, 0, rfl, rfl, .inl ⟨rfl, rfl⟩⟩
set_option maxRecDepth 100000 in
set_option maxHeartbeats 4000000 in
theorem ref_part (l : List UInt8) (i : Int) (ao : Option Addr) (c : Nat) (w : World) (hs : Src w ao (bvs l)) (hlc : l.length ≤ c) (hlm : l.length ≤ 9223372036854775807) :
    Calls Tryd.prog 23 #[.slice ao l.length c, .int .i64 i] w (PartR w (partZ l i)) := by
  have K := Lib.hid (ref_blocks l ao c w hs hlc hlm)
  have hpl := partsL_length l
  clear hs hlc hlm
  generalize l.length = n at *
  go_enter Tryd.func23, Tryd.ntmps23
  go_wp2_with fail
  refine K.out.mono ?_
  rintro e w1 ⟨ao', c', rfl, HB, C1⟩
  have HB := Lib.hid HB
  have HC := Lib.hid C1
  obtain ⟨N, hN⟩ : ∃ N, (partsL l).length = N := ⟨_, rfl⟩
  have HN := Lib.hid hN
  rw [hN]
  clear K C1 hpl hN
  by_cases h0 : i < 0
  · have hp : Hid (partZ l i = []) := Lib.hid (by unfold partZ; rw [if_neg (fun h => absurd h.1 (Int.not_le.2 h0))])
    go_wp2_with fail
    go_ret
    rw [hp.out]
    exact ⟨_, rfl, FVal.nil _, (fun x hx => by cases hx), HC.out⟩
  · obtain ⟨k, rfl⟩ : ∃ k : Nat, i = k := ⟨i.toNat, by omega⟩
    by_cases hk : k < N
    · have e1 : ¬ ((k : Int) ≥ N) := fun h => absurd (Int.ofNat_le.1 h) (Nat.not_le.2 hk)
      have e2 : (k : Int) < N := Int.ofNat_lt.2 hk
      have e3 : (0 : Int) ≤ k := Int.natCast_nonneg _
      have hkc : k < cntN l.length := by rw [← partsL_length, HN.out]; exact hk
      have hp : Hid (partZ l k = partL l k) := Lib.hid (by unfold partZ; rw [if_pos ⟨e3, by simpa using hkc⟩]; rfl)
      obtain ⟨vs, h1, h2, h3⟩ := HB.out
      rw [HN.out] at h1
      obtain ⟨g, rfl⟩ := ownsRow_head h1 (by omega)
      obtain ⟨u, hu⟩ : ∃ u, vs[k]? = some u := ⟨_, List.getElem?_eq_getElem (by have := h1.1; omega)⟩
      obtain ⟨hf, hn⟩ := h2 k u _ hu (partsL_get hkc)
      have hcell := (ownsRow_cell1 h1 hu).1
      have HF := Lib.hid hf
      have HNW := Lib.hid hn
      clear h1 h2 h3 hu hf hn hkc HB
      go_wp2_with fail
      go_ret
      rw [hp.out]
      exact ⟨_, rfl, HF.out, HNW.out, HC.out⟩
    · have e1 : (k : Int) ≥ N := Int.ofNat_le.2 (Nat.not_lt.1 hk)
      have hp : Hid (partZ l k = []) := Lib.hid (by
        unfold partZ
        rw [if_neg]
        rintro ⟨_, h⟩
        rw [← partsL_length, HN.out] at h
        exact hk (by simpa using h))
      go_wp2_with fail
      go_ret
      rw [hp.out]
      exact ⟨_, rfl, FVal.nil _, (fun x hx => by cases hx), HC.out⟩
/-- What the reference's List hands back. -/
def ListedR (w : World) (r : Option (List (Nat → UInt8))) (e : Ending) (w' : World) : Prop :=
  Chg [] w w' ∧ match r with
    | none => e = .returned (.tuple #[.slice none 0 0, .int .i64 3])
    | some L => ∃ ao c, e = .returned (.tuple #[.slice ao L.length c, .int .i64 0]) ∧ w'.ownsRow 0 32 32 (.slice ao L.length c) L.length (hvs L) ∧ ∀ k, (Value.slice ao L.length c).ownBlock = some k → w.heap.size ≤ k
set_option maxRecDepth 100000 in
set_option maxHeartbeats 4000000 in
theorem ref_list (l : List UInt8) (ao : Option Addr) (c : Nat) (w : World) (hs : Src w ao (bvs l)) (hlc : l.length ≤ c) (hlm : l.length ≤ 9223372036854775807) :
    Calls Tryd.prog 21 #[.slice ao l.length c] w (ListedR w (listO l)) := by
  by_cases hbig : 4096 < l.length
  · have hr : listO l = none := by unfold listO; rw [if_pos hbig]
    rw [hr]
    have h' : (l.length : Int) > 4096 := by omega
    clear hr hs hlc hlm hbig
    generalize l.length = n at *
    go_enter Tryd.func21, Tryd.ntmps21
    go_wp2_with fail
    go_ret2
    exact ⟨Chg.refl _ _, rfl⟩
  · have hl4 : l.length ≤ 4096 := by omega
    have h' : ¬ (l.length : Int) > 4096 := by omega
    have hr : listO l = some (listL l) := by unfold listO; rw [if_neg hbig]
    rw [hr]
    have K := Lib.hid (ref_blocks l ao c w hs hlc hlm)
    have HPL := Lib.hid (partsL_length l)
    have HLL := Lib.hid (listL_length l)
    have hcl := cntN_le l.length
    have HTAKE := Lib.hid (fun k (h : k < cntN l.length) => listL_take h)
    have HGET := Lib.hid (fun k (h : k < cntN l.length) => partsL_get h)
    have HPN := Lib.hid (fun k (h : k < cntN l.length) => (part_pos hl4 h).2.1)
    have hbl := bszN_le l.length
    clear hs hlc hlm hr hbig hl4
    generalize cntN l.length = N at *
    generalize bszN l.length = B at *
    generalize l.length = n at *
    go_enter Tryd.func21, Tryd.ntmps21
    go_wp2_with fail
    refine K.out.mono ?_
    rintro e w1 ⟨ao1, c1, rfl, HB, C1⟩
    rw [HPL.out]
    have HROW : Hid (∀ (k : Nat) (w' : World), k < N → Chg [] w1 w' → ∃ g a2 c2, ao1 = some ⟨g, 0, none⟩ ∧ w'.cell? ⟨g, k, none⟩ = some (.slice a2 (partL l k).length c2) ∧ Calls Tryd.prog 26 #[.slice a2 (partL l k).length c2] w' fun e w2 => e = .returned (hashV (digest (partL l k))) ∧ Chg [] w' w2) := Lib.hid (fun k w' hk C => by
      obtain ⟨vs, h1, h2, h3⟩ := HB
      rw [HPL.out] at h1
      obtain ⟨g, rfl⟩ := ownsRow_head h1 (by omega)
      obtain ⟨u, hu⟩ : ∃ u, vs[k]? = some u := ⟨_, List.getElem?_eq_getElem (by have := h1.1; omega)⟩
      obtain ⟨hf, _⟩ := h2 k u _ hu (HGET.out k hk)
      obtain ⟨a2, c2, rfl, ho⟩ := hf
      have ho' := ownsRow_chg ho C (by simp)
      refine ⟨g, a2, c2, rfl, C.cell_some (ownsRow_cell1 h1 hu).1 (by simp), ref_sum (partL l k) a2 c2 w' (ownsRow_src ho') (fun h => ?_) (by have := HPN.out k hk; omega)⟩
      subst h
      obtain ⟨_, _, e, _, h0⟩ := ownsRow_slice ho'
      cases e
      exact (h0 rfl).2)
    have HC1 := Lib.hid C1
    clear HB C1 K HGET HPN
    obtain ⟨ip, hip, hipz, hips, hipb⟩ := info_parts infoHashU
    go_wp2_with fail
    go_loopw [5, 6] (fun v5 v6 wr => ∃ (k c' : Nat) (ao' : Option Addr), v5 = .slice ao' k c' ∧ v6 = .int .i64 (k : Int) ∧ k ≤ N ∧ Hid (wr.ownsRow 0 32 32 (.slice ao' k c') k (hvs ((listL l).take k))) ∧ Hid (∀ b, (Value.slice ao' k c').ownBlock = some b → w1.heap.size ≤ b) ∧ Hid (Chg [] w1 wr)) (fun _ v _ => N - (intOf v).toNat)
    case atStart => exact ⟨0, 0, none, rfl, rfl, Nat.zero_le _, Lib.hid (World.ownsRow_nil _ _ _ _), Lib.hid (fun b hb => by cases hb), Lib.hid (Chg.refl _ _)⟩
    case round =>
      obtain ⟨k, c', ao', rfl, rfl, hk, HO, HNW, HC⟩ := hrel
      by_cases hlt : k < N
      · have e1 : (k : Int) < N := Int.ofNat_lt.2 hlt
        have e0 : (0 : Int) ≤ k := Int.natCast_nonneg _
        obtain ⟨g, a2, c2, rfl, hcell, KS⟩ := HROW.out k wr hlt HC.out
        obtain ⟨f, hf⟩ : ∃ f, digest (partL l k) = f := ⟨_, rfl⟩
        have HT := Lib.hid (HTAKE.out k hlt)
        obtain ⟨R, hR⟩ : ∃ R, hashC f = R := ⟨_, rfl⟩
        have hRs : R.size = 32 := by rw [← hR]; exact hashC_size _
        have hR1 : R.all (·.oneCell') = true := by rw [← hR]; exact hashC_one _
        have hRV : hashV f = .agg R := by rw [hashV, hR]
        have hfold := fold_hash f
        rw [hR] at hfold
        rw [hf, hRV] at KS
        have HKS := Lib.hid KS
        have HR : Hid (hvs ((listL l).take k) ++ R.toList = hvs ((listL l).take (k + 1))) := Lib.hid (by rw [HT.out, hf, hvs_append, hvs_single, hR])
        have HRO : Hid (∀ u ∈ R.toList, u.oneCell' = true) := Lib.hid (by rw [← hR, ← hvs_single]; exact hvs_one _)
        obtain ⟨Z, hZ, hz, hsz, hz1⟩ := zeroHash
        clear KS hf hR hRV HT hZ
        generalize (partL l k).length = X at *
        go_wp2_with fail
        refine HKS.out.mono ?_
        rintro e w2 ⟨rfl, C2⟩
        have HSTO := run_storeAt_new w2 32 Z R (by rw [hRs]; exact infoHash) (by rw [hsz, hRs]) hR1
        have HC2 := Lib.hid (HC.out.trans C2 (by simp))
        have HO2 := Lib.hid (ownsRow_chg HO.out C2 (by simp))
        have hw12 := HC2.out.size
        clear C2 HKS
        go_upto_region 9 with (refine wpList_store_y 32 (.tmp 7) (.tmp 23) rfl rfl (.pointer (some ⟨w2.heap.size, 0, none⟩)) (.agg R) _ HSTO rfl rfl ?_)
        clear HSTO hz hsz hz1
        have CA := Chg.alloc [] w2 (.cells R 32)
        have hq2 := heap_alloc_new w2 (.cells R 32)
        have hws : (w2.alloc (.cells R 32)).heap.size = w2.heap.size + 1 := by simp
        obtain ⟨q2, hqe⟩ : ∃ q2, w2.heap.size = q2 := ⟨_, rfl⟩
        rw [hqe] at hq2 hws hw12 ⊢
        have HO3 := Lib.hid (ownsRow_chg HO2.out CA (by simp))
        have HC3 := Lib.hid (HC2.out.trans CA (by simp))
        generalize w2.alloc (.cells R 32) = w3 at *
        have hld := run_load_hash w3 _ _ _ _ hq2 hRs
        have CB := Chg.alloc [] w3 (.cells R 32)
        have hown := ownsRow_chg HO3.out CB (by simp)
        have hsrc := src_row w3 R 32 (0, 0)
        rw [hws] at hsrc
        have hlen : R.toList.length = 1 * 32 := by rw [Array.length_toList, hRs]
        have hzs : (Value.agg (hashC fun _ => 0)).cells.size = 32 := hashC_size _
        clear CA hq2 hqe HO2 HC2 hR1
        go_wp2_with (first | (refine wpList_load_y 32 (.tmp 7) rfl rfl (.pointer (some ⟨q2, 0, none⟩)) (.agg R) hld rfl ?_) | (at_builtin; (refine wpList_append_y (.tmp 24) (.tmp 26) 27 rfl rfl 32 ip _ 32 32 Tryd.underlying27 hip hipz hips hipb hzs (by decide) (.slice ao' k c') k (hvs ((listL l).take k)) hown (some ⟨q2 + 1, 0, none⟩) 1 1 R.toList hlen hsrc (fun h => by cases h) HRO.out (by unfold maxLen; omega) (by omega) rfl rfl ?_)))
        intro ao2 c3 w5 hown5 hgr hblk
        have CG := Chg.grown hgr (S := (Value.slice ao' k c').ownBlock.toList) (fun b hb => .inl (by simp [hb]))
        have HC5 : Hid (Chg [] w1 w5) := Lib.hid ((HC3.out.trans CB (by simp)).trans CG (fun b hb => .inr (HNW.out b (by simpa using hb))))
        have HN5 : Hid (∀ b, (Value.slice ao2 (k + 1) c3).ownBlock = some b → w1.heap.size ≤ b) := Lib.hid (fun b hb => by
          rcases hblk with h | h <;> rw [h] at hb
          · exact HNW.out b hb
          · rw [← Option.some.inj hb]
            exact Nat.le_trans (show _ ≤ q2 + 1 by rw [← hws]; exact HC3.out.size) (Nat.le_succ _))
        have HO5 : Hid (w5.ownsRow 0 32 32 (.slice ao2 (k + 1) c3) (k + 1) (hvs ((listL l).take (k + 1)))) := Lib.hid (by rw [← HR.out]; exact hown5)
        clear hown5 hgr hblk hown hsrc hlen hzs hipz hips hipb hip CB CG hfold hRs hld hws hw12
        go_wp2_with fail
        go_roundw
        case rel => exact ⟨k + 1, c3, ao2, rfl, by go_num, hlt, HO5, HN5, HC5⟩
        case measure => simp [intOf] <;> omega
      · have hge : ¬ (k : Int) < N := fun h => hlt (Int.ofNat_lt.1 h)
        have hkN : k = N := by omega
        have HE : Hid (Chg [] w wr ∧ ∃ a3 c3, Ending.returned (.tuple #[.slice ao' k c', .int .i64 0]) = Ending.returned (.tuple #[.slice a3 (listL l).length c3, .int .i64 0]) ∧ wr.ownsRow 0 32 32 (.slice a3 (listL l).length c3) (listL l).length (hvs (listL l)) ∧ ∀ b, (Value.slice a3 (listL l).length c3).ownBlock = some b → w.heap.size ≤ b) := Lib.hid (by
          have hall : (listL l).take k = listL l := List.take_of_length_le (by rw [HLL.out]; omega)
          have h1 := HO.out
          rw [hall] at h1
          have h2 := HNW.out
          rw [hkN, ← HLL.out] at h1 h2 ⊢
          exact ⟨HC1.out.trans HC.out (by simp), ao', c', rfl, h1, fun b hb => Nat.le_trans HC1.out.size (h2 b hb)⟩)
        clear hkN
        go_wp2_with fail
        go_ret2
        exact HE.out
end Go.Proofs.YtfdhpjflkimihaaDoor
