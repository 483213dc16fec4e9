/- The reference's Blocks. No conditions beyond those that each statement types. -/
import Derived.Test.YtfdhpjflkimihaaDoorBkZa
import Derived.Test.YtfdhpjflkimihaaDoorBkLx
import Derived.Test.YtfdhpjflkimihaaDoorBkSe
namespace Go.Proofs.YtfdhpjflkimihaaDoor
open Go.RowKit

/-- Blocks in memory: a row of slices, each of memory of its own, new behind w0. -/
def BlocksIs (w0 w : World) (ps : List (List UInt8)) (ao : Option Addr) (c : Nat) : Prop :=
  ∃ vs : List Value, w.ownsRow 0 25 1 (.slice ao ps.length c) ps.length vs ∧ (∀ (k : Nat) u p, vs[k]? = some u → ps[k]? = some p → FVal w u p ∧ ∀ x, u.ownBlock = some x → w0.heap.size ≤ x) ∧ ∀ x, (Value.slice ao ps.length c).ownBlock = some x → w0.heap.size ≤ x
theorem BlocksIs.chg {w0 w w' : World} {ps : List (List UInt8)} {ao : Option Addr} {c : Nat} (h : BlocksIs w0 w ps ao c) {S : List Nat} (C : Chg S w w') (hS : ∀ x ∈ S, x < w0.heap.size) : BlocksIs w0 w' ps ao c := by
  obtain ⟨vs, h1, h2, h3⟩ := h
  refine ⟨vs, ownsRow_chg h1 C (fun x hx hm => by have := h3 x hx; have := hS x hm; omega), fun k u p hu hp => ?_, h3⟩
  obtain ⟨a, b⟩ := h2 k u p hu hp
  exact ⟨a.chg C (fun x hx hm => by have := b x hx; have := hS x hm; omega), b⟩
theorem infoSlU : (Tryd.prog.info? 25).map (fun i => (i.zero, i.size, i.bytes)) = some (some (.slice none 0 0), 1, 24) := by kernel_rfl
theorem wrap64_nat {n : Nat} (h : n < 4611686018427387904) : wrap64 (n : Int) = (n : Int) := by unfold wrap64; omega
theorem ends_of {X B n a E : Nat} (h : X = min B (n - a)) (hE : a + B = E) (ha : a < n) : (E < n → X = E - a) ∧ (n ≤ E → X = n - a) ∧ X ≤ B := by
  refine ⟨fun h1 => ?_, fun h1 => ?_, ?_⟩ <;> omega
theorem app_bounds {m : Nat} (h : m ≤ 100000) : 0 + m ≤ maxLen ∧ (0 + m) * 1 ≤ 140737488355328 := by unfold maxLen; omega
theorem app_bounds1 {k N : Nat} (h : k < N) (hN : N ≤ 32) : k + 1 ≤ maxLen ∧ (k + 1) * 24 ≤ 140737488355328 := by unfold maxLen; omega
theorem mm_of {X B n a : Nat} (h : X = min B (n - a)) (ha : a < n) : (min ((a : Int) + (B : Int)) (n : Int)).toNat - a = X := by omega
theorem mm_le {B n a c : Nat} (ha : a < n) (hc : n ≤ c) : (a : Int) ≤ min ((a : Int) + (B : Int)) (n : Int) ∧ min ((a : Int) + (B : Int)) (n : Int) ≤ (c : Int) := by omega
theorem parts_take {l : List UInt8} {k : Nat} (h : k < cntN l.length) : (partsL l).take (k + 1) = (partsL l).take k ++ [partL l k] := by
  rw [List.take_add_one, partsL_get h]
  rfl
set_option maxRecDepth 100000 in
set_option maxHeartbeats 8000000 in
theorem ref_blocks (l : List UInt8) (ao : Option Addr) (c : Nat) (w : World) (hs : Src w ao (bvs l)) (hlc : l.length ≤ c) (hlm : l.length ≤ 9223372036854775807) :
    Calls Tryd.prog 57 #[.slice ao l.length c] w fun e w' => ∃ ao' c', e = .returned (.slice ao' (partsL l).length c') ∧ BlocksIs w w' (partsL l) ao' c' ∧ Chg [] w w' := by
  have K := Lib.hid (ref_size l.length w)
  rw [show bszZ l.length = bszN l.length by unfold bszZ; rw [if_neg (by omega)]; rfl] at K
  have HPL := Lib.hid (partsL_length l)
  by_cases hbig : 4096 < l.length
  · rw [bszN_big hbig] at K
    have hp : partsL l = [] := by rw [← List.length_eq_zero_iff, partsL_length, cntN_big hbig]
    rw [hp]
    clear hp hs hlc HPL
    generalize l.length = n at *
    go_enter Tryd.func57, Tryd.ntmps57
    go_wp2_with fail
    refine K.out.mono ?_
    rintro e w1 ⟨rfl, C1⟩
    go_wp2_with fail
    go_loopw [4, 5] (fun v4 v5 wr => v4 = .slice none 0 0 ∧ v5 = .int .i64 0 ∧ wr = w1) (fun _ _ _ => 0)
    case atStart => exact ⟨rfl, rfl, rfl⟩
    case round =>
      obtain ⟨rfl, rfl, rfl⟩ := hrel
      go_wp2_with fail
      go_ret
      exact ⟨none, 0, rfl, ⟨[], World.ownsRow_nil _ _ _ _, fun k u p hu => by simp at hu, fun x hx => by cases hx⟩, C1⟩
  · have hl4 : l.length ≤ 4096 := by omega
    have hbp := bszN_pos hl4
    have hbl := bszN_le l.length
    have hcl := cntN_le l.length
    have HLT := Lib.hid (fun k => cntN_lt hl4 k)
    have HPT := Lib.hid (fun k => partL_length l k)
    have HSRC := Lib.hid (fun k a w' (C : Chg [] w w') (ha : ao = some a) => part_src (by rw [← ha]; exact hs.chg C (by simp)) k)
    have HTK := Lib.hid (fun k (hk : k < cntN l.length) => parts_take hk)
    have HGET := Lib.hid (fun k (hk : k < cntN l.length) => partsL_get hk)
    have HAO : Hid (0 < l.length → ∃ a, ao = some a) := Lib.hid (fun h => by
      obtain ⟨a, ha, _⟩ := hs.lt (by rw [bvs_length]; exact h)
      exact ⟨a, ha⟩)
    obtain ⟨i0, hi, hz0, hz1, hz2⟩ := info_parts Tryd.infoU8'
    obtain ⟨ip, hip, hp0, hp1, hp2⟩ := info_parts infoSlU
    clear hs hlm hbig
    obtain ⟨B, hB⟩ : ∃ B, bszN l.length = B := ⟨_, rfl⟩
    obtain ⟨N, hN⟩ : ∃ N, cntN l.length = N := ⟨_, rfl⟩
    obtain ⟨n, hn⟩ : ∃ n, l.length = n := ⟨_, rfl⟩
    rw [hB] at K hbp hbl HLT HPT HSRC
    rw [hN] at hcl HLT HTK HGET HPL
    rw [hn] at K hl4 HLT HPT hlc HAO hbp ⊢
    clear hB hN hn
    have hB0 : (0 : Int) < B := by omega
    go_enter Tryd.func57, Tryd.ntmps57
    go_wp2_with fail
    refine K.out.mono ?_
    rintro e w1 ⟨rfl, C1⟩
    have HC1 := Lib.hid C1
    clear C1
    go_wp2_with fail
    go_loopw [4, 5] (fun v4 v5 wr => ∃ (k at' c' : Nat) (ao' : Option Addr), v4 = .slice ao' k c' ∧ v5 = .int .i64 (at' : Int) ∧ at' = k * B ∧ k ≤ N ∧ Hid (k = ((partsL l).take k).length) ∧ Hid (BlocksIs w wr ((partsL l).take k) ao' c') ∧ Hid (Chg [] w wr)) (fun v4 _ _ => N - match v4 with | .slice _ k _ => k | _ => 0)
    case atStart => exact ⟨0, 0, 0, none, rfl, rfl, by simp, Nat.zero_le _, Lib.hid rfl, Lib.hid ⟨[], World.ownsRow_nil _ _ _ _, fun k u p hu => by simp at hu, fun x hx => by cases hx⟩, HC1⟩
    case round =>
      obtain ⟨k, at', c', ao', rfl, rfl, hat, hk, HKL, HB, HC⟩ := hrel
      by_cases hlt : k < N
      · have h1 := (HLT.out k).1 hlt
        rw [← hat] at h1
        have e1 : (at' : Int) < n := by omega
        have HAT := Lib.hid hat
        obtain ⟨a, rfl⟩ := HAO.out (by omega)
        have hpl := HPT.out k
        rw [← hat] at hpl
        have hsr := fun w' (C : Chg [] w w') => HSRC.out k a w' C rfl
        rw [← hat] at hsr
        have HSR := Lib.hid hsr
        have HT := Lib.hid (HTK.out k hlt)
        have HG := Lib.hid (HGET.out k hlt)
        obtain ⟨X, hXe⟩ : ∃ X, (partL l k).length = X := ⟨_, rfl⟩
        rw [hXe] at hpl
        have HX := Lib.hid hXe
        have hx0 : X ≤ 128 := by rw [hpl]; exact Nat.le_trans (Nat.min_le_left _ _) hbl
        have hMM := mm_of hpl h1
        have hm0 : X ≤ 100000 := Nat.le_trans hx0 (by decide)
        have ha1 : (at' : Int) ≤ min ((at' : Int) + (B : Int)) (n : Int) := (mm_le h1 hlc).1
        have ha2 : min ((at' : Int) + (B : Int)) (n : Int) ≤ (c : Int) := (mm_le h1 hlc).2
        have HAB : Hid (0 + ((min ((at' : Int) + (B : Int)) (n : Int)).toNat - at') ≤ maxLen ∧ (0 + ((min ((at' : Int) + (B : Int)) (n : Int)).toNat - at')) * 1 ≤ 140737488355328) := Lib.hid (app_bounds (by rw [hMM]; exact hm0))
        have HML : Hid ((bvs (partL l k)).length = ((min ((at' : Int) + (B : Int)) (n : Int)).toNat - at') * 1) := Lib.hid (by rw [bvs_length, HX.out, hMM, Nat.mul_one])
        clear hpl hat hx0 hMM
        go_wp2_with (at_builtin; (first
          | (refine wpList_append_y (.tmp 21) (.tmp 30) 25 rfl rfl 5 i0 _ 1 1 Tryd.underlying25 hi hz0 hz1 hz2 rfl (by decide) (.slice none 0 0) 0 [] (World.ownsRow_nil _ _ _ _) (some (a.add at')) ((min ((at' : Int) + (B : Int)) (n : Int)).toNat - at') (c - at') (bvs (partL l k)) HML.out (HSR.out _ HC.out) (fun h => by cases h) (bvs_one _) HAB.out.1 HAB.out.2 rfl rfl ?_)))
        intro ao3 c3 w3 hown3 hgr3 hblk3
        try simp only [Nat.zero_add, List.nil_append] at hown3
        try simp only [Nat.zero_add] at hblk3
        try simp only [Nat.zero_add]
        have C3 : Chg [] wr w3 := Chg.grown hgr3 (fun x hx => by cases hx)
        have hM : ((min ((at' : Int) + (B : Int)) (n : Int)).toNat - at') = (partL l k).length := by have := HML.out; rw [bvs_length, Nat.mul_one] at this; exact this.symm
        rw [hM] at hown3 hblk3 ⊢
        have HF3 : Hid (FVal w3 (.slice ao3 (partL l k).length c3) (partL l k)) := Lib.hid ⟨ao3, c3, rfl, hown3⟩
        have HN3 : Hid (∀ x, (Value.slice ao3 (partL l k).length c3).ownBlock = some x → w.heap.size ≤ x ∧ x < w3.heap.size ∧ wr.heap.size ≤ x) := Lib.hid (fun x hx => by
          have hl3 := ownsRow_lt hown3 x hx
          have hwr := HC.out.size
          rcases hblk3 with h | h <;> rw [h] at hx
          · cases hx
          · have := Option.some.inj hx
            exact ⟨by omega, hl3, by omega⟩)
        obtain ⟨vs, hv1, hv2, hv3⟩ := HB.out
        rw [← HKL.out] at hv1
        have CA := Chg.alloc [] w3 (.cells #[.slice ao3 (partL l k).length c3] 25)
        have hownA := ownsRow_chg hv1 (C3.trans CA (by simp)) (by simp)
        have hsrcA := src_row w3 #[.slice ao3 (partL l k).length c3] 25 (0, 0)
        have HV2 := Lib.hid hv2
        have HV3 := Lib.hid hv3
        have HC3 := Lib.hid C3
        have HCA := Lib.hid CA
        rw [← HKL.out] at hv3
        have HV3' := Lib.hid hv3
        clear hown3 hgr3 hblk3 C3 hM hv1 hv2 hv3 CA HB
        obtain ⟨Pn, hPn⟩ : ∃ Pn, (partL l k).length = Pn := ⟨_, rfl⟩
        rw [hPn] at HF3 HN3 hownA hsrcA HCA ⊢
        clear hPn
        go_wp2_with (at_builtin; (refine wpList_append_y (.tmp 32) (.tmp 34) 106 rfl rfl 25 ip _ 1 24 Tryd.underlying106 hip hp0 hp1 hp2 rfl (by decide) (.slice ao' k c') k vs hownA (some ⟨w3.heap.size, 0, none⟩) 1 1 [.slice ao3 Pn c3] rfl hsrcA (fun h => by cases h) (by simp [Value.oneCell']) (app_bounds1 hlt hcl).1 (app_bounds1 hlt hcl).2 rfl rfl ?_))
        intro ao5 c5 w5 hown5 hgr5 hblk5
        have CG := Chg.grown hgr5 (S := (Value.slice ao' k c').ownBlock.toList) (fun x hx => .inl (by simp [hx]))
        have C5 : Chg (Value.slice ao' k c').ownBlock.toList w3 w5 := (HCA.out.mono (by simp)).trans CG (fun x hx => .inl hx)
        have HC5 : Hid (Chg [] w w5) := Lib.hid ((HC.out.trans HC3.out (by simp)).trans C5 (fun x hx => .inr (HV3'.out x (by simpa using hx))))
        have hty : ∀ (u : Value) (q : List UInt8), FVal w3 u q → FVal w5 u q := fun u q h => h.chg C5 (fun x hx hm => by
          obtain ⟨cur, hc⟩ := h.block hx
          have h2 := ownsRow_ne (ownsRow_chg hownA (Chg.refl [] _) (by simp)) (b := x) (cs := cur) (t := 5) (fr := (0, 0)) ((HCA.out.block x (lt_of_block hc) (by simp)).trans hc) (by decide)
          exact h2 (by simpa using hm))
        have HB5 : Hid (BlocksIs w w5 ((partsL l).take (k + 1)) ao5 c5) := Lib.hid (by
          have hl1 : ((partsL l).take (k + 1)).length = k + 1 := by rw [HT.out, List.length_append, ← HKL.out]; rfl
          refine ⟨vs ++ [.slice ao3 Pn c3], by rw [hl1]; exact hown5, fun j u q hu hq => ?_, fun x hx => ?_⟩
          · have hlv : vs.length = k := by have := hownA.1; omega
            rw [HT.out] at hq
            rcases Nat.lt_or_ge j k with h | h
            · rw [List.getElem?_append_left (by omega)] at hu
              rw [List.getElem?_append_left (by rw [← HKL.out]; exact h)] at hq
              obtain ⟨h1, h2⟩ := HV2.out j u q hu hq
              exact ⟨hty u q (h1.chg HC3.out (by simp)), h2⟩
            · rw [List.getElem?_append_right (by omega)] at hu
              rw [List.getElem?_append_right (by rw [← HKL.out]; exact h), ← HKL.out] at hq
              rw [hlv] at hu
              have h0 : j - k = 0 := by have := (List.getElem?_eq_some_iff.1 hu).1; simp at this; omega
              rw [h0] at hu hq
              cases hu
              cases hq
              exact ⟨hty _ _ HF3.out, fun x hx => (HN3.out x hx).1⟩
          · rw [hl1] at hx
            rcases hblk5 with h | h <;> rw [h] at hx
            · exact HV3'.out x hx
            · rw [← Option.some.inj hx]
              exact Nat.le_trans (HC.out.trans HC3.out (by simp)).size (Nat.le_succ _))
        have HKL5 : Hid (k + 1 = ((partsL l).take (k + 1)).length) := Lib.hid (by rw [HT.out, List.length_append, ← HKL.out]; rfl)
        clear hown5 hgr5 hblk5 hty C5 CG hownA hsrcA hi hz0 hz1 hz2 hip hp0 hp1 hp2
        go_wp2_with fail
        go_roundw
        case rel => exact ⟨k + 1, at' + B, c5, ao5, rfl, by rw [Int.natCast_add], by rw [HAT.out, Nat.add_mul, Nat.one_mul], hlt, HKL5, HB5, HC5⟩
        case measure =>
          show N - (k + 1) < N - k
          exact Nat.sub_lt_sub_left hlt (Nat.lt_succ_self k)
      · have h1 := mt (HLT.out k).2 hlt
        rw [← hat] at h1
        have e1 : ¬ (at' : Int) < n := by omega
        have hkN : k = N := by omega
        have HE : Hid (∃ ao2 c2, (Value.slice ao' k c') = .slice ao2 (partsL l).length c2 ∧ BlocksIs w wr (partsL l) ao2 c2 ∧ Chg [] w wr) := Lib.hid (by
          have hall : (partsL l).take k = partsL l := List.take_of_length_le (by rw [HPL.out]; omega)
          have := HB.out
          rw [hall] at this
          have hk2 := HKL.out
          rw [hall] at hk2
          exact ⟨ao', c', by rw [← hk2], this, HC.out⟩)
        clear hkN
        go_wp2_with fail
        go_ret
        obtain ⟨ao2, c2, h1, h2, h3⟩ := HE.out
        exact ⟨ao2, c2, by rw [← h1]; rfl, h2, h3⟩
end Go.Proofs.YtfdhpjflkimihaaDoor
/- The reference's Part, List and Same. No conditions beyond those that each statement types. -/
namespace Go.Proofs.YtfdhpjflkimihaaDoor
open Go.RowKit

/-- Bytes handed back by the reference. -/
def PartR (w : World) (xs : List UInt8) (e : Ending) (w' : World) : Prop :=
  ∃ v, e = .returned v ∧ FVal w' v xs ∧ (∀ x, v.ownBlock = some x → w.heap.size ≤ x) ∧ Chg [] w w'
theorem FVal.nil (w : World) : FVal w (.slice none 0 0) [] := ⟨none, 0, rfl, rfl, .inl ⟨rfl, rfl⟩⟩
set_option maxRecDepth 100000 in
set_option maxHeartbeats 4000000 in
theorem ref_part (l : List UInt8) (i : Int) (ao : Option Addr) (c : Nat) (w : World) (hs : Src w ao (bvs l)) (hlc : l.length ≤ c) (hlm : l.length ≤ 9223372036854775807) :
    Calls Tryd.prog 23 #[.slice ao l.length c, .int .i64 i] w (PartR w (partZ l i)) := by
  have K := Lib.hid (ref_blocks l ao c w hs hlc hlm)
  have hpl := partsL_length l
  clear hs hlc hlm
  generalize l.length = n at *
  go_enter Tryd.func23, Tryd.ntmps23
  go_wp2_with fail
  refine K.out.mono ?_
  rintro e w1 ⟨ao', c', rfl, HB, C1⟩
  have HB := Lib.hid HB
  have HC := Lib.hid C1
  obtain ⟨N, hN⟩ : ∃ N, (partsL l).length = N := ⟨_, rfl⟩
  have HN := Lib.hid hN
  rw [hN]
  clear K C1 hpl hN
  by_cases h0 : i < 0
  · have hp : Hid (partZ l i = []) := Lib.hid (by unfold partZ; rw [if_neg (fun h => absurd h.1 (Int.not_le.2 h0))])
    go_wp2_with fail
    go_ret
    rw [hp.out]
    exact ⟨_, rfl, FVal.nil _, (fun x hx => by cases hx), HC.out⟩
  · obtain ⟨k, rfl⟩ : ∃ k : Nat, i = k := ⟨i.toNat, by omega⟩
    by_cases hk : k < N
    · have e1 : ¬ ((k : Int) ≥ N) := fun h => absurd (Int.ofNat_le.1 h) (Nat.not_le.2 hk)
      have e2 : (k : Int) < N := Int.ofNat_lt.2 hk
      have e3 : (0 : Int) ≤ k := Int.natCast_nonneg _
      have hkc : k < cntN l.length := by rw [← partsL_length, HN.out]; exact hk
      have hp : Hid (partZ l k = partL l k) := Lib.hid (by unfold partZ; rw [if_pos ⟨e3, by simpa using hkc⟩]; rfl)
      obtain ⟨vs, h1, h2, h3⟩ := HB.out
      rw [HN.out] at h1
      obtain ⟨g, rfl⟩ := ownsRow_head h1 (by omega)
      obtain ⟨u, hu⟩ : ∃ u, vs[k]? = some u := ⟨_, List.getElem?_eq_getElem (by have := h1.1; omega)⟩
      obtain ⟨hf, hn⟩ := h2 k u _ hu (partsL_get hkc)
      have hcell := (ownsRow_cell1 h1 hu).1
      have HF := Lib.hid hf
      have HNW := Lib.hid hn
      clear h1 h2 h3 hu hf hn hkc HB
      go_wp2_with fail
      go_ret
      rw [hp.out]
      exact ⟨_, rfl, HF.out, HNW.out, HC.out⟩
    · have e1 : (k : Int) ≥ N := Int.ofNat_le.2 (Nat.not_lt.1 hk)
      have hp : Hid (partZ l k = []) := Lib.hid (by
        unfold partZ
        rw [if_neg]
        rintro ⟨_, h⟩
        rw [← partsL_length, HN.out] at h
        exact hk (by simpa using h))
      go_wp2_with fail
      go_ret
      rw [hp.out]
      exact ⟨_, rfl, FVal.nil _, (fun x hx => by cases hx), HC.out⟩
/-- What the reference's List hands back. -/
def ListedR (w : World) (r : Option (List (Nat → UInt8))) (e : Ending) (w' : World) : Prop :=
  Chg [] w w' ∧ match r with
    | none => e = .returned (.tuple #[.slice none 0 0, .int .i64 3])
    | some L => ∃ ao c, e = .returned (.tuple #[.slice ao L.length c, .int .i64 0]) ∧ w'.ownsRow 0 32 32 (.slice ao L.length c) L.length (hvs L) ∧ ∀ k, (Value.slice ao L.length c).ownBlock = some k → w.heap.size ≤ k
set_option maxRecDepth 100000 in
set_option maxHeartbeats 4000000 in
theorem ref_list (l : List UInt8) (ao : Option Addr) (c : Nat) (w : World) (hs : Src w ao (bvs l)) (hlc : l.length ≤ c) (hlm : l.length ≤ 9223372036854775807) :
    Calls Tryd.prog 21 #[.slice ao l.length c] w (ListedR w (listO l)) := by
  by_cases hbig : 4096 < l.length
  · have hr : listO l = none := by unfold listO; rw [if_pos hbig]
    rw [hr]
    have h' : (l.length : Int) > 4096 := by omega
    clear hr hs hlc hlm hbig
    generalize l.length = n at *
    go_enter Tryd.func21, Tryd.ntmps21
    go_wp2_with fail
    go_ret2
    exact ⟨Chg.refl _ _, rfl⟩
  · have hl4 : l.length ≤ 4096 := by omega
    have h' : ¬ (l.length : Int) > 4096 := by omega
    have hr : listO l = some (listL l) := by unfold listO; rw [if_neg hbig]
    rw [hr]
    have K := Lib.hid (ref_blocks l ao c w hs hlc hlm)
    have HPL := Lib.hid (partsL_length l)
    have HLL := Lib.hid (listL_length l)
    have hcl := cntN_le l.length
    have HTAKE := Lib.hid (fun k (h : k < cntN l.length) => listL_take h)
    have HGET := Lib.hid (fun k (h : k < cntN l.length) => partsL_get h)
    have HPN := Lib.hid (fun k (h : k < cntN l.length) => (part_pos hl4 h).2.1)
    have hbl := bszN_le l.length
    clear hs hlc hlm hr hbig hl4
    generalize cntN l.length = N at *
    generalize bszN l.length = B at *
    generalize l.length = n at *
    go_enter Tryd.func21, Tryd.ntmps21
    go_wp2_with fail
    refine K.out.mono ?_
    rintro e w1 ⟨ao1, c1, rfl, HB, C1⟩
    rw [HPL.out]
    have HROW : Hid (∀ (k : Nat) (w' : World), k < N → Chg [] w1 w' → ∃ g a2 c2, ao1 = some ⟨g, 0, none⟩ ∧ w'.cell? ⟨g, k, none⟩ = some (.slice a2 (partL l k).length c2) ∧ Calls Tryd.prog 26 #[.slice a2 (partL l k).length c2] w' fun e w2 => e = .returned (hashV (digest (partL l k))) ∧ Chg [] w' w2) := Lib.hid (fun k w' hk C => by
      obtain ⟨vs, h1, h2, h3⟩ := HB
      rw [HPL.out] at h1
      obtain ⟨g, rfl⟩ := ownsRow_head h1 (by omega)
      obtain ⟨u, hu⟩ : ∃ u, vs[k]? = some u := ⟨_, List.getElem?_eq_getElem (by have := h1.1; omega)⟩
      obtain ⟨hf, _⟩ := h2 k u _ hu (HGET.out k hk)
      obtain ⟨a2, c2, rfl, ho⟩ := hf
      have ho' := ownsRow_chg ho C (by simp)
      refine ⟨g, a2, c2, rfl, C.cell_some (ownsRow_cell1 h1 hu).1 (by simp), ref_sum (partL l k) a2 c2 w' (ownsRow_src ho') (fun h => ?_) (by have := HPN.out k hk; omega)⟩
      subst h
      obtain ⟨_, _, e, _, h0⟩ := ownsRow_slice ho'
      cases e
      exact (h0 rfl).2)
    have HC1 := Lib.hid C1
    clear HB C1 K HGET HPN
    obtain ⟨ip, hip, hipz, hips, hipb⟩ := info_parts infoHashU
    go_wp2_with fail
    go_loopw [5, 6] (fun v5 v6 wr => ∃ (k c' : Nat) (ao' : Option Addr), v5 = .slice ao' k c' ∧ v6 = .int .i64 (k : Int) ∧ k ≤ N ∧ Hid (wr.ownsRow 0 32 32 (.slice ao' k c') k (hvs ((listL l).take k))) ∧ Hid (∀ b, (Value.slice ao' k c').ownBlock = some b → w1.heap.size ≤ b) ∧ Hid (Chg [] w1 wr)) (fun _ v _ => N - (intOf v).toNat)
    case atStart => exact ⟨0, 0, none, rfl, rfl, Nat.zero_le _, Lib.hid (World.ownsRow_nil _ _ _ _), Lib.hid (fun b hb => by cases hb), Lib.hid (Chg.refl _ _)⟩
    case round =>
      obtain ⟨k, c', ao', rfl, rfl, hk, HO, HNW, HC⟩ := hrel
      by_cases hlt : k < N
      · have e1 : (k : Int) < N := Int.ofNat_lt.2 hlt
        have e0 : (0 : Int) ≤ k := Int.natCast_nonneg _
        obtain ⟨g, a2, c2, rfl, hcell, KS⟩ := HROW.out k wr hlt HC.out
        obtain ⟨f, hf⟩ : ∃ f, digest (partL l k) = f := ⟨_, rfl⟩
        have HT := Lib.hid (HTAKE.out k hlt)
        obtain ⟨R, hR⟩ : ∃ R, hashC f = R := ⟨_, rfl⟩
        have hRs : R.size = 32 := by rw [← hR]; exact hashC_size _
        have hR1 : R.all (·.oneCell') = true := by rw [← hR]; exact hashC_one _
        have hRV : hashV f = .agg R := by rw [hashV, hR]
        have hfold := fold_hash f
        rw [hR] at hfold
        rw [hf, hRV] at KS
        have HKS := Lib.hid KS
        have HR : Hid (hvs ((listL l).take k) ++ R.toList = hvs ((listL l).take (k + 1))) := Lib.hid (by rw [HT.out, hf, hvs_append, hvs_single, hR])
        have HRO : Hid (∀ u ∈ R.toList, u.oneCell' = true) := Lib.hid (by rw [← hR, ← hvs_single]; exact hvs_one _)
        obtain ⟨Z, hZ, hz, hsz, hz1⟩ := zeroHash
        clear KS hf hR hRV HT hZ
        generalize (partL l k).length = X at *
        go_wp2_with fail
        refine HKS.out.mono ?_
        rintro e w2 ⟨rfl, C2⟩
        have HSTO := run_storeAt_new w2 32 Z R (by rw [hRs]; exact infoHash) (by rw [hsz, hRs]) hR1
        have HC2 := Lib.hid (HC.out.trans C2 (by simp))
        have HO2 := Lib.hid (ownsRow_chg HO.out C2 (by simp))
        have hw12 := HC2.out.size
        clear C2 HKS
        go_upto_region 9 with (refine wpList_store_y 32 (.tmp 7) (.tmp 23) rfl rfl (.pointer (some ⟨w2.heap.size, 0, none⟩)) (.agg R) _ HSTO rfl rfl ?_)
        clear HSTO hz hsz hz1
        have CA := Chg.alloc [] w2 (.cells R 32)
        have hq2 := heap_alloc_new w2 (.cells R 32)
        have hws : (w2.alloc (.cells R 32)).heap.size = w2.heap.size + 1 := by simp
        obtain ⟨q2, hqe⟩ : ∃ q2, w2.heap.size = q2 := ⟨_, rfl⟩
        rw [hqe] at hq2 hws hw12 ⊢
        have HO3 := Lib.hid (ownsRow_chg HO2.out CA (by simp))
        have HC3 := Lib.hid (HC2.out.trans CA (by simp))
        generalize w2.alloc (.cells R 32) = w3 at *
        have hld := run_load_hash w3 _ _ _ _ hq2 hRs
        have CB := Chg.alloc [] w3 (.cells R 32)
        have hown := ownsRow_chg HO3.out CB (by simp)
        have hsrc := src_row w3 R 32 (0, 0)
        rw [hws] at hsrc
        have hlen : R.toList.length = 1 * 32 := by rw [Array.length_toList, hRs]
        have hzs : (Value.agg (hashC fun _ => 0)).cells.size = 32 := hashC_size _
        clear CA hq2 hqe HO2 HC2 hR1
        go_wp2_with (first | (refine wpList_load_y 32 (.tmp 7) rfl rfl (.pointer (some ⟨q2, 0, none⟩)) (.agg R) hld rfl ?_) | (at_builtin; (refine wpList_append_y (.tmp 24) (.tmp 26) 27 rfl rfl 32 ip _ 32 32 Tryd.underlying27 hip hipz hips hipb hzs (by decide) (.slice ao' k c') k (hvs ((listL l).take k)) hown (some ⟨q2 + 1, 0, none⟩) 1 1 R.toList hlen hsrc (fun h => by cases h) HRO.out (by unfold maxLen; omega) (by omega) rfl rfl ?_)))
        intro ao2 c3 w5 hown5 hgr hblk
        have CG := Chg.grown hgr (S := (Value.slice ao' k c').ownBlock.toList) (fun b hb => .inl (by simp [hb]))
        have HC5 : Hid (Chg [] w1 w5) := Lib.hid ((HC3.out.trans CB (by simp)).trans CG (fun b hb => .inr (HNW.out b (by simpa using hb))))
        have HN5 : Hid (∀ b, (Value.slice ao2 (k + 1) c3).ownBlock = some b → w1.heap.size ≤ b) := Lib.hid (fun b hb => by
          rcases hblk with h | h <;> rw [h] at hb
          · exact HNW.out b hb
          · rw [← Option.some.inj hb]
            exact Nat.le_trans (show _ ≤ q2 + 1 by rw [← hws]; exact HC3.out.size) (Nat.le_succ _))
        have HO5 : Hid (w5.ownsRow 0 32 32 (.slice ao2 (k + 1) c3) (k + 1) (hvs ((listL l).take (k + 1)))) := Lib.hid (by rw [← HR.out]; exact hown5)
        clear hown5 hgr hblk hown hsrc hlen hzs hipz hips hipb hip CB CG hfold hRs hld hws hw12
        go_wp2_with fail
        go_roundw
        case rel => exact ⟨k + 1, c3, ao2, rfl, by go_num, hlt, HO5, HN5, HC5⟩
        case measure => simp [intOf] <;> omega
      · have hge : ¬ (k : Int) < N := fun h => hlt (Int.ofNat_lt.1 h)
        have hkN : k = N := by omega
        have HE : Hid (Chg [] w wr ∧ ∃ a3 c3, Ending.returned (.tuple #[.slice ao' k c', .int .i64 0]) = Ending.returned (.tuple #[.slice a3 (listL l).length c3, .int .i64 0]) ∧ wr.ownsRow 0 32 32 (.slice a3 (listL l).length c3) (listL l).length (hvs (listL l)) ∧ ∀ b, (Value.slice a3 (listL l).length c3).ownBlock = some b → w.heap.size ≤ b) := Lib.hid (by
          have hall : (listL l).take k = listL l := List.take_of_length_le (by rw [HLL.out]; omega)
          have h1 := HO.out
          rw [hall] at h1
          have h2 := HNW.out
          rw [hkN, ← HLL.out] at h1 h2 ⊢
          exact ⟨HC1.out.trans HC.out (by simp), ao', c', rfl, h1, fun b hb => Nat.le_trans HC1.out.size (h2 b hb)⟩)
        clear hkN
        go_wp2_with fail
        go_ret2
        exact HE.out
end Go.Proofs.YtfdhpjflkimihaaDoor
/- The reference's Same: of two lists that are one. No conditions beyond those that each statement types. -/
namespace Go.Proofs.YtfdhpjflkimihaaDoor
open Go.RowKit

theorem run_neq_hash (f g : Nat → UInt8) (w : World) : (binOp .neq 32 (hashV f) (hashV g)).run Tryd.prog w = .ok (.bool (!sameHash f g)) w := by
  obtain ⟨i, hi⟩ := u8_info
  unfold hashV
  rw [run_neq_struct, run_equalIn_array w 9999 (hashC f) (hashC g) Tryd.underlying32 hi, u8_cells, run_eq_bytes f g w 9998 _ (fun j hj => List.mem_range.1 hj)]
  rfl
theorem hash_guardn (x y : Operand) (X Y : Array Value) (w : World) : (eqGuard .neq 32 x y (.agg X) (.agg Y)).run Tryd.prog w = .ok () w := by
  have h : Tryd.prog.eqGuardType Tryd.prog.depth 32 = false := by kernel_rfl
  have hp : (program).run Tryd.prog w = .ok Tryd.prog w := rfl
  simp [eqGuard, hp, h, Result.andThen]
set_option maxRecDepth 100000 in
set_option maxHeartbeats 4000000 in
theorem ref_same (L : List (Nat → UInt8)) (a1 a2 : Option Addr) (c1 c2 : Nat) (w : World) (h1 : w.ownsRow 0 32 32 (.slice a1 L.length c1) L.length (hvs L)) (h2 : w.ownsRow 0 32 32 (.slice a2 L.length c2) L.length (hvs L)) (hl : L.length ≤ 1000) :
    Calls Tryd.prog 24 #[.slice a1 L.length c1, .slice a2 L.length c2] w (Holds w) := by
  have HROW : Hid (∀ (i : Nat), i < L.length → ∃ g1 g2 f, a1 = some ⟨g1, 0, none⟩ ∧ a2 = some ⟨g2, 0, none⟩ ∧ ∀ w', Chg [] w w' → (Instr.loadAt 32 (.pointer (some ⟨g1, i * 32, none⟩))).run Tryd.prog w' = .ok (.agg (hashC f)) w' ∧ (Instr.loadAt 32 (.pointer (some ⟨g2, i * 32, none⟩))).run Tryd.prog w' = .ok (.agg (hashC f)) w') := Lib.hid (fun i hi => by
    obtain ⟨g1, e1⟩ := ownsRow_head h1 (by omega)
    obtain ⟨g2, e2⟩ := ownsRow_head h2 (by omega)
    obtain ⟨f, hf⟩ : ∃ f, L[i]? = some f := ⟨_, List.getElem?_eq_getElem hi⟩
    exact ⟨g1, g2, f, e1, e2, fun w' C => ⟨load_of_list (ownsRow_chg h1 C (by simp)) e1 hf, load_of_list (ownsRow_chg h2 C (by simp)) e2 hf⟩⟩)
  clear h1 h2
  generalize L.length = n at *
  go_enter Tryd.func24, Tryd.ntmps24
  go_wp2_with fail
  go_loopw [5] (fun v wr => ∃ i : Nat, v = .int .i64 (i : Int) ∧ i ≤ n ∧ Hid (Chg [] w wr)) (fun v _ => n - (intOf v).toNat)
  case atStart => exact ⟨0, rfl, Nat.zero_le _, Lib.hid (Chg.refl _ _)⟩
  case round =>
    obtain ⟨i, rfl, hi, HC⟩ := hrel
    by_cases hlt : i < n
    · have e1 : (i : Int) < n := Int.ofNat_lt.2 hlt
      have e0 : (0 : Int) ≤ i := Int.natCast_nonneg _
      obtain ⟨g1, g2, f, rfl, rfl, hld⟩ := HROW.out i hlt
      have HLD := Lib.hid hld
      have HQ : Hid (∀ w', (binOp .neq 32 (.agg (hashC f)) (.agg (hashC f))).run Tryd.prog w' = .ok (.bool false) w') := Lib.hid (fun w' => by
        have := run_neq_hash f f w'
        rw [self_same] at this
        exact this)
      clear hld
      go_upto_region 6 with (fail)
      refine wp_region_held_drew (S := fun w' => Chg [] wr w') (by kernel_rfl) (Chg.drewN _ wr 1) (fun H0 => ?_)
      refine' wpAnyH_take (i := 0) (v := _) rfl (by kernel_rfl) (by kernel_rfl) (by kernel_rfl) (fun _ _ _ h => h) (Or.inl ⟨by rfl, ?hya0⟩) H0 ?resta0
      case hya0 =>
        intro w' hSw
        have s1 := hSw
        go_simp
        try with_reducible rfl
      (try simp only [Act.put, List.getElem_toArray, List.getElem_cons_zero, List.setIfInBounds_toArray, List.set_cons_zero, List.set_cons_succ])
      refine' wpAnyH_take (i := 1) (v := _) rfl (by kernel_rfl) (by kernel_rfl) (by kernel_rfl) (fun _ _ _ h => h) (Or.inl ⟨by rfl, ?hya1⟩) H0 ?resta1
      case hya1 =>
        intro w' hSw
        have s1 := hSw
        go_simp
        try with_reducible rfl
      (try simp only [Act.put, List.getElem_toArray, List.getElem_cons_succ, List.getElem_cons_zero, List.setIfInBounds_toArray, List.set_cons_zero, List.set_cons_succ])
      refine' wpAnyH_take (i := 2) (v := _) rfl (by kernel_rfl) (by kernel_rfl) (by kernel_rfl) (fun _ _ _ h => h) (Or.inl ⟨by rfl, ?hya2⟩) H0 ?resta2
      case hya2 =>
        intro w' hSw
        have s1 := hSw
        go_simp
        try with_reducible rfl
      (try simp only [Act.put, List.getElem_toArray, List.getElem_cons_succ, List.getElem_cons_zero, List.setIfInBounds_toArray, List.set_cons_zero, List.set_cons_succ])
      refine' wpAnyH_take (i := 3) (v := .agg (hashC f)) rfl (by kernel_rfl) (by kernel_rfl) (by kernel_rfl) (fun _ _ _ h => h) (Or.inl ⟨by rfl, ?hya3⟩) H0 ?resta3
      case hya3 =>
        intro w' hSw
        have s1 := hSw
        have hl := HLD.out w' (HC.out.trans s1 (by simp))
        simp [execOp, Act.eval, hl.1, Result.andThen]
      (try simp only [Act.put, List.getElem_toArray, List.getElem_cons_succ, List.getElem_cons_zero, List.setIfInBounds_toArray, List.set_cons_zero, List.set_cons_succ])
      refine' wpAnyH_take (i := 4) (v := _) rfl (by kernel_rfl) (by kernel_rfl) (by kernel_rfl) (fun _ _ _ h => h) (Or.inl ⟨by rfl, ?hya4⟩) H0 ?resta4
      case hya4 =>
        intro w' hSw
        have s1 := hSw
        go_simp
        try with_reducible rfl
      (try simp only [Act.put, List.getElem_toArray, List.getElem_cons_succ, List.getElem_cons_zero, List.setIfInBounds_toArray, List.set_cons_zero, List.set_cons_succ])
      refine' wpAnyH_take (i := 5) (v := _) rfl (by kernel_rfl) (by kernel_rfl) (by kernel_rfl) (fun _ _ _ h => h) (Or.inl ⟨by rfl, ?hya5⟩) H0 ?resta5
      case hya5 =>
        intro w' hSw
        have s1 := hSw
        go_simp
        try with_reducible rfl
      (try simp only [Act.put, List.getElem_toArray, List.getElem_cons_succ, List.getElem_cons_zero, List.setIfInBounds_toArray, List.set_cons_zero, List.set_cons_succ])
      refine' wpAnyH_take (i := 6) (v := _) rfl (by kernel_rfl) (by kernel_rfl) (by kernel_rfl) (fun _ _ _ h => h) (Or.inl ⟨by rfl, ?hya6⟩) H0 ?resta6
      case hya6 =>
        intro w' hSw
        have s1 := hSw
        go_simp
        try with_reducible rfl
      (try simp only [Act.put, List.getElem_toArray, List.getElem_cons_succ, List.getElem_cons_zero, List.setIfInBounds_toArray, List.set_cons_zero, List.set_cons_succ])
      refine' wpAnyH_take (i := 7) (v := .agg (hashC f)) rfl (by kernel_rfl) (by kernel_rfl) (by kernel_rfl) (fun _ _ _ h => h) (Or.inl ⟨by rfl, ?hya7⟩) H0 ?resta7
      case hya7 =>
        intro w' hSw
        have s1 := hSw
        have hl := HLD.out w' (HC.out.trans s1 (by simp))
        simp [execOp, Act.eval, hl.2, Result.andThen]
      (try simp only [Act.put, List.getElem_toArray, List.getElem_cons_succ, List.getElem_cons_zero, List.setIfInBounds_toArray, List.set_cons_zero, List.set_cons_succ])
      refine' wpAnyH_take (i := 8) (v := .bool false) rfl (by kernel_rfl) (by kernel_rfl) (by kernel_rfl) (fun _ _ _ h => h) (Or.inl ⟨by rfl, ?hya8⟩) H0 ?resta8
      case hya8 =>
        intro w' hSw
        have s1 := hSw
        have hqq := HQ.out w'
        simp [execOp, Act.eval, hash_guardn, hqq, Result.andThen]
      (try simp only [Act.put, List.getElem_toArray, List.getElem_cons_succ, List.getElem_cons_zero, List.setIfInBounds_toArray, List.set_cons_zero, List.set_cons_succ])
      refine wpAnyH_done (by kernel_rfl) ?_ _
      have HC6 := Lib.hid (HC.out.trans H0 (by simp))
      clear H0
      go_wp2_with fail
      go_roundw
      case rel => exact ⟨i + 1, by go_num, hlt, HC6⟩
      case measure => simp [intOf] <;> omega
    · have e1 : ¬ (i : Int) < n := fun h => hlt (Int.ofNat_lt.1 h)
      go_wp2_with fail
      go_ret
      exact ⟨rfl, HC.out⟩
end Go.Proofs.YtfdhpjflkimihaaDoor
