/- The reference's Blocks. No conditions beyond those that each statement types. -/
import Derived.Test.YtfdhpjflkimihaaDoorBkZa
import Derived.Test.YtfdhpjflkimihaaDoorBkLb
namespace Go.Proofs.YtfdhpjflkimihaaDoor
open Go.RowKit

/-- Blocks in memory: a row of slices, each of memory of its own, new behind w0. -/
def BlocksIs (w0 w : World) (ps : List (List UInt8)) (ao : Option Addr) (c : Nat) : Prop :=
  ∃ vs : List Value, w.ownsRow 0 25 1 (.slice ao ps.length c) ps.length vs ∧ (∀ (k : Nat) u p, vs[k]? = some u → ps[k]? = some p → FVal w u p ∧ ∀ x, u.ownBlock = some x → w0.heap.size ≤ x) ∧ ∀ x, (Value.slice ao ps.length c).ownBlock = some x → w0.heap.size ≤ x
theorem BlocksIs.chg {w0 w w' : World} {ps : List (List UInt8)} {ao : Option Addr} {c : Nat} (h : BlocksIs w0 w ps ao c) {S : List Nat} (C : Chg S w w') (hS : ∀ x ∈ S, x < w0.heap.size) : BlocksIs w0 w' ps ao c := by
  obtain ⟨vs, h1, h2, h3⟩ := h
  refine ⟨vs, ownsRow_chg h1 C (fun x hx hm => by have := h3 x hx; have := hS x hm; omega), fun k u p hu hp => ?_, h3⟩
  obtain ⟨a, b⟩ := h2 k u p hu hp
  exact ⟨a.chg C (fun x hx hm => by have := b x hx; have := hS x hm; omega), b⟩
theorem infoSlU : (Tryd.prog.info? 25).map (fun i => (i.zero, i.size, i.bytes)) = some (some (.slice none 0 0), 1, 24) := by kernel_rfl
theorem wrap64_nat {n : Nat} (h : n < 4611686018427387904) : wrap64 (n : Int) = (n : Int) := by unfold wrap64; omega
theorem ends_of {X B n a E : Nat} (h : X = min B (n - a)) (hE : a + B = E) (ha : a < n) : (E < n → X = E - a) ∧ (n ≤ E → X = n - a) ∧ X ≤ B := by
  refine ⟨fun h1 => ?_, fun h1 => ?_, ?_⟩ <;> omega
theorem app_bounds {m : Nat} (h : m ≤ 100000) : 0 + m ≤ maxLen ∧ (0 + m) * 1 ≤ 140737488355328 := by unfold maxLen; omega
theorem app_bounds1 {k N : Nat} (h : k < N) (hN : N ≤ 32) : k + 1 ≤ maxLen ∧ (k + 1) * 24 ≤ 140737488355328 := by unfold maxLen; omega
theorem mm_of {X B n a : Nat} (h : X = min B (n - a)) (ha : a < n) : (min ((a : Int) + (B : Int)) (n : Int)).toNat - a = X := by omega
theorem mm_le {B n a c : Nat} (ha : a < n) (hc : n ≤ c) : (a : Int) ≤ min ((a : Int) + (B : Int)) (n : Int) ∧ min ((a : Int) + (B : Int)) (n : Int) ≤ (c : Int) := by omega
theorem parts_take {l : List UInt8} {k : Nat} (h : k < cntN l.length) : (partsL l).take (k + 1) = (partsL l).take k ++ [partL l k] := by
  rw [List.take_add_one, partsL_get h]
  rfl
set_option maxRecDepth 100000 in
set_option maxHeartbeats 8000000 in
theorem ref_blocks (l : List UInt8) (ao : Option Addr) (c : Nat) (w : World) (hs : Src w ao (bvs l)) (hlc : l.length ≤ c) (hlm : l.length ≤ 9223372036854775807) :
    Calls Tryd.prog 57 #[.slice ao l.length c] w fun e w' => ∃ ao' c', e = .returned (.slice ao' (partsL l).length c') ∧ BlocksIs w w' (partsL l) ao' c' ∧ Chg [] w w' := by
  have K := Lib.hid (ref_size l.length w)
  rw [show bszZ l.length = bszN l.length by unfold bszZ; rw [if_neg (by omega)]; rfl] at K
  have HPL := Lib.hid (partsL_length l)
  by_cases hbig : 4096 < l.length
  · rw [bszN_big hbig] at K
    have hp : partsL l = [] := by rw [← List.length_eq_zero_iff, partsL_length, cntN_big hbig]
    rw [hp]
    clear hp hs hlc HPL
    generalize l.length = n at *
    go_enter Tryd.func57, Tryd.ntmps57
    go_wp2_with fail
    refine K.out.mono ?_
    rintro e w1 ⟨rfl, C1⟩
    go_wp2_with fail
    go_loopw [4, 5] (fun v4 v5 wr => v4 = .slice none 0 0 ∧ v5 = .int .i64 0 ∧ wr = w1) (fun _ _ _ => 0)
    case atStart => exact ⟨rfl, rfl, rfl⟩
    case round =>
      obtain ⟨rfl, rfl, rfl⟩ := hrel
      go_wp2_with fail
      go_ret
      exact ⟨none, 0, rfl, ⟨[], World.ownsRow_nil _ _ _ _, fun k u p hu => by simp at hu, fun x hx => by cases hx⟩, C1⟩
  · have hl4 : l.length ≤ 4096 := by omega
    have hbp := bszN_pos hl4
    have hbl := bszN_le l.length
    have hcl := cntN_le l.length
    have HLT := Lib.hid (fun k => cntN_lt hl4 k)
    have HPT := Lib.hid (fun k => partL_length l k)
    have HSRC := Lib.hid (fun k a w' (C : Chg [] w w') (ha : ao = some a) => part_src (by rw [← ha]; exact hs.chg C (by simp)) k)
    have HTK := Lib.hid (fun k (hk : k < cntN l.length) => parts_take hk)
    have HGET := Lib.hid (fun k (hk : k < cntN l.length) => partsL_get hk)
    have HAO : Hid (0 < l.length → ∃ a, ao = some a) := Lib.hid (fun h => by
      obtain ⟨a, ha, _⟩ := hs.lt (by rw [bvs_length]; exact h)
      exact ⟨a, ha⟩)
    obtain ⟨i0, hi, hz0, hz1, hz2⟩ := info_parts Tryd.infoU8'
    obtain ⟨ip, hip, hp0, hp1, hp2⟩ := info_parts infoSlU
    clear hs hlm hbig
    obtain ⟨B, hB⟩ : ∃ B, bszN l.length = B := ⟨_, rfl⟩
    obtain ⟨N, hN⟩ : ∃ N, cntN l.length = N := ⟨_, rfl⟩
    obtain ⟨n, hn⟩ : ∃ n, l.length = n := ⟨_, rfl⟩
    rw [hB] at K hbp hbl HLT HPT HSRC
    rw [hN] at hcl HLT HTK HGET HPL
    rw [hn] at K hl4 HLT HPT hlc HAO hbp ⊢
    clear hB hN hn
    have hB0 : (0 : Int) < B := by omega
    go_enter Tryd.func57, Tryd.ntmps57
    go_wp2_with fail
    refine K.out.mono ?_
    rintro e w1 ⟨rfl, C1⟩
    have HC1 := Lib.hid C1
    clear C1
    go_wp2_with fail
    go_loopw [4, 5] (fun v4 v5 wr => ∃ (k at' c' : Nat) (ao' : Option Addr), v4 = .slice ao' k c' ∧ v5 = .int .i64 (at' : Int) ∧ at' = k * B ∧ k ≤ N ∧ Hid (k = ((partsL l).take k).length) ∧ Hid (BlocksIs w wr ((partsL l).take k) ao' c') ∧ Hid (Chg [] w wr)) (fun v4 _ _ => N - match v4 with | .slice _ k _ => k | _ => 0)
    case atStart => exact ⟨0, 0, 0, none, rfl, rfl, by simp, Nat.zero_le _, Lib.hid rfl, Lib.hid ⟨[], World.ownsRow_nil _ _ _ _, fun k u p hu => by simp at hu, fun x hx => by cases hx⟩, HC1⟩
    case round =>
      obtain ⟨k, at', c', ao', rfl, rfl, hat, hk, HKL, HB, HC⟩ := hrel
      by_cases hlt : k < N
      · have h1 := (HLT.out k).1 hlt
        rw [← hat] at h1
        have e1 : (at' : Int) < n := by omega
        have HAT := Lib.hid hat
        obtain ⟨a, rfl⟩ := HAO.out (by omega)
        have hpl := HPT.out k
        rw [← hat] at hpl
        have hsr := fun w' (C : Chg [] w w') => HSRC.out k a w' C rfl
        rw [← hat] at hsr
        have HSR := Lib.hid hsr
        have HT := Lib.hid (HTK.out k hlt)
        have HG := Lib.hid (HGET.out k hlt)
        obtain ⟨X, hXe⟩ : ∃ X, (partL l k).length = X := ⟨_, rfl⟩
        rw [hXe] at hpl
        have HX := Lib.hid hXe
        have hx0 : X ≤ 128 := by rw [hpl]; exact Nat.le_trans (Nat.min_le_left _ _) hbl
        have hMM := mm_of hpl h1
        have hm0 : X ≤ 100000 := Nat.le_trans hx0 (by decide)
        have ha1 : (at' : Int) ≤ min ((at' : Int) + (B : Int)) (n : Int) := (mm_le h1 hlc).1
        have ha2 : min ((at' : Int) + (B : Int)) (n : Int) ≤ (c : Int) := (mm_le h1 hlc).2
        have HAB : Hid (0 + ((min ((at' : Int) + (B : Int)) (n : Int)).toNat - at') ≤ maxLen ∧ (0 + ((min ((at' : Int) + (B : Int)) (n : Int)).toNat - at')) * 1 ≤ 140737488355328) := Lib.hid (app_bounds (by rw [hMM]; exact hm0))
        have HML : Hid ((bvs (partL l k)).length = ((min ((at' : Int) + (B : Int)) (n : Int)).toNat - at') * 1) := Lib.hid (by rw [bvs_length, HX.out, hMM, Nat.mul_one])
        clear hpl hat hx0 hMM
        go_wp2_with (at_builtin; (first
          | (refine wpList_append_y (.tmp 21) (.tmp 30) 25 rfl rfl 5 i0 _ 1 1 Tryd.underlying25 hi hz0 hz1 hz2 rfl (by decide) (.slice none 0 0) 0 [] (World.ownsRow_nil _ _ _ _) (some (a.add at')) ((min ((at' : Int) + (B : Int)) (n : Int)).toNat - at') (c - at') (bvs (partL l k)) HML.out (HSR.out _ HC.out) (fun h => by cases h) (bvs_one _) HAB.out.1 HAB.out.2 rfl rfl ?_)))
        intro ao3 c3 w3 hown3 hgr3 hblk3
        try simp only [Nat.zero_add, List.nil_append] at hown3
        try simp only [Nat.zero_add] at hblk3
        try simp only [Nat.zero_add]
        have C3 : Chg [] wr w3 := Chg.grown hgr3 (fun x hx => by cases hx)
        have hM : ((min ((at' : Int) + (B : Int)) (n : Int)).toNat - at') = (partL l k).length := by have := HML.out; rw [bvs_length, Nat.mul_one] at this; exact this.symm
        rw [hM] at hown3 hblk3 ⊢
        have HF3 : Hid (FVal w3 (.slice ao3 (partL l k).length c3) (partL l k)) := Lib.hid ⟨ao3, c3, rfl, hown3⟩
        have HN3 : Hid (∀ x, (Value.slice ao3 (partL l k).length c3).ownBlock = some x → w.heap.size ≤ x ∧ x < w3.heap.size ∧ wr.heap.size ≤ x) := Lib.hid (fun x hx => by
          have hl3 := ownsRow_lt hown3 x hx
          have hwr := HC.out.size
          rcases hblk3 with h | h <;> rw [h] at hx
          · cases hx
          · have := Option.some.inj hx
            exact ⟨by omega, hl3, by omega⟩)
        obtain ⟨vs, hv1, hv2, hv3⟩ := HB.out
        rw [← HKL.out] at hv1
        have CA := Chg.alloc [] w3 (.cells #[.slice ao3 (partL l k).length c3] 25)
        have hownA := ownsRow_chg hv1 (C3.trans CA (by simp)) (by simp)
        have hsrcA := src_row w3 #[.slice ao3 (partL l k).length c3] 25 (0, 0)
        have HV2 := Lib.hid hv2
        have HV3 := Lib.hid hv3
        have HC3 := Lib.hid C3
        have HCA := Lib.hid CA
        rw [← HKL.out] at hv3
        have HV3' := Lib.hid hv3
        clear hown3 hgr3 hblk3 C3 hM hv1 hv2 hv3 CA HB
        obtain ⟨Pn, hPn⟩ : ∃ Pn, (partL l k).length = Pn := ⟨_, rfl⟩
        rw [hPn] at HF3 HN3 hownA hsrcA HCA ⊢
        clear hPn
        go_wp2_with (at_builtin; (refine wpList_append_y (.tmp 32) (.tmp 34) 106 rfl rfl 25 ip _ 1 24 Tryd.underlying106 hip hp0 hp1 hp2 rfl (by decide) (.slice ao' k c') k vs hownA (some ⟨w3.heap.size, 0, none⟩) 1 1 [.slice ao3 Pn c3] rfl hsrcA (fun h => by cases h) (by simp [Value.oneCell']) (app_bounds1 hlt hcl).1 (app_bounds1 hlt hcl).2 rfl rfl ?_))
        intro ao5 c5 w5 hown5 hgr5 hblk5
        have CG := Chg.grown hgr5 (S := (Value.slice ao' k c').ownBlock.toList) (fun x hx => .inl (by simp [hx]))
        have C5 : Chg (Value.slice ao' k c').ownBlock.toList w3 w5 := (HCA.out.mono (by simp)).trans CG (fun x hx => .inl hx)
        have HC5 : Hid (Chg [] w w5) := Lib.hid ((HC.out.trans HC3.out (by simp)).trans C5 (fun x hx => .inr (HV3'.out x (by simpa using hx))))
        have hty : ∀ (u : Value) (q : List UInt8), FVal w3 u q → FVal w5 u q := fun u q h => h.chg C5 (fun x hx hm => by
          obtain ⟨cur, hc⟩ := h.block hx
          have h2 := ownsRow_ne (ownsRow_chg hownA (Chg.refl [] _) (by simp)) (b := x) (cs := cur) (t := 5) (fr := (0, 0)) ((HCA.out.block x (lt_of_block hc) (by simp)).trans hc) (by decide)
          exact h2 (by simpa using hm))
        have HB5 : Hid (BlocksIs w w5 ((partsL l).take (k + 1)) ao5 c5) := Lib.hid (by
          have hl1 : ((partsL l).take (k + 1)).length = k + 1 := by rw [HT.out, List.length_append, ← HKL.out]; rfl
          refine ⟨vs ++ [.slice ao3 Pn c3], by rw [hl1]; exact hown5, fun j u q hu hq => ?_, fun x hx => ?_⟩
          · have hlv : vs.length = k := by have := hownA.1; omega
            rw [HT.out] at hq
            rcases Nat.lt_or_ge j k with h | h
            · rw [List.getElem?_append_left (by omega)] at hu
              rw [List.getElem?_append_left (by rw [← HKL.out]; exact h)] at hq
              obtain ⟨h1, h2⟩ := HV2.out j u q hu hq
              exact ⟨hty u q (h1.chg HC3.out (by simp)), h2⟩
            · rw [List.getElem?_append_right (by omega)] at hu
              rw [List.getElem?_append_right (by rw [← HKL.out]; exact h), ← HKL.out] at hq
              rw [hlv] at hu
              have h0 : j - k = 0 := by have := (List.getElem?_eq_some_iff.1 hu).1; simp at this; omega
              rw [h0] at hu hq
              cases hu
              cases hq
              exact ⟨hty _ _ HF3.out, fun x hx => (HN3.out x hx).1⟩
          · rw [hl1] at hx
            rcases hblk5 with h | h <;> rw [h] at hx
            · exact HV3'.out x hx
            · rw [← Option.some.inj hx]
              exact Nat.le_trans (HC.out.trans HC3.out (by simp)).size (Nat.le_succ _))
        have HKL5 : Hid (k + 1 = ((partsL l).take (k + 1)).length) := Lib.hid (by rw [HT.out, List.length_append, ← HKL.out]; rfl)
        clear hown5 hgr5 hblk5 hty C5 CG hownA hsrcA hi hz0 hz1 hz2 hip hp0 hp1 hp2
        go_wp2_with fail
        go_roundw
        case rel => exact ⟨k + 1, at' + B, c5, ao5, rfl, by rw [Int.natCast_add], by rw [HAT.out, Nat.add_mul, Nat.one_mul], hlt, HKL5, HB5, HC5⟩
        case measure =>
          show N - (k + 1) < N - k
          exact Nat.sub_lt_sub_left hlt (Nat.lt_succ_self k)
      · have h1 := mt (HLT.out k).2 hlt
        rw [← hat] at h1
        have e1 : ¬ (at' : Int) < n := by omega
        have hkN : k = N := by omega
        have HE : Hid (∃ ao2 c2, (Value.slice ao' k c') = .slice ao2 (partsL l).length c2 ∧ BlocksIs w wr (partsL l) ao2 c2 ∧ Chg [] w wr) := Lib.hid (by
          have hall : (partsL l).take k = partsL l := List.take_of_length_le (by rw [HPL.out]; omega)
          have := HB.out
          rw [hall] at this
          have hk2 := HKL.out
          rw [hall] at hk2
          exact ⟨ao', c', by rw [← hk2], this, HC.out⟩)
        clear hkN
        go_wp2_with fail
        go_ret
        obtain ⟨ao2, c2, h1, h2, h3⟩ := HE.out
        exact ⟨ao2, c2, by rw [← h1]; rfl, h2, h3⟩
end Go.Proofs.YtfdhpjflkimihaaDoor
