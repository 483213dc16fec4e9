/- What the law GlobKnown does: true, and it leaves what was there. No conditions beyond those that each statement types. -/
import Derived.Test.YtnbeamggbehclaaGlobShelf
import Derived.Test.YtnbeamggbehclaaGlobO
import Derived.Test.YtnbeamggbehclaaRowKit
namespace Go.Proofs.Ytnbeamggbehclaa
open Go.RowKit

theorem chg_of_below {w w' : World} (h : Below w.heap.size w w') : Chg [] w w' := ⟨h.os, h.tape, h.output, h.size, fun k hk _ => h.block k hk⟩
theorem repeatL_one (c : UInt8) : ∀ n, Lib.repeatL [c] n = List.replicate n c
  | 0 => rfl
  | n + 1 => by
    show [c] ++ Lib.repeatL [c] n = _
    rw [repeatL_one c n]
    rfl
def many (c : UInt8) (n : Nat) : ByteArray := ⟨(List.replicate n c).toArray⟩
theorem repeat_one (c : UInt8) (n : Nat) (hn : n ≤ 1000) (w : World) : Calls Try.prog 22 #[.string ⟨#[c]⟩, .int .i64 n] w fun e w' => e = .returned (.string (many c n)) ∧ Chg [] w w' := by
  have h1 : (⟨#[c]⟩ : ByteArray).size = 1 := rfl
  refine (Try.strings_Repeat ⟨#[c]⟩ n w (by omega) (by rw [h1]; omega)).mono ?_
  rintro e w' ⟨rfl, h⟩
  have h2 : Lib.repeatL (⟨#[c]⟩ : ByteArray).data.toList n = List.replicate n c := repeatL_one c n
  exact ⟨by rw [h2]; rfl, chg_of_below h⟩

def yesL : List ByteArray := [⟨#[97, 42, 99]⟩, ⟨#[97, 99]⟩, ⟨#[97, 42, 99]⟩, ⟨#[97, 98, 99]⟩, ⟨#[47, 97, 42, 99]⟩, ⟨#[97, 98, 99]⟩, ⟨#[47, 97, 42, 99]⟩, ⟨#[97, 98, 99, 47, 121]⟩, ⟨#[40, 63, 105, 41, 88, 63]⟩, ⟨#[120, 121]⟩, ⟨#[40, 63, 105, 41, 88, 63]⟩, ⟨#[88, 89]⟩, ⟨#[40, 63, 105, 41, 88, 63]⟩, ⟨#[122, 47, 120, 121]⟩, ⟨#[91, 33, 97, 45, 99, 93, 120]⟩, ⟨#[100, 120]⟩, ⟨#[97, 91, 98, 45, 93, 92, 42]⟩, ⟨#[97, 45, 42]⟩, ⟨#[97, 91, 98, 45, 93, 92, 42]⟩, ⟨#[97, 98, 42]⟩, ⟨#[91, 97, 45, 99, 93]⟩, ⟨#[98]⟩, ⟨#[40, 63, 105, 41, 91, 97, 45, 99, 93]⟩, ⟨#[66]⟩, ⟨#[42, 42]⟩, many 97 160]
def noL : List ByteArray := [⟨#[97, 42, 99]⟩, ⟨#[97, 98, 99, 100]⟩, ⟨#[40, 63, 105, 41, 88, 63]⟩, ⟨#[120, 47, 121]⟩, ⟨#[40, 63, 105, 41, 88, 63]⟩, ⟨#[120]⟩, ⟨#[91, 33, 97, 45, 99, 93, 120]⟩, ⟨#[97, 120]⟩, ⟨#[91, 33, 97, 45, 99, 93, 120]⟩, ⟨#[47, 120]⟩, ⟨#[97, 91, 98, 45, 93, 92, 42]⟩, ⟨#[97, 45, 98]⟩, ⟨#[42, 42]⟩, many 97 161, ⟨#[40, 63, 105, 41, 91, 33, 97, 45, 99, 93]⟩, ⟨#[66]⟩]
def badL : List ByteArray := [⟨#[]⟩, ⟨#[33]⟩, ⟨#[47]⟩, ⟨#[33, 33, 97]⟩, ⟨#[91]⟩, ⟨#[91, 93]⟩, ⟨#[91, 98, 45, 97, 93]⟩, ⟨#[92]⟩, ⟨#[92, 47]⟩, ⟨#[91, 97, 47, 93]⟩, ⟨#[40, 63, 105, 41, 40, 63, 105, 41, 97]⟩, ⟨#[40, 63, 100, 41, 33, 40, 63, 100, 41, 97]⟩, ⟨#[91, 33, 93]⟩, ⟨#[91, 97, 45, 47, 93]⟩, ⟨#[91, 92]⟩]
theorem yes_all : (List.range 26).all (fun i => i % 2 != 0 || tells (yesL.getD i ⟨#[]⟩).data.toList (yesL.getD (i + 1) ⟨#[]⟩).data.toList) = true := by decide +kernel
theorem no_all : (List.range 16).all (fun i => i % 2 != 0 || !tells (noL.getD i ⟨#[]⟩).data.toList (noL.getD (i + 1) ⟨#[]⟩).data.toList) = true := by decide +kernel
theorem bad_all : (List.range 15).all (fun i => isForm (badL.getD i ⟨#[]⟩).data.toList) = true := by decide +kernel
theorem yes_at {i : Nat} (h : i < 26) (h2 : i % 2 = 0) : tells (yesL.getD i ⟨#[]⟩).data.toList (yesL.getD (i + 1) ⟨#[]⟩).data.toList = true := by
  have := List.all_eq_true.1 yes_all i (List.mem_range.2 h)
  simpa [h2] using this
theorem no_at {i : Nat} (h : i < 16) (h2 : i % 2 = 0) : tells (noL.getD i ⟨#[]⟩).data.toList (noL.getD (i + 1) ⟨#[]⟩).data.toList = false := by
  have := List.all_eq_true.1 no_all i (List.mem_range.2 h)
  simpa [h2] using this
theorem bad_at {i : Nat} (h : i < 15) : isForm (badL.getD i ⟨#[]⟩).data.toList = true := List.all_eq_true.1 bad_all i (List.mem_range.2 h)
theorem strs_cell {w : World} {g : Nat} {L : List ByteArray} {t : TypeId} {fr : Nat × Nat} (h : w.heap[g]? = some (.cells (L.map Value.string).toArray t fr)) {i : Nat} (hi : i < L.length) : w.cell? ⟨g, i, none⟩ = some (.string (L.getD i ⟨#[]⟩)) := by
  rw [cell_of_row _ _ _ _ _ _ h]
  simp [List.getD, hi]
def knownT : ByteArray := ⟨#[40, 63, 100, 41, 33, 40, 63, 105, 41, 47, 97]⟩
theorem parse_known : parse knownT.data.toList = .pat ⟨true, true, true⟩ true [.byt 97] := by kernel_rfl
theorem parse_stars : ∃ els, parse (many 42 128).data.toList = .pat ⟨false, false, false⟩ false els := ⟨List.replicate 64 .all, by kernel_rfl⟩
theorem parse_much : parse (many 97 129).data.toList = .long := by kernel_rfl

set_option maxRecDepth 100000 in
set_option maxHeartbeats 16000000 in
theorem law_known (W : World) : Calls Try.prog 8 #[] W (Holds W) := by
  have hy : yesL.length = 26 := rfl
  have hn : noL.length = 16 := rfl
  have hb : badL.length = 15 := rfl
  have KR := Lib.hid (fun (c : UInt8) (n : Nat) (hn : n ≤ 1000) w => repeat_one c n hn w)
  go_enter Try.func8, Try.ntmps8
  go_wp2_with fail
  refine (KR.out 97 160 (by omega) _).mono ?_
  rintro e w1 ⟨rfl, C1⟩
  go_upto_region 2 with (fail)
  have hy0 := heap_alloc_new w1 (.cells (yesL.map Value.string).toArray 9)
  have CA := Chg.alloc [] w1 (.cells (yesL.map Value.string).toArray 9)
  have HY : Hid ((yesL.map Value.string).toArray = _) := Lib.hid rfl
  change Code.wp _ _ _ _ (w1.alloc (.cells (yesL.map Value.string).toArray 9))
  have C2 := C1.trans CA (by simp)
  obtain ⟨gy, hgy⟩ : ∃ g, w1.heap.size = g := ⟨_, rfl⟩
  rw [hgy] at hy0
  generalize w1.alloc (.cells (yesL.map Value.string).toArray 9) = w2 at *
  (try rw [hgy])
  clear hgy CA C1 HY
  go_wp2_with fail
  refine (KR.out 97 161 (by omega) _).mono ?_
  rintro e w3 ⟨rfl, C3⟩
  have hy3 := (C3.block _ (lt_of_block hy0) (by simp)).trans hy0
  have C4 := C2.trans C3 (by simp)
  clear C2 C3 hy0
  go_upto_region 3 with (fail)
  have hn0 := heap_alloc_new w3 (.cells (noL.map Value.string).toArray 9)
  have CA := Chg.alloc [] w3 (.cells (noL.map Value.string).toArray 9)
  change Code.wp _ _ _ _ (w3.alloc (.cells (noL.map Value.string).toArray 9))
  have HC := Lib.hid (C4.trans CA (by simp))
  have hy4 := (CA.block _ (lt_of_block hy3) (by simp)).trans hy3
  obtain ⟨gn, hgn⟩ : ∃ g, w3.heap.size = g := ⟨_, rfl⟩
  rw [hgn] at hn0
  generalize w3.alloc (.cells (noL.map Value.string).toArray 9) = w4 at *
  (try rw [hgn])
  have HYY := Lib.hid hy4
  have HNN := Lib.hid hn0
  clear hgn CA C4 hy3 hy4 hn0
  go_wp2_with fail
  go_loopw [3] (fun v wr => ∃ i : Nat, v = .int .i64 i ∧ i % 2 = 0 ∧ i ≤ 26 ∧ Hid (Chg [] w4 wr)) (fun v _ => 26 - (intOf v).toNat)
  case atStart => exact ⟨0, rfl, rfl, Nat.zero_le _, Lib.hid (Chg.refl _ _)⟩
  case round =>
    obtain ⟨i, rfl, hi2, hi, hC⟩ := hrel
    skip
    by_cases hlt : i < 26
    · have e0 : (i : Int) < 26 := by omega
      have e1 : (0 : Int) ≤ i := by omega
      have e2 : (i : Int) + 1 < 26 := by omega
      have e3 : i + 1 < 26 := by omega
      have e4 : ((i : Int) + 1).toNat = i + 1 := by omega
      have e5 : (0 : Int) ≤ (i : Int) + 1 := by omega
      have e6 : IntKind.i64.wrap ((i : Int) + 1) = (i : Int) + 1 := by rw [IntKind.wrap_i64]; omega
      have HH := (hC.out.block _ (lt_of_block HYY.out) (by simp)).trans HYY.out
      have y0 := strs_cell HH (i := i) (by rw [hy]; exact hlt)
      have y1 := strs_cell HH (i := i + 1) (by rw [hy]; exact e3)
      have ht := yes_at hlt hi2
      obtain ⟨x, hx⟩ : ∃ x, yesL.getD i ⟨#[]⟩ = x := ⟨_, rfl⟩
      obtain ⟨y, hy⟩ : ∃ y, yesL.getD (i + 1) ⟨#[]⟩ = y := ⟨_, rfl⟩
      rw [hx] at y0 ht
      rw [hy] at y1 ht
      have K := Lib.hid (glob_of x y wr.drew)
      rw [ht] at K
      have HP : Hid (i % 2 = 0) := Lib.hid hi2
      clear HH ht hx hy hi2
      go_upto_region 6 with (fail)
      go_still_tail 9, (by kernel_rfl)
      change wpList _ _ _ _ _ wr.drew
      go_wp2_with fail
      refine K.out.mono ?_
      rintro e wz ⟨rfl, Cz⟩
      have HZ := Lib.hid ((hC.out.trans (Chg.drewN [] wr 1) (by simp)).trans Cz (by simp))
      clear Cz
      go_wp2_with fail
      go_roundw
      case rel => exact ⟨i + 2, by go_num, by have := HP.out; omega, by have := HP.out; omega, HZ⟩
      case measure => simp [intOf] <;> omega
    · have e0 : ¬ (i : Int) < 26 := by omega
      have hin : i = 26 := by omega
      clear hlt hi2
      have hC1 := hC
      clear hC hin
      go_wp2_with fail
      go_loopw [4] (fun v wr => ∃ i : Nat, v = .int .i64 i ∧ i % 2 = 0 ∧ i ≤ 16 ∧ Hid (Chg [] w4 wr)) (fun v _ => 16 - (intOf v).toNat)
      case atStart => exact ⟨0, rfl, rfl, Nat.zero_le _, hC1⟩
      case round =>
        obtain ⟨i, rfl, hi2, hi, hC⟩ := hrel
        clear hC1
        by_cases hlt : i < 16
        · have e0 : (i : Int) < 16 := by omega
          have e1 : (0 : Int) ≤ i := by omega
          have e2 : (i : Int) + 1 < 16 := by omega
          have e3 : i + 1 < 16 := by omega
          have e4 : ((i : Int) + 1).toNat = i + 1 := by omega
          have e5 : (0 : Int) ≤ (i : Int) + 1 := by omega
          have e6 : IntKind.i64.wrap ((i : Int) + 1) = (i : Int) + 1 := by rw [IntKind.wrap_i64]; omega
          have HH := (hC.out.block _ (lt_of_block HNN.out) (by simp)).trans HNN.out
          have y0 := strs_cell HH (i := i) (by rw [hn]; exact hlt)
          have y1 := strs_cell HH (i := i + 1) (by rw [hn]; exact e3)
          have ht := no_at hlt hi2
          obtain ⟨x, hx⟩ : ∃ x, noL.getD i ⟨#[]⟩ = x := ⟨_, rfl⟩
          obtain ⟨y, hy⟩ : ∃ y, noL.getD (i + 1) ⟨#[]⟩ = y := ⟨_, rfl⟩
          rw [hx] at y0 ht
          rw [hy] at y1 ht
          have K := Lib.hid (glob_of x y wr.drew)
          rw [ht] at K
          have HP : Hid (i % 2 = 0) := Lib.hid hi2
          clear HH ht hx hy hi2
          go_upto_region 11 with (fail)
          go_still_tail 9, (by kernel_rfl)
          change wpList _ _ _ _ _ wr.drew
          go_wp2_with fail
          refine K.out.mono ?_
          rintro e wz ⟨rfl, Cz⟩
          have HZ := Lib.hid ((hC.out.trans (Chg.drewN [] wr 1) (by simp)).trans Cz (by simp))
          clear Cz
          go_wp2_with fail
          go_roundw
          case rel => exact ⟨i + 2, by go_num, by have := HP.out; omega, by have := HP.out; omega, HZ⟩
          case measure => simp [intOf] <;> omega
        · have e0 : ¬ (i : Int) < 16 := by omega
          have hin : i = 16 := by omega
          clear hlt hi2
          clear hin
          go_upto_region 14 with (fail)
          clear e0
          have hb0 := heap_alloc_new wr (.cells (badL.map Value.string).toArray 9)
          have CB := Chg.alloc [] wr (.cells (badL.map Value.string).toArray 9)
          change Code.wp _ _ _ _ (wr.alloc (.cells (badL.map Value.string).toArray 9))
          have HC5 := Lib.hid ((HC.out.trans hC.out (by simp)).trans CB (by simp))
          obtain ⟨gb, hgb⟩ : ∃ g, wr.heap.size = g := ⟨_, rfl⟩
          rw [hgb] at hb0
          generalize wr.alloc (.cells (badL.map Value.string).toArray 9) = w5 at *
          (try rw [hgb])
          have HBB := Lib.hid hb0
          clear hgb CB hb0
          go_wp2_with fail
          go_loopw [6] (fun v wr => ∃ i : Nat, v = .int .i64 i ∧ i ≤ 15 ∧ Hid (Chg [] w5 wr)) (fun v _ => 15 - (intOf v).toNat)
          case atStart => exact ⟨0, rfl, Nat.zero_le _, Lib.hid (Chg.refl _ _)⟩
          case round =>
            obtain ⟨i, rfl, hi, hC⟩ := hrel
            by_cases hlt : i < 15
            · have e0 : (i : Int) < 15 := by omega
              have e1 : (0 : Int) ≤ i := by omega
              have HH := (hC.out.block _ (lt_of_block HBB.out) (by simp)).trans HBB.out
              have y0 := strs_cell HH (i := i) (by rw [hb]; exact hlt)
              have ht := bad_at hlt
              obtain ⟨x, hx⟩ : ∃ x, badL.getD i ⟨#[]⟩ = x := ⟨_, rfl⟩
              rw [hx] at y0 ht
              have K := Lib.hid (glob_form x wr)
              rw [ht] at K
              clear HH ht hx
              go_wp2_with fail
              refine K.out.mono ?_
              rintro e wz ⟨rfl, Cz⟩
              have HZ := Lib.hid (hC.out.trans Cz (by simp))
              clear Cz
              go_wp2_with fail
              go_roundw
              case rel => exact ⟨i + 1, by go_num, by omega, HZ⟩
              case measure => simp [intOf] <;> omega
            · have e0 : ¬ (i : Int) < 15 := by omega
              have HCa := Lib.hid (HC5.out.trans hC.out (by simp))
              clear hlt
              obtain ⟨els, hels⟩ := parse_stars
              have KP1 := Lib.hid (fun w => glob_parse knownT w)
              rw [parse_known] at KP1
              have KP2 := Lib.hid (fun w => glob_parse (many 97 129) w)
              rw [parse_much] at KP2
              have KP3 := Lib.hid (fun w => glob_parse (many 42 128) w)
              rw [hels] at KP3
              have hTT : knownT.toList = [40, 63, 100, 41, 33, 40, 63, 105, 41, 47, 97] := by rw [toList_data]; rfl
              have hEE : ByteArray.empty.toList = [] := by rw [toList_data]; rfl
              clear hels
              go_wp2_with fail
              refine (KP1.out _).mono ?_
              rintro e wA ⟨CA, b, rfl, hP⟩
              have HP := Lib.hid hP
              have HCA := Lib.hid (HCa.out.trans CA (by simp))
              clear CA hP
              go_wp2_with fail
              refine (KR.out 97 129 (by omega) _).mono ?_
              rintro e wB ⟨rfl, CB⟩
              go_wp2_with fail
              refine (KP2.out _).mono ?_
              rintro e wC ⟨CC, rfl⟩
              have CBC := Lib.hid (CB.trans CC (by simp))
              clear CB CC
              go_wp2_with fail
              refine (KR.out 42 128 (by omega) _).mono ?_
              rintro e wD ⟨rfl, CD⟩
              go_wp2_with fail
              refine (KP3.out _).mono ?_
              rintro e wE ⟨CE, b2, rfl, _⟩
              have CBE := Lib.hid ((CBC.out.trans CD (by simp)).trans CE (by simp))
              clear CD CE
              have hz := heap_alloc_new wE (.cells #[.string ⟨#[]⟩, .bool false, .bool false, .bool false, .bool false, .slice none 0 0] 43)
              have CZ := Chg.alloc [] wE (.cells #[.string ⟨#[]⟩, .bool false, .bool false, .bool false, .bool false, .slice none 0 0] 43)
              go_wp2_with fail
              generalize wE.alloc (.cells #[.string ⟨#[]⟩, .bool false, .bool false, .bool false, .bool false, .slice none 0 0] 43) = wF at *
              obtain ⟨gz, hgz⟩ : ∃ g, wE.heap.size = g := ⟨_, rfl⟩
              rw [hgz] at hz
              (try rw [hgz])
              have HCF := Lib.hid ((HCA.out.trans CBE.out (by simp)).trans CZ (by simp))
              have HPF := Lib.hid ((HP.out.chg CBE.out).chg CZ)
              have HZF := Lib.hid hz
              clear hz CZ hgz
              refine (glob_awake _).mono ?_
              rintro e wG ⟨rfl, CG⟩
              have HCG := Lib.hid (HCF.out.trans CG (by simp))
              have HPG := Lib.hid (HPF.out.chg CG)
              have HZG := Lib.hid ((CG.block _ (lt_of_block HZF.out) (by simp)).trans HZF.out)
              clear CG HCF HPF HZF
              go_wp2_with fail
              refine (pat_Negated HPG.out).mono ?_
              rintro e wG ⟨rfl, rfl⟩
              go_wp2_with fail
              refine (pat_Deletable HPG.out).mono ?_
              rintro e wG ⟨rfl, rfl⟩
              go_wp2_with fail
              refine (pat_Folded HPG.out).mono ?_
              rintro e wG ⟨rfl, rfl⟩
              go_wp2_with fail
              refine (pat_Rooted HPG.out).mono ?_
              rintro e wG ⟨rfl, rfl⟩
              go_wp2_with fail
              refine (pat_Text HPG.out).mono ?_
              rintro e wG ⟨rfl, rfl⟩
              have KM := Lib.hid (glob_match b knownT ⟨#[65]⟩ ⟨true, true, true⟩ true [.byt 97] wG HPG.out (by decide) (by simp))
              rw [show matchP (Mk.fold ⟨true, true, true⟩) true [.byt 97] (ByteArray.mk #[65]).data.toList = true by kernel_rfl] at KM
              go_wp2_with fail
              refine KM.out.mono ?_
              rintro e wH ⟨rfl, CH⟩
              have HCH := Lib.hid (HCG.out.trans CH (by simp))
              have HZH : Hid (PatAt wH gz ⟨⟨#[]⟩, false, false, false, false, .slice none 0 0⟩) := Lib.hid ((CH.block _ (lt_of_block HZG.out) (by simp)).trans HZG.out)
              clear CH KM HZG HPG HCG
              go_wp2_with fail
              refine (glob_match_nil _ _).mono ?_
              rintro e wG ⟨rfl, rfl⟩
              go_wp2_with fail
              refine (glob_match_zero gz _ _ _ _ _ _ _ HZH.out).mono ?_
              rintro e wG ⟨rfl, rfl⟩
              go_wp2_with fail
              refine (glob_Negated_nil _).mono ?_
              rintro e wG ⟨rfl, rfl⟩
              go_wp2_with fail
              refine (glob_Deletable_nil _).mono ?_
              rintro e wG ⟨rfl, rfl⟩
              go_wp2_with fail
              refine (glob_Folded_nil _).mono ?_
              rintro e wG ⟨rfl, rfl⟩
              go_wp2_with fail
              refine (glob_Rooted_nil _).mono ?_
              rintro e wG ⟨rfl, rfl⟩
              go_wp2_with fail
              refine (glob_Text_nil _).mono ?_
              rintro e wG ⟨rfl, rfl⟩
              go_wp2_with fail
              refine (glob_Text gz _ _ HZH.out).mono ?_
              rintro e wG ⟨rfl, rfl⟩
              go_wp2_with fail
              go_ret
              exact ⟨rfl, HCH.out⟩
end Go.Proofs.Ytnbeamggbehclaa
