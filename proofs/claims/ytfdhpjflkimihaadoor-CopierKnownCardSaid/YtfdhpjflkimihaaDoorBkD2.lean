/- The law's data: the bytes of an act. No conditions beyond those that each statement types. -/
import Derived.Test.YtfdhpjflkimihaaDoorBkLx
namespace Go.Proofs.YtfdhpjflkimihaaDoor
open Go.RowKit

/-- An act: is it gone, its name, its text, its length. -/
structure ActV where
  gone : Bool
  name : ByteArray
  text : ByteArray
  long : Int
def ActV.cells (a : ActV) : Array Value := #[.bool a.gone, .string a.name, .string a.text, .int .i64 a.long]
def ActV.byte (a : ActV) (i : Nat) : UInt8 := if a.text.size = 0 then 0 else a.text.data.toList.getD (i % a.text.size) 0
def ActV.many (a : ActV) : Nat := min a.long.toNat 5000
def ActV.upto (a : ActV) (n : Nat) : List UInt8 := (List.range n).map a.byte
def ActV.data (a : ActV) : List UInt8 := a.upto a.many
theorem ActV.upto_succ (a : ActV) (n : Nat) : a.upto (n + 1) = a.upto n ++ [a.byte n] := by
  unfold ActV.upto
  rw [List.range_succ, List.map_append]
  rfl
theorem ActV.upto_length (a : ActV) (n : Nat) : (a.upto n).length = n := by simp [ActV.upto]
def DataOf (w : World) (xs : List UInt8) (e : Ending) (w' : World) : Prop :=
  ∃ ao c, e = .returned (.slice ao xs.length c) ∧ w'.ownsRow 0 5 1 (.slice ao xs.length c) xs.length (bvs xs) ∧ (∀ k, (Value.slice ao xs.length c).ownBlock = some k → w.heap.size ≤ k) ∧ Chg [] w w'
theorem src_one_b (w : World) (x : UInt8) : Src (w.alloc (.cells #[.int .u8 (x.toNat : Int)] 5)) (some ⟨w.heap.size, 0, none⟩) (bvs [x]) := src_row w #[.int .u8 (x.toNat : Int)] 5 (0, 0)
theorem many_lt {L : Int} {k : Nat} (h : (k : Int) < L) (h2 : k < 5000) : k < min L.toNat 5000 := by omega
theorem many_ge {L : Int} {k : Nat} (h : ¬ ((k : Int) < L) ∨ ¬ k < 5000) (hk : k ≤ min L.toNat 5000) : k = min L.toNat 5000 := by omega
theorem meas5000 {k : Nat} (h : k < 5000) : 5000 - (intOf (.int .i64 ((k : Int) + 1))).toNat < 5000 - (intOf (.int .i64 (k : Int))).toNat := by
  show 5000 - ((k : Int) + 1).toNat < 5000 - (k : Int).toNat
  omega
theorem wrap_mod {k n : Nat} (h : k < 5000) : IntKind.i64.wrap ((k : Int).tmod (n : Int)) = ((k % n : Nat) : Int) := by
  have h1 : (k : Int).tmod (n : Int) = ((k % n : Nat) : Int) := rfl
  have h2 : k % n ≤ k := Nat.mod_le _ _
  rw [h1, IntKind.wrap_i64]
  generalize k % n = m at *
  omega
theorem index_of {tx : ByteArray} {j : Nat} {x : UInt8} (h : tx.data.toList[j]? = some x) (w : World) : (Instr.index 9 (.string tx) (.int .i64 (j : Int))).run Tryd.prog w = .ok (.int .u8 (x.toNat : Int)) w := by
  have hj := (List.getElem?_eq_some_iff.1 h).1
  have hs : j < tx.size := hj
  rw [run_index_string (P := Tryd.prog) _ _ _ _ _ Tryd.underlying9, dif_pos ⟨Int.natCast_nonneg _, Int.ofNat_lt.2 hs⟩]
  have h2 : (tx[((j : Nat) : Int).toNat]'hs) = x := by
    have h3 := (List.getElem?_eq_some_iff.1 h).2
    rw [← h3]
    rfl
  rw [h2]
theorem app5000 {k : Nat} (h : k < 5000) : k + 1 ≤ maxLen ∧ (k + 1) * 1 ≤ 140737488355328 := by unfold maxLen; omega
set_option maxRecDepth 100000 in
set_option maxHeartbeats 4000000 in
theorem law_data (a : ActV) (w : World) (ht : a.text.size ≤ 9223372036854775807) : Calls Tryd.prog 30 #[.agg a.cells] w (DataOf w a.data) := by
  obtain ⟨gone, nm, tx, L⟩ := a
  have C0 := Chg.alloc [] w (.cells #[.bool gone, .string nm, .string tx, .int .i64 L] 50)
  have hx0 := heap_alloc_new w (.cells #[.bool gone, .string nm, .string tx, .int .i64 L] 50)
  have HB : Hid (∀ i, ActV.byte ⟨gone, nm, tx, L⟩ i = if tx.size = 0 then 0 else tx.data.toList.getD (i % tx.size) 0) := Lib.hid (fun _ => rfl)
  have HU := Lib.hid (ActV.upto_succ ⟨gone, nm, tx, L⟩)
  have HLN := Lib.hid (ActV.upto_length ⟨gone, nm, tx, L⟩)
  have HD : Hid (ActV.data ⟨gone, nm, tx, L⟩ = ActV.upto ⟨gone, nm, tx, L⟩ (min L.toNat 5000)) := Lib.hid rfl
  obtain ⟨up, hup⟩ : ∃ up, ActV.upto ⟨gone, nm, tx, L⟩ = up := ⟨_, rfl⟩
  obtain ⟨by_, hby⟩ : ∃ by_, ActV.byte ⟨gone, nm, tx, L⟩ = by_ := ⟨_, rfl⟩
  obtain ⟨dt, hdt⟩ : ∃ dt, ActV.data ⟨gone, nm, tx, L⟩ = dt := ⟨_, rfl⟩
  rw [hup] at HU HLN HD
  rw [hby] at HB HU
  rw [hdt] at HD ⊢
  have hu0 : up 0 = [] := by rw [← hup]; rfl
  have HU0 := Lib.hid hu0
  clear hup hby hdt hu0
  obtain ⟨i0, hi, hz0, hz1, hz2⟩ := info_parts Tryd.infoU8'
  show Calls Tryd.prog _ #[.agg #[.bool gone, .string nm, .string tx, .int .i64 L]] w _
  go_enter Tryd.func30, Tryd.ntmps30
  go_upto_region 3 with (fail)
  obtain ⟨q, hq⟩ : ∃ q, w.heap.size = q := ⟨_, rfl⟩
  rw [hq] at hx0
  try rw [hq]
  generalize w.alloc (.cells #[.bool gone, .string nm, .string tx, .int .i64 L] 50) = w0 at *
  have HX0 := Lib.hid hx0
  have HC0 := Lib.hid C0
  clear C0 hx0 hq
  go_loopw [3, 4] (fun v3 v4 wr => ∃ (k c' : Nat) (ao' : Option Addr), v3 = .slice ao' k c' ∧ v4 = .int .i64 (k : Int) ∧ k ≤ min L.toNat 5000 ∧ Hid (wr.ownsRow 0 5 1 (.slice ao' k c') k (bvs (up k))) ∧ Hid (∀ b, (Value.slice ao' k c').ownBlock = some b → w0.heap.size ≤ b) ∧ Hid (Chg [] w0 wr)) (fun _ v _ => 5000 - (intOf v).toNat)
  case atStart => exact ⟨0, 0, none, rfl, rfl, Nat.zero_le _, Lib.hid (by rw [HU0.out]; exact World.ownsRow_nil _ _ _ _), Lib.hid (fun b hb => by cases hb), Lib.hid (Chg.refl _ _)⟩
  case round =>
    obtain ⟨k, c', ao', rfl, rfl, hk, HO, HW, HC⟩ := hrel
    have hx := (HC.out.block q (lt_of_block HX0.out) (by simp)).trans HX0.out
    have y2 : wr.cell? ⟨q, 2, none⟩ = some (.string tx) := by rw [cell_of_row _ _ _ _ _ _ hx]; rfl
    have y3 : wr.cell? ⟨q, 3, none⟩ = some (.int .i64 L) := by rw [cell_of_row _ _ _ _ _ _ hx]; rfl
    clear hx
    by_cases h1 : (k : Int) < L
    · by_cases h2 : k < 5000
      · have e2 : (k : Int) < 5000 := by omega
        have HK := Lib.hid (many_lt h1 h2)
        have hab := app5000 h2
        have HAB := Lib.hid hab
        clear hk hab
        by_cases h0 : tx.size = 0
        · have z0 : ((tx.size : Int) > 0) = False := eq_false (by omega)
          have z1 : ((0 : Int) < tx.size) = False := eq_false (by omega)
          obtain ⟨x, hx⟩ : ∃ x : UInt8, x = 0 := ⟨_, rfl⟩
          have HBK : Hid (by_ k = x) := Lib.hid (by rw [HB.out, if_pos h0, hx])
          have hv : Value.int .u8 0 = .int .u8 (x.toNat : Int) := by rw [hx]; rfl
          clear hx
          go_upto_region 8 with (fail)
          try rw [hv]
          clear hv
          have CA := Chg.alloc [] wr (.cells #[.int .u8 (x.toNat : Int)] 5)
          have hown := ownsRow_chg (ownsRow_chg HO.out (Chg.refl [] wr) (by simp)) CA (by simp)
          have hsrc := src_one_b wr x
          go_wp2_with (at_builtin; (refine wpList_append_y (.tmp 28) (.tmp 30) 25 rfl rfl 5 i0 _ 1 1 Tryd.underlying25 hi hz0 hz1 hz2 rfl (by decide) (.slice ao' k c') k (bvs (up k)) hown (some ⟨wr.heap.size, 0, none⟩) 1 1 (bvs [x]) rfl hsrc (fun h => by cases h) (bvs_one _) HAB.out.1 HAB.out.2 rfl rfl ?_))
          intro ao2 c2 w2 hown2 hgr hblk
          have CG := Chg.grown hgr (S := (Value.slice ao' k c').ownBlock.toList) (fun x hx => .inl (by simp [hx]))
          have HC2 : Hid (Chg [] w0 w2) := Lib.hid (((HC.out.trans (Chg.refl [] wr) (by simp)).trans CA (by simp)).trans CG (fun y hy => .inr (HW.out y (by simpa using hy))))
          have HSZ := Lib.hid (HC.out.trans (Chg.refl [] wr) (by simp)).size
          have HW2 : Hid (∀ b, (Value.slice ao2 (k + 1) c2).ownBlock = some b → w0.heap.size ≤ b) := Lib.hid (fun b hb => by
            rcases hblk with h | h <;> rw [h] at hb
            · exact HW.out b hb
            · rw [← Option.some.inj hb]
              exact Nat.le_trans HSZ.out (Nat.le_succ _))
          have HO2 : Hid (w2.ownsRow 0 5 1 (.slice ao2 (k + 1) c2) (k + 1) (bvs (up (k + 1)))) := Lib.hid (by
            rw [HU.out k, HBK.out, bvs_append]
            exact hown2)
          clear hown2 hgr hblk hown hsrc CG CA hi hz0 hz1 hz2 HAB
          go_wp2_with fail
          go_roundw
          case rel => exact ⟨k + 1, c2, ao2, rfl, by go_num, HK.out, HO2, HW2, HC2⟩
          case measure => exact meas5000 h2
        · have z0 : (tx.size : Int) > 0 := by omega
          have z2 : ¬ (tx.size : Int) = 0 := by omega
          obtain ⟨x, hx⟩ : ∃ x, tx.data.toList[k % tx.size]? = some x := ⟨_, List.getElem?_eq_getElem (by have h := Nat.mod_lt k (Nat.pos_of_ne_zero h0); exact h)⟩
          have HBK : Hid (by_ k = x) := Lib.hid (by rw [HB.out, if_neg h0, List.getD, hx]; rfl)
          have HIX : Hid (∀ w', (Instr.index 9 (.string tx) (.int .i64 ((k % tx.size : Nat) : Int))).run Tryd.prog w' = .ok (.int .u8 (x.toNat : Int)) w') := Lib.hid (fun w' => index_of hx w')
          have HZ : Hid (¬ tx.size = 0) := Lib.hid h0
          have HWR : Hid (IntKind.i64.wrap ((k : Int).tmod (tx.size : Int)) = ((k % tx.size : Nat) : Int)) := Lib.hid (wrap_mod h2)
          clear hx
          go_upto_region 7 with (fail)
          refine wp_region_held_drew (S := fun w' => w'.cell? ⟨q, 2, none⟩ = some (.string tx) ∧ Chg [] wr w') (by kernel_rfl) (⟨y2, Chg.drewN _ wr 1⟩) (fun H0 => ?_)
          refine' wpAnyH_take (i := 0) (v := _) rfl (by kernel_rfl) (by kernel_rfl) (by kernel_rfl) (fun _ _ _ h => h) (Or.inl ⟨by rfl, ?hya0⟩) H0 ?resta0
          case hya0 =>
            intro w' hSw
            obtain ⟨s1, s2⟩ := hSw
            go_simp
            try with_reducible rfl
          (try simp only [Act.put, List.getElem_toArray, List.getElem_cons_zero, List.setIfInBounds_toArray, List.set_cons_zero, List.set_cons_succ])
          refine' wpAnyH_take (i := 1) (v := _) rfl (by kernel_rfl) (by kernel_rfl) (by kernel_rfl) (fun _ _ _ h => h) (Or.inl ⟨by rfl, ?hya1⟩) H0 ?resta1
          case hya1 =>
            intro w' hSw
            obtain ⟨s1, s2⟩ := hSw
            go_simp
            try with_reducible rfl
          (try simp only [Act.put, List.getElem_toArray, List.getElem_cons_succ, List.getElem_cons_zero, List.setIfInBounds_toArray, List.set_cons_zero, List.set_cons_succ])
          refine' wpAnyH_take (i := 2) (v := _) rfl (by kernel_rfl) (by kernel_rfl) (by kernel_rfl) (fun _ _ _ h => h) (Or.inl ⟨by rfl, ?hya2⟩) H0 ?resta2
          case hya2 =>
            intro w' hSw
            obtain ⟨s1, s2⟩ := hSw
            go_simp
            try with_reducible rfl
          (try simp only [Act.put, List.getElem_toArray, List.getElem_cons_succ, List.getElem_cons_zero, List.setIfInBounds_toArray, List.set_cons_zero, List.set_cons_succ])
          refine' wpAnyH_take (i := 3) (v := _) rfl (by kernel_rfl) (by kernel_rfl) (by kernel_rfl) (fun _ _ _ h => h) (Or.inl ⟨by rfl, ?hya3⟩) H0 ?resta3
          case hya3 =>
            intro w' hSw
            obtain ⟨s1, s2⟩ := hSw
            go_simp
            try with_reducible rfl
          (try simp only [Act.put, List.getElem_toArray, List.getElem_cons_succ, List.getElem_cons_zero, List.setIfInBounds_toArray, List.set_cons_zero, List.set_cons_succ])
          refine' wpAnyH_take (i := 4) (v := _) rfl (by kernel_rfl) (by kernel_rfl) (by kernel_rfl) (fun _ _ _ h => h) (Or.inl ⟨by rfl, ?hya4⟩) H0 ?resta4
          case hya4 =>
            intro w' hSw
            obtain ⟨s1, s2⟩ := hSw
            go_simp
            try with_reducible rfl
          (try simp only [Act.put, List.getElem_toArray, List.getElem_cons_succ, List.getElem_cons_zero, List.setIfInBounds_toArray, List.set_cons_zero, List.set_cons_succ])
          refine' wpAnyH_take (i := 5) (v := _) rfl (by kernel_rfl) (by kernel_rfl) (by kernel_rfl) (fun _ _ _ h => h) (Or.inl ⟨by rfl, ?hya5⟩) H0 ?resta5
          case hya5 =>
            intro w' hSw
            obtain ⟨s1, s2⟩ := hSw
            go_simp
            try with_reducible rfl
          (try simp only [Act.put, List.getElem_toArray, List.getElem_cons_succ, List.getElem_cons_zero, List.setIfInBounds_toArray, List.set_cons_zero, List.set_cons_succ])
          refine' wpAnyH_take (i := 6) (v := .int .i64 ((k % tx.size : Nat) : Int)) rfl (by kernel_rfl) (by kernel_rfl) (by kernel_rfl) (fun _ _ _ h => h) (Or.inl ⟨by rfl, ?hya6⟩) H0 ?resta6
          case hya6 =>
            intro w' hSw
            obtain ⟨s1, s2⟩ := hSw
            go_simp
            rfl
          (try simp only [Act.put, List.getElem_toArray, List.getElem_cons_succ, List.getElem_cons_zero, List.setIfInBounds_toArray, List.set_cons_zero, List.set_cons_succ])
          refine' wpAnyH_take (i := 7) (v := .int .u8 (x.toNat : Int)) rfl (by kernel_rfl) (by kernel_rfl) (by kernel_rfl) (fun _ _ _ h => h) (Or.inl ⟨by rfl, ?hya7⟩) H0 ?resta7
          case hya7 =>
            intro w' hSw
            obtain ⟨s1, s2⟩ := hSw
            have hl := HIX.out w'
            rw [Int.natCast_emod] at hl
            simp [execOp, Act.eval, hl, Result.andThen]
          (try simp only [Act.put, List.getElem_toArray, List.getElem_cons_succ, List.getElem_cons_zero, List.setIfInBounds_toArray, List.set_cons_zero, List.set_cons_succ])
          refine' wpAnyH_take (i := 8) (v := _) rfl (by kernel_rfl) (by kernel_rfl) (by kernel_rfl) (fun _ _ _ h => h) (Or.inl ⟨by rfl, ?hya8⟩) H0 ?resta8
          case hya8 =>
            intro w' hSw
            obtain ⟨s1, s2⟩ := hSw
            go_simp
            try with_reducible rfl
          (try simp only [Act.put, List.getElem_toArray, List.getElem_cons_succ, List.getElem_cons_zero, List.setIfInBounds_toArray, List.set_cons_zero, List.set_cons_succ])
          refine wpAnyH_done (by kernel_rfl) ?_ _
          go_upto_region 8 with (fail)
          have CA := Chg.alloc [] wr.drew (.cells #[.int .u8 (x.toNat : Int)] 5)
          have hown := ownsRow_chg (ownsRow_chg HO.out H0.2 (by simp)) CA (by simp)
          have hsrc := src_one_b wr.drew x
          go_wp2_with (at_builtin; (refine wpList_append_y (.tmp 28) (.tmp 30) 25 rfl rfl 5 i0 _ 1 1 Tryd.underlying25 hi hz0 hz1 hz2 rfl (by decide) (.slice ao' k c') k (bvs (up k)) hown (some ⟨wr.drew.heap.size, 0, none⟩) 1 1 (bvs [x]) rfl hsrc (fun h => by cases h) (bvs_one _) HAB.out.1 HAB.out.2 rfl rfl ?_))
          intro ao2 c2 w2 hown2 hgr hblk
          have CG := Chg.grown hgr (S := (Value.slice ao' k c').ownBlock.toList) (fun x hx => .inl (by simp [hx]))
          have HC2 : Hid (Chg [] w0 w2) := Lib.hid (((HC.out.trans H0.2 (by simp)).trans CA (by simp)).trans CG (fun y hy => .inr (HW.out y (by simpa using hy))))
          have HSZ := Lib.hid (HC.out.trans H0.2 (by simp)).size
          have HW2 : Hid (∀ b, (Value.slice ao2 (k + 1) c2).ownBlock = some b → w0.heap.size ≤ b) := Lib.hid (fun b hb => by
            rcases hblk with h | h <;> rw [h] at hb
            · exact HW.out b hb
            · rw [← Option.some.inj hb]
              exact Nat.le_trans HSZ.out (Nat.le_succ _))
          have HO2 : Hid (w2.ownsRow 0 5 1 (.slice ao2 (k + 1) c2) (k + 1) (bvs (up (k + 1)))) := Lib.hid (by
            rw [HU.out k, HBK.out, bvs_append]
            exact hown2)
          clear hown2 hgr hblk hown hsrc CG CA hi hz0 hz1 hz2 HAB
          go_wp2_with fail
          go_roundw
          case rel => exact ⟨k + 1, c2, ao2, rfl, by go_num, HK.out, HO2, HW2, HC2⟩
          case measure => exact meas5000 h2
      · have e2 : ¬ (k : Int) < 5000 := by omega
        have HX : ¬ ((k : Int) < L) ∨ ¬ k < 5000 := .inr h2
        have HE : Hid (k = min L.toNat 5000) := Lib.hid (many_ge HX hk)
        clear hk
        go_wp2_with fail
        go_ret
        have hdl : dt.length = k := by rw [HD.out, HLN.out, ← HE.out]
        have h1 := HO.out
        rw [HE.out, ← HD.out, ← HE.out] at h1
        refine ⟨ao', c', by rw [hdl]; rfl, by rw [hdl]; exact h1, fun x hx => ?_, HC0.out.trans HC.out (by simp)⟩
        rw [hdl] at hx
        exact Nat.le_trans HC0.out.size (HW.out x hx)
    · have HX : ¬ ((k : Int) < L) ∨ ¬ k < 5000 := .inl h1
      have HE : Hid (k = min L.toNat 5000) := Lib.hid (many_ge HX hk)
      clear hk
      go_wp2_with fail
      go_ret
      have hdl : dt.length = k := by rw [HD.out, HLN.out, ← HE.out]
      have h1 := HO.out
      rw [HE.out, ← HD.out, ← HE.out] at h1
      refine ⟨ao', c', by rw [hdl]; rfl, by rw [hdl]; exact h1, fun x hx => ?_, HC0.out.trans HC.out (by simp)⟩
      rw [hdl] at hx
      exact Nat.le_trans HC0.out.size (HW.out x hx)
end Go.Proofs.YtfdhpjflkimihaaDoor
