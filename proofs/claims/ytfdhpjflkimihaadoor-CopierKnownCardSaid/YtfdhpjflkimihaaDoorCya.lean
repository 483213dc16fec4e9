/- A record of the copier: what counts of it, in plain words and in memory. No conditions beyond those that each statement types. -/
import Derived.Test.YtfdhpjflkimihaaDoorBkFk
import Derived.Test.YtfdhpjflkimihaaDoorBkKa
namespace Go.Proofs.YtfdhpjflkimihaaDoor
open Go
theorem tkH {P : Program} {md : Region.Mode} {ops : Array Oper} {Q : Exit → Act → World → Prop} {S : World → Prop} {i : Nat} {oi : Oper} {v : Value} {fuel : Nat} {listed : Array Bool} {a : Act} {w : World} (hi : ops[i]? = some oi)
    (hy : YieldsIf P ops S oi v a) (hS : S w) (h : wpAnyH P md ops Q S fuel (listed.setIfInBounds i true) (a.put oi.dst v) w)
    (hs : Region.noSelect ops = true := by kernel_rfl) (hf : Region.free md ops listed i = true := by kernel_rfl) (hr : (Region.ready md ops listed).contains i = true := by kernel_rfl)
    (hQ : ∀ c a w, Q (.panic c) (a.put oi.dst v) w → Q (.panic c) a w := by exact fun _ _ _ h => h) : wpAnyH P md ops Q S (fuel + 1) listed a w := wpAnyH_take hi hs hf hr hQ hy hS h
end Go.Proofs.YtfdhpjflkimihaaDoor
namespace Go.Proofs.YtfdhpjflkimihaaDoor
open Go.RowKit

/-- What the copier looks at of a record. -/
structure RecV where
  del : Bool
  kind : Int
  size : Int
  bs : Int
  L : List (Nat → UInt8)
def RecV.want (r : RecV) : Int := if r.del = true ∨ r.kind ≠ 1 then 11 else if 0 ≤ r.size ∧ r.size ≤ 4096 ∧ r.bs = bszZ r.size ∧ (r.L.length : Int) = cntZ r.size then 0 else 4
def RecV.len (r : RecV) (i : Int) : Int := if r.want ≠ 0 ∨ i < 0 ∨ (r.L.length : Int) ≤ i then 0 else min r.bs (r.size - i * r.bs)
/-- It lies in these cells. -/
structure RecIs (w : World) (RC : Array Value) (r : RecV) (ao : Option Addr) (c : Nat) : Prop where
  size : RC.size = 27
  kind : RC[1]? = some (.int .i64 r.kind)
  del : RC[2]? = some (.bool r.del)
  long : RC[3]? = some (.int .i64 r.size)
  bs : RC[22]? = some (.int .i64 r.bs)
  bl : RC[23]? = some (.slice ao r.L.length c)
  src : Src w ao (hvs r.L)
  cap : r.L.length ≤ c
  nil : ao = none → c = 0
theorem RecIs.chg {w w' : World} {RC : Array Value} {r : RecV} {ao : Option Addr} {c : Nat} {T : List Nat} (h : RecIs w RC r ao c) (C : Chg T w w') (hT : ∀ a, ao = some a → a.block ∉ T) : RecIs w' RC r ao c :=
  ⟨h.size, h.kind, h.del, h.long, h.bs, h.bl, h.src.chg C hT, h.cap, h.nil⟩
theorem RecIs.chg0 {w w' : World} {RC : Array Value} {r : RecV} {ao : Option Addr} {c : Nat} (h : RecIs w RC r ao c) (C : Chg [] w w') : RecIs w' RC r ao c := h.chg C (by simp)
/-- A record that is wanted. -/
structure RecV.Good (r : RecV) (N : Nat) : Prop where
  file : r.del = false
  kind : r.kind = 1
  size : r.size = (N : Int)
  le : N ≤ 4096
  bs : r.bs = (bszN N : Int)
  len : r.L.length = cntN N
theorem RecV.good_of {r : RecV} (h : r.want = 0) : ∃ N, r.Good N := by
  unfold RecV.want at h
  split at h
  · cases h
  · rename_i h1
    split at h
    · rename_i h2
      obtain ⟨a, b, c, d⟩ := h2
      have hd : r.del = false := by
        cases hx : r.del with
        | true => exact absurd (Or.inl hx) h1
        | false => rfl
      have hk : r.kind = 1 := Decidable.byContradiction (fun hx => h1 (.inr hx))
      refine ⟨r.size.toNat, hd, hk, by omega, by omega, ?_, ?_⟩
      · rw [c]; unfold bszZ; rw [if_neg (by omega)]
      · have : cntZ r.size = cntN r.size.toNat := by unfold cntZ; rw [if_neg (by omega)]
        omega
    · cases h
theorem RecV.Good.want {r : RecV} {N : Nat} (h : r.Good N) : r.want = 0 := by
  unfold RecV.want
  rw [if_neg (by rw [h.file, h.kind]; simp), if_pos]
  have h1 := h.size
  have h2 := h.le
  refine ⟨by omega, by omega, ?_, ?_⟩
  · rw [h.bs, h1]; unfold bszZ; rw [if_neg (by omega)]; rfl
  · rw [h.len, h1]; unfold cntZ; rw [if_neg (by omega)]; rfl
/-- How long a block of it is. -/
theorem RecV.Good.lenP {r : RecV} {N : Nat} (h : r.Good N) {i : Nat} (hi : i < cntN N) : r.len i = (min (bszN N) (N - i * bszN N) : Nat) := by
  unfold RecV.len
  rw [if_neg (by rw [h.want, h.len]; omega), h.bs, h.size]
  have hlt := (cntN_lt h.le i).1 hi
  omega
/-- A digest of a row that lies anywhere, read. -/
theorem load_blk {w : World} {a : Addr} {L : List (Nat → UInt8)} (hs : Src w (some a) (hvs L)) {i : Nat} {f : Nat → UInt8} (hf : L[i]? = some f) :
    (Instr.loadAt 32 (.pointer (some (a.add (i * 32))))).run Tryd.prog w = .ok (.agg (hashC f)) w := by
  have h := src_flat (w := w) (a := a) (cells := fun f : Nat → UInt8 => (hashC f).toList) (size := 32) (l := L) (fun f => by rw [Array.length_toList]; exact hashC_size f) (hs.cell a rfl) hf
  have := run_loadAt_any (P := Tryd.prog) (a.add (i * 32)) 32 (hashC f).toList _ h Tryd.underlying32 rfl (by rw [Array.length_toList, hashC_size]; exact infoHash)
  rwa [Array.toArray_toList] at this
theorem infoRec : (Tryd.prog.info? 77).map (·.size) = some 27 := by kernel_rfl
theorem run_loadAt_rec (w : World) (g : Nat) (C : Array Value) (fr : Nat × Nat) (h : w.heap[g]? = some (.cells C 77 fr)) (hs : C.size = 27) : (Instr.loadAt 77 (.pointer (some ⟨g, 0, none⟩))).run Tryd.prog w = .ok (.agg C) w := by
  simp only [Instr.loadAt, Instr.sureAddr, Sem.run_bind, Sem.run_pure, Result.andThen]
  exact run_loadVar_row w g _ _ C fr _ h Tryd.underlying77 rfl (by rw [hs]; exact infoRec)
end Go.Proofs.YtfdhpjflkimihaaDoor
/- The copier's wanted, walked. No conditions beyond those that each statement types. -/
namespace Go.Proofs.YtfdhpjflkimihaaDoor
open Go.RowKit

set_option maxRecDepth 100000 in
set_option maxHeartbeats 4000000 in
theorem cp_wanted (RC : Array Value) (r : RecV) (ao : Option Addr) (c : Nat) (w : World) (H : RecIs w RC r ao c) : Calls Tryd.prog 79 #[.agg RC] w fun e w' => e = .returned (.int .i64 r.want) ∧ Chg [] w w' := by
  have hx0 := heap_alloc_new w (.cells RC 77)
  have C0 := Chg.alloc [] w (.cells RC 77)
  obtain ⟨K, hK⟩ : ∃ K, r.kind = K := ⟨_, rfl⟩
  obtain ⟨D, hD⟩ : ∃ D, r.del = D := ⟨_, rfl⟩
  obtain ⟨Z, hZ⟩ : ∃ Z, r.size = Z := ⟨_, rfl⟩
  obtain ⟨B, hB⟩ : ∃ B, r.bs = B := ⟨_, rfl⟩
  obtain ⟨n, hn⟩ : ∃ n, r.L.length = n := ⟨_, rfl⟩
  have HR1 : Hid (RC[1]? = some (.int .i64 K)) := Lib.hid (by rw [← hK]; exact H.kind)
  have HR2 : Hid (RC[2]? = some (.bool D)) := Lib.hid (by rw [← hD]; exact H.del)
  have HR3 : Hid (RC[3]? = some (.int .i64 Z)) := Lib.hid (by rw [← hZ]; exact H.long)
  have HR22 : Hid (RC[22]? = some (.int .i64 B)) := Lib.hid (by rw [← hB]; exact H.bs)
  have HR23 : Hid (RC[23]? = some (.slice ao n c)) := Lib.hid (by rw [← hn]; exact H.bl)
  have HRS := Lib.hid H.size
  have hw : r.want = if D = true ∨ K ≠ 1 then 11 else if 0 ≤ Z ∧ Z ≤ 4096 ∧ B = bszZ Z ∧ (n : Int) = cntZ Z then 0 else 4 := by
    unfold RecV.want
    rw [hD, hK, hZ, hB, hn]
  generalize r.want = W at *
  clear hK hD hZ hB hn H
  go_enter Tryd.func79, Tryd.ntmps79
  go_upto_region 1 with (fail)
  obtain ⟨q, hq⟩ : ∃ q, w.heap.size = q := ⟨_, rfl⟩
  rw [hq] at hx0 ⊢
  generalize w.alloc (.cells RC 77) = w1 at *
  have hcell : w1.cell? ⟨q, 1, none⟩ = some (.int .i64 K) ∧ w1.cell? ⟨q, 2, none⟩ = some (.bool D) ∧ w1.cell? ⟨q, 3, none⟩ = some (.int .i64 Z) ∧ w1.cell? ⟨q, 22, none⟩ = some (.int .i64 B) ∧ w1.cell? ⟨q, 23, none⟩ = some (.slice ao n c) := by
    refine ⟨?_, ?_, ?_, ?_, ?_⟩ <;> rw [cell_of_row _ _ _ _ _ _ hx0]
    · exact HR1.out
    · exact HR2.out
    · exact HR3.out
    · exact HR22.out
    · exact HR23.out
  obtain ⟨c1, c2, c3, c22, c23⟩ := hcell
  clear hq
  by_cases hd : D = true
  · have HW : Hid (W = 11) := Lib.hid (by rw [hw, if_pos (.inl hd)])
    subst hd
    clear hw
    go_wp2_with fail
    go_ret
    exact ⟨by rw [HW.out]; rfl, C0⟩
  · have hd : D = false := by simpa using hd
    subst hd
    by_cases hk : K = 1
    · have hw2 : W = if 0 ≤ Z ∧ Z ≤ 4096 ∧ B = bszZ Z ∧ (n : Int) = cntZ Z then 0 else 4 := by rw [hw, if_neg (by rintro (h | h); cases h; exact h hk)]
      subst hk
      have HW2 := Lib.hid hw2
      clear hw hw2
      go_upto_region 3 with (fail)
      by_cases hA : Z < 0
      · have HW : Hid (W = 4) := Lib.hid (by rw [HW2.out, if_neg (fun h => absurd h.1 (by omega))])
        clear HW2
        refine wp_region_held_drew (S := fun w' => Chg [] w1 w') (by kernel_rfl) (Chg.drewN [] w1 1) (fun H0 => ?_)
        refine' tkH (i := 0) (v := _) rfl (Or.inl ⟨by rfl, ?hya0⟩) H0 ?resta0
        case hya0 =>
          intro w' hSw
          have s1 := hSw
          go_simp
          try with_reducible rfl
        (try simp only [Act.put, List.getElem_toArray, List.getElem_cons_zero, List.setIfInBounds_toArray, List.set_cons_zero, List.set_cons_succ])
        refine' tkH (i := 1) (v := _) rfl (Or.inl ⟨by rfl, ?hya1⟩) H0 ?resta1
        case hya1 =>
          intro w' hSw
          have s1 := hSw
          have hc := (show w'.cell? ⟨q, 3, none⟩ = some (.int .i64 Z) by rw [cell_of_row _ _ _ _ _ _ ((s1.block q (lt_of_block hx0) (by simp)).trans hx0)]; exact HR3.out)
          go_simp
          try with_reducible rfl
        (try simp only [Act.put, List.getElem_toArray, List.getElem_cons_succ, List.getElem_cons_zero, List.setIfInBounds_toArray, List.set_cons_zero, List.set_cons_succ])
        refine' tkH (i := 2) (v := _) rfl (Or.inl ⟨by rfl, ?hya2⟩) H0 ?resta2
        case hya2 =>
          intro w' hSw
          have s1 := hSw
          go_simp
          try with_reducible rfl
        (try simp only [Act.put, List.getElem_toArray, List.getElem_cons_succ, List.getElem_cons_zero, List.setIfInBounds_toArray, List.set_cons_zero, List.set_cons_succ])
        refine' tkH (i := 3) (v := _) rfl (Or.inl ⟨by rfl, ?hya3⟩) H0 ?resta3
        case hya3 =>
          intro w' hSw
          have s1 := hSw
          go_simp
          try with_reducible rfl
        (try simp only [Act.put, List.getElem_toArray, List.getElem_cons_succ, List.getElem_cons_zero, List.setIfInBounds_toArray, List.set_cons_zero, List.set_cons_succ])
        refine tkH (i := 4) (v := undef) rfl (Or.inr ⟨by rfl, rfl⟩) H0 ?_
        (try simp only [Act.put, List.getElem_toArray, List.getElem_cons_succ, List.getElem_cons_zero, List.setIfInBounds_toArray, List.set_cons_zero, List.set_cons_succ])
        refine tkH (i := 5) (v := undef) rfl (Or.inr ⟨by rfl, rfl⟩) H0 ?_
        (try simp only [Act.put, List.getElem_toArray, List.getElem_cons_succ, List.getElem_cons_zero, List.setIfInBounds_toArray, List.set_cons_zero, List.set_cons_succ])
        refine tkH (i := 6) (v := undef) rfl (Or.inr ⟨by rfl, rfl⟩) H0 ?_
        (try simp only [Act.put, List.getElem_toArray, List.getElem_cons_succ, List.getElem_cons_zero, List.setIfInBounds_toArray, List.set_cons_zero, List.set_cons_succ])
        refine' tkH (i := 7) (v := _) rfl (Or.inl ⟨by rfl, ?hya7⟩) H0 ?resta7
        case hya7 =>
          intro w' hSw
          have s1 := hSw
          go_simp
          try with_reducible rfl
        (try simp only [Act.put, List.getElem_toArray, List.getElem_cons_succ, List.getElem_cons_zero, List.setIfInBounds_toArray, List.set_cons_zero, List.set_cons_succ])
        refine' tkH (i := 8) (v := _) rfl (Or.inl ⟨by rfl, ?hya8⟩) H0 ?resta8
        case hya8 =>
          intro w' hSw
          have s1 := hSw
          go_simp
          try with_reducible rfl
        (try simp only [Act.put, List.getElem_toArray, List.getElem_cons_succ, List.getElem_cons_zero, List.setIfInBounds_toArray, List.set_cons_zero, List.set_cons_succ])
        refine tkH (i := 9) (v := undef) rfl (Or.inr ⟨by rfl, rfl⟩) H0 ?_
        (try simp only [Act.put, List.getElem_toArray, List.getElem_cons_succ, List.getElem_cons_zero, List.setIfInBounds_toArray, List.set_cons_zero, List.set_cons_succ])
        refine tkH (i := 10) (v := undef) rfl (Or.inr ⟨by rfl, rfl⟩) H0 ?_
        (try simp only [Act.put, List.getElem_toArray, List.getElem_cons_succ, List.getElem_cons_zero, List.setIfInBounds_toArray, List.set_cons_zero, List.set_cons_succ])
        refine tkH (i := 11) (v := undef) rfl (Or.inr ⟨by rfl, rfl⟩) H0 ?_
        (try simp only [Act.put, List.getElem_toArray, List.getElem_cons_succ, List.getElem_cons_zero, List.setIfInBounds_toArray, List.set_cons_zero, List.set_cons_succ])
        refine tkH (i := 12) (v := undef) rfl (Or.inr ⟨by rfl, rfl⟩) H0 ?_
        (try simp only [Act.put, List.getElem_toArray, List.getElem_cons_succ, List.getElem_cons_zero, List.setIfInBounds_toArray, List.set_cons_zero, List.set_cons_succ])
        refine tkH (i := 13) (v := undef) rfl (Or.inr ⟨by rfl, rfl⟩) H0 ?_
        (try simp only [Act.put, List.getElem_toArray, List.getElem_cons_succ, List.getElem_cons_zero, List.setIfInBounds_toArray, List.set_cons_zero, List.set_cons_succ])
        refine tkH (i := 14) (v := undef) rfl (Or.inr ⟨by rfl, rfl⟩) H0 ?_
        (try simp only [Act.put, List.getElem_toArray, List.getElem_cons_succ, List.getElem_cons_zero, List.setIfInBounds_toArray, List.set_cons_zero, List.set_cons_succ])
        refine' tkH (i := 15) (v := _) rfl (Or.inl ⟨by rfl, ?hya15⟩) H0 ?resta15
        case hya15 =>
          intro w' hSw
          have s1 := hSw
          go_simp
          try with_reducible rfl
        (try simp only [Act.put, List.getElem_toArray, List.getElem_cons_succ, List.getElem_cons_zero, List.setIfInBounds_toArray, List.set_cons_zero, List.set_cons_succ])
        refine' tkH (i := 16) (v := _) rfl (Or.inl ⟨by rfl, ?hya16⟩) H0 ?resta16
        case hya16 =>
          intro w' hSw
          have s1 := hSw
          go_simp
          try with_reducible rfl
        (try simp only [Act.put, List.getElem_toArray, List.getElem_cons_succ, List.getElem_cons_zero, List.setIfInBounds_toArray, List.set_cons_zero, List.set_cons_succ])
        refine tkH (i := 17) (v := undef) rfl (Or.inr ⟨by rfl, rfl⟩) H0 ?_
        (try simp only [Act.put, List.getElem_toArray, List.getElem_cons_succ, List.getElem_cons_zero, List.setIfInBounds_toArray, List.set_cons_zero, List.set_cons_succ])
        refine tkH (i := 18) (v := undef) rfl (Or.inr ⟨by rfl, rfl⟩) H0 ?_
        (try simp only [Act.put, List.getElem_toArray, List.getElem_cons_succ, List.getElem_cons_zero, List.setIfInBounds_toArray, List.set_cons_zero, List.set_cons_succ])
        refine tkH (i := 19) (v := undef) rfl (Or.inr ⟨by rfl, rfl⟩) H0 ?_
        (try simp only [Act.put, List.getElem_toArray, List.getElem_cons_succ, List.getElem_cons_zero, List.setIfInBounds_toArray, List.set_cons_zero, List.set_cons_succ])
        refine tkH (i := 20) (v := undef) rfl (Or.inr ⟨by rfl, rfl⟩) H0 ?_
        (try simp only [Act.put, List.getElem_toArray, List.getElem_cons_succ, List.getElem_cons_zero, List.setIfInBounds_toArray, List.set_cons_zero, List.set_cons_succ])
        refine tkH (i := 21) (v := undef) rfl (Or.inr ⟨by rfl, rfl⟩) H0 ?_
        (try simp only [Act.put, List.getElem_toArray, List.getElem_cons_succ, List.getElem_cons_zero, List.setIfInBounds_toArray, List.set_cons_zero, List.set_cons_succ])
        refine tkH (i := 22) (v := undef) rfl (Or.inr ⟨by rfl, rfl⟩) H0 ?_
        (try simp only [Act.put, List.getElem_toArray, List.getElem_cons_succ, List.getElem_cons_zero, List.setIfInBounds_toArray, List.set_cons_zero, List.set_cons_succ])
        refine tkH (i := 23) (v := undef) rfl (Or.inr ⟨by rfl, rfl⟩) H0 ?_
        (try simp only [Act.put, List.getElem_toArray, List.getElem_cons_succ, List.getElem_cons_zero, List.setIfInBounds_toArray, List.set_cons_zero, List.set_cons_succ])
        refine' tkH (i := 24) (v := _) rfl (Or.inl ⟨by rfl, ?hya24⟩) H0 ?resta24
        case hya24 =>
          intro w' hSw
          have s1 := hSw
          go_simp
          try with_reducible rfl
        (try simp only [Act.put, List.getElem_toArray, List.getElem_cons_succ, List.getElem_cons_zero, List.setIfInBounds_toArray, List.set_cons_zero, List.set_cons_succ])
        refine' tkH (i := 25) (v := _) rfl (Or.inl ⟨by rfl, ?hya25⟩) H0 ?resta25
        case hya25 =>
          intro w' hSw
          have s1 := hSw
          go_simp
          try with_reducible rfl
        (try simp only [Act.put, List.getElem_toArray, List.getElem_cons_succ, List.getElem_cons_zero, List.setIfInBounds_toArray, List.set_cons_zero, List.set_cons_succ])
        refine wpAnyH_done (by kernel_rfl) ?_ _
        have HCW := Lib.hid (C0.trans H0 (by simp))
        go_wp2_with fail
        go_ret
        exact ⟨by rw [HW.out]; rfl, HCW.out⟩
      · by_cases hB : 4096 < Z
        · have HW : Hid (W = 4) := Lib.hid (by rw [HW2.out, if_neg (fun h => absurd h.2.1 (by omega))])
          clear HW2
          refine wp_region_held_drew (S := fun w' => Chg [] w1 w') (by kernel_rfl) (Chg.drewN [] w1 1) (fun H0 => ?_)
          refine' tkH (i := 0) (v := _) rfl (Or.inl ⟨by rfl, ?hyb0⟩) H0 ?restb0
          case hyb0 =>
            intro w' hSw
            have s1 := hSw
            go_simp
            try with_reducible rfl
          (try simp only [Act.put, List.getElem_toArray, List.getElem_cons_zero, List.setIfInBounds_toArray, List.set_cons_zero, List.set_cons_succ])
          refine' tkH (i := 1) (v := _) rfl (Or.inl ⟨by rfl, ?hyb1⟩) H0 ?restb1
          case hyb1 =>
            intro w' hSw
            have s1 := hSw
            have hc := (show w'.cell? ⟨q, 3, none⟩ = some (.int .i64 Z) by rw [cell_of_row _ _ _ _ _ _ ((s1.block q (lt_of_block hx0) (by simp)).trans hx0)]; exact HR3.out)
            go_simp
            try with_reducible rfl
          (try simp only [Act.put, List.getElem_toArray, List.getElem_cons_succ, List.getElem_cons_zero, List.setIfInBounds_toArray, List.set_cons_zero, List.set_cons_succ])
          refine' tkH (i := 2) (v := _) rfl (Or.inl ⟨by rfl, ?hyb2⟩) H0 ?restb2
          case hyb2 =>
            intro w' hSw
            have s1 := hSw
            go_simp
            try with_reducible rfl
          (try simp only [Act.put, List.getElem_toArray, List.getElem_cons_succ, List.getElem_cons_zero, List.setIfInBounds_toArray, List.set_cons_zero, List.set_cons_succ])
          refine' tkH (i := 3) (v := _) rfl (Or.inl ⟨by rfl, ?hyb3⟩) H0 ?restb3
          case hyb3 =>
            intro w' hSw
            have s1 := hSw
            go_simp
            try with_reducible rfl
          (try simp only [Act.put, List.getElem_toArray, List.getElem_cons_succ, List.getElem_cons_zero, List.setIfInBounds_toArray, List.set_cons_zero, List.set_cons_succ])
          refine' tkH (i := 4) (v := _) rfl (Or.inl ⟨by rfl, ?hyb4⟩) H0 ?restb4
          case hyb4 =>
            intro w' hSw
            have s1 := hSw
            go_simp
            try with_reducible rfl
          (try simp only [Act.put, List.getElem_toArray, List.getElem_cons_succ, List.getElem_cons_zero, List.setIfInBounds_toArray, List.set_cons_zero, List.set_cons_succ])
          refine' tkH (i := 5) (v := _) rfl (Or.inl ⟨by rfl, ?hyb5⟩) H0 ?restb5
          case hyb5 =>
            intro w' hSw
            have s1 := hSw
            have hc := (show w'.cell? ⟨q, 3, none⟩ = some (.int .i64 Z) by rw [cell_of_row _ _ _ _ _ _ ((s1.block q (lt_of_block hx0) (by simp)).trans hx0)]; exact HR3.out)
            go_simp
            try with_reducible rfl
          (try simp only [Act.put, List.getElem_toArray, List.getElem_cons_succ, List.getElem_cons_zero, List.setIfInBounds_toArray, List.set_cons_zero, List.set_cons_succ])
          refine' tkH (i := 6) (v := _) rfl (Or.inl ⟨by rfl, ?hyb6⟩) H0 ?restb6
          case hyb6 =>
            intro w' hSw
            have s1 := hSw
            go_simp
            try with_reducible rfl
          (try simp only [Act.put, List.getElem_toArray, List.getElem_cons_succ, List.getElem_cons_zero, List.setIfInBounds_toArray, List.set_cons_zero, List.set_cons_succ])
          refine' tkH (i := 7) (v := _) rfl (Or.inl ⟨by rfl, ?hyb7⟩) H0 ?restb7
          case hyb7 =>
            intro w' hSw
            have s1 := hSw
            go_simp
            try with_reducible rfl
          (try simp only [Act.put, List.getElem_toArray, List.getElem_cons_succ, List.getElem_cons_zero, List.setIfInBounds_toArray, List.set_cons_zero, List.set_cons_succ])
          refine' tkH (i := 8) (v := _) rfl (Or.inl ⟨by rfl, ?hyb8⟩) H0 ?restb8
          case hyb8 =>
            intro w' hSw
            have s1 := hSw
            go_simp
            try with_reducible rfl
          (try simp only [Act.put, List.getElem_toArray, List.getElem_cons_succ, List.getElem_cons_zero, List.setIfInBounds_toArray, List.set_cons_zero, List.set_cons_succ])
          refine tkH (i := 9) (v := undef) rfl (Or.inr ⟨by rfl, rfl⟩) H0 ?_
          (try simp only [Act.put, List.getElem_toArray, List.getElem_cons_succ, List.getElem_cons_zero, List.setIfInBounds_toArray, List.set_cons_zero, List.set_cons_succ])
          refine tkH (i := 10) (v := undef) rfl (Or.inr ⟨by rfl, rfl⟩) H0 ?_
          (try simp only [Act.put, List.getElem_toArray, List.getElem_cons_succ, List.getElem_cons_zero, List.setIfInBounds_toArray, List.set_cons_zero, List.set_cons_succ])
          refine tkH (i := 11) (v := undef) rfl (Or.inr ⟨by rfl, rfl⟩) H0 ?_
          (try simp only [Act.put, List.getElem_toArray, List.getElem_cons_succ, List.getElem_cons_zero, List.setIfInBounds_toArray, List.set_cons_zero, List.set_cons_succ])
          refine tkH (i := 12) (v := undef) rfl (Or.inr ⟨by rfl, rfl⟩) H0 ?_
          (try simp only [Act.put, List.getElem_toArray, List.getElem_cons_succ, List.getElem_cons_zero, List.setIfInBounds_toArray, List.set_cons_zero, List.set_cons_succ])
          refine tkH (i := 13) (v := undef) rfl (Or.inr ⟨by rfl, rfl⟩) H0 ?_
          (try simp only [Act.put, List.getElem_toArray, List.getElem_cons_succ, List.getElem_cons_zero, List.setIfInBounds_toArray, List.set_cons_zero, List.set_cons_succ])
          refine tkH (i := 14) (v := undef) rfl (Or.inr ⟨by rfl, rfl⟩) H0 ?_
          (try simp only [Act.put, List.getElem_toArray, List.getElem_cons_succ, List.getElem_cons_zero, List.setIfInBounds_toArray, List.set_cons_zero, List.set_cons_succ])
          refine' tkH (i := 15) (v := _) rfl (Or.inl ⟨by rfl, ?hyb15⟩) H0 ?restb15
          case hyb15 =>
            intro w' hSw
            have s1 := hSw
            go_simp
            try with_reducible rfl
          (try simp only [Act.put, List.getElem_toArray, List.getElem_cons_succ, List.getElem_cons_zero, List.setIfInBounds_toArray, List.set_cons_zero, List.set_cons_succ])
          refine' tkH (i := 16) (v := _) rfl (Or.inl ⟨by rfl, ?hyb16⟩) H0 ?restb16
          case hyb16 =>
            intro w' hSw
            have s1 := hSw
            go_simp
            try with_reducible rfl
          (try simp only [Act.put, List.getElem_toArray, List.getElem_cons_succ, List.getElem_cons_zero, List.setIfInBounds_toArray, List.set_cons_zero, List.set_cons_succ])
          refine tkH (i := 17) (v := undef) rfl (Or.inr ⟨by rfl, rfl⟩) H0 ?_
          (try simp only [Act.put, List.getElem_toArray, List.getElem_cons_succ, List.getElem_cons_zero, List.setIfInBounds_toArray, List.set_cons_zero, List.set_cons_succ])
          refine tkH (i := 18) (v := undef) rfl (Or.inr ⟨by rfl, rfl⟩) H0 ?_
          (try simp only [Act.put, List.getElem_toArray, List.getElem_cons_succ, List.getElem_cons_zero, List.setIfInBounds_toArray, List.set_cons_zero, List.set_cons_succ])
          refine tkH (i := 19) (v := undef) rfl (Or.inr ⟨by rfl, rfl⟩) H0 ?_
          (try simp only [Act.put, List.getElem_toArray, List.getElem_cons_succ, List.getElem_cons_zero, List.setIfInBounds_toArray, List.set_cons_zero, List.set_cons_succ])
          refine tkH (i := 20) (v := undef) rfl (Or.inr ⟨by rfl, rfl⟩) H0 ?_
          (try simp only [Act.put, List.getElem_toArray, List.getElem_cons_succ, List.getElem_cons_zero, List.setIfInBounds_toArray, List.set_cons_zero, List.set_cons_succ])
          refine tkH (i := 21) (v := undef) rfl (Or.inr ⟨by rfl, rfl⟩) H0 ?_
          (try simp only [Act.put, List.getElem_toArray, List.getElem_cons_succ, List.getElem_cons_zero, List.setIfInBounds_toArray, List.set_cons_zero, List.set_cons_succ])
          refine tkH (i := 22) (v := undef) rfl (Or.inr ⟨by rfl, rfl⟩) H0 ?_
          (try simp only [Act.put, List.getElem_toArray, List.getElem_cons_succ, List.getElem_cons_zero, List.setIfInBounds_toArray, List.set_cons_zero, List.set_cons_succ])
          refine tkH (i := 23) (v := undef) rfl (Or.inr ⟨by rfl, rfl⟩) H0 ?_
          (try simp only [Act.put, List.getElem_toArray, List.getElem_cons_succ, List.getElem_cons_zero, List.setIfInBounds_toArray, List.set_cons_zero, List.set_cons_succ])
          refine' tkH (i := 24) (v := _) rfl (Or.inl ⟨by rfl, ?hyb24⟩) H0 ?restb24
          case hyb24 =>
            intro w' hSw
            have s1 := hSw
            go_simp
            try with_reducible rfl
          (try simp only [Act.put, List.getElem_toArray, List.getElem_cons_succ, List.getElem_cons_zero, List.setIfInBounds_toArray, List.set_cons_zero, List.set_cons_succ])
          refine' tkH (i := 25) (v := _) rfl (Or.inl ⟨by rfl, ?hyb25⟩) H0 ?restb25
          case hyb25 =>
            intro w' hSw
            have s1 := hSw
            go_simp
            try with_reducible rfl
          (try simp only [Act.put, List.getElem_toArray, List.getElem_cons_succ, List.getElem_cons_zero, List.setIfInBounds_toArray, List.set_cons_zero, List.set_cons_succ])
          refine wpAnyH_done (by kernel_rfl) ?_ _
          have HCW := Lib.hid (C0.trans H0 (by simp))
          go_wp2_with fail
          go_ret
          exact ⟨by rw [HW.out]; rfl, HCW.out⟩
        · have hZm : Z ≤ 9223372036854775807 := by omega
          by_cases hC : B = bszZ Z
          · by_cases hE : (n : Int) = cntZ Z
            · have HW : Hid (W = 0) := Lib.hid (by rw [HW2.out, if_pos ⟨by omega, by omega, hC, hE⟩])
              clear HW2
              refine wp_region_held_drew (S := fun w' => Chg [] w1 w') (by kernel_rfl) (Chg.drewN [] w1 1) (fun H0 => ?_)
              refine' tkH (i := 0) (v := _) rfl (Or.inl ⟨by rfl, ?hye0⟩) H0 ?reste0
              case hye0 =>
                intro w' hSw
                have s1 := hSw
                go_simp
                try with_reducible rfl
              (try simp only [Act.put, List.getElem_toArray, List.getElem_cons_zero, List.setIfInBounds_toArray, List.set_cons_zero, List.set_cons_succ])
              refine' tkH (i := 1) (v := _) rfl (Or.inl ⟨by rfl, ?hye1⟩) H0 ?reste1
              case hye1 =>
                intro w' hSw
                have s1 := hSw
                have hc := (show w'.cell? ⟨q, 3, none⟩ = some (.int .i64 Z) by rw [cell_of_row _ _ _ _ _ _ ((s1.block q (lt_of_block hx0) (by simp)).trans hx0)]; exact HR3.out)
                go_simp
                try with_reducible rfl
              (try simp only [Act.put, List.getElem_toArray, List.getElem_cons_succ, List.getElem_cons_zero, List.setIfInBounds_toArray, List.set_cons_zero, List.set_cons_succ])
              refine' tkH (i := 2) (v := _) rfl (Or.inl ⟨by rfl, ?hye2⟩) H0 ?reste2
              case hye2 =>
                intro w' hSw
                have s1 := hSw
                go_simp
                try with_reducible rfl
              (try simp only [Act.put, List.getElem_toArray, List.getElem_cons_succ, List.getElem_cons_zero, List.setIfInBounds_toArray, List.set_cons_zero, List.set_cons_succ])
              refine' tkH (i := 3) (v := _) rfl (Or.inl ⟨by rfl, ?hye3⟩) H0 ?reste3
              case hye3 =>
                intro w' hSw
                have s1 := hSw
                go_simp
                try with_reducible rfl
              (try simp only [Act.put, List.getElem_toArray, List.getElem_cons_succ, List.getElem_cons_zero, List.setIfInBounds_toArray, List.set_cons_zero, List.set_cons_succ])
              refine' tkH (i := 4) (v := _) rfl (Or.inl ⟨by rfl, ?hye4⟩) H0 ?reste4
              case hye4 =>
                intro w' hSw
                have s1 := hSw
                go_simp
                try with_reducible rfl
              (try simp only [Act.put, List.getElem_toArray, List.getElem_cons_succ, List.getElem_cons_zero, List.setIfInBounds_toArray, List.set_cons_zero, List.set_cons_succ])
              refine' tkH (i := 5) (v := _) rfl (Or.inl ⟨by rfl, ?hye5⟩) H0 ?reste5
              case hye5 =>
                intro w' hSw
                have s1 := hSw
                have hc := (show w'.cell? ⟨q, 3, none⟩ = some (.int .i64 Z) by rw [cell_of_row _ _ _ _ _ _ ((s1.block q (lt_of_block hx0) (by simp)).trans hx0)]; exact HR3.out)
                go_simp
                try with_reducible rfl
              (try simp only [Act.put, List.getElem_toArray, List.getElem_cons_succ, List.getElem_cons_zero, List.setIfInBounds_toArray, List.set_cons_zero, List.set_cons_succ])
              refine' tkH (i := 6) (v := _) rfl (Or.inl ⟨by rfl, ?hye6⟩) H0 ?reste6
              case hye6 =>
                intro w' hSw
                have s1 := hSw
                go_simp
                try with_reducible rfl
              (try simp only [Act.put, List.getElem_toArray, List.getElem_cons_succ, List.getElem_cons_zero, List.setIfInBounds_toArray, List.set_cons_zero, List.set_cons_succ])
              refine' tkH (i := 7) (v := _) rfl (Or.inl ⟨by rfl, ?hye7⟩) H0 ?reste7
              case hye7 =>
                intro w' hSw
                have s1 := hSw
                go_simp
                try with_reducible rfl
              (try simp only [Act.put, List.getElem_toArray, List.getElem_cons_succ, List.getElem_cons_zero, List.setIfInBounds_toArray, List.set_cons_zero, List.set_cons_succ])
              refine' tkH (i := 8) (v := _) rfl (Or.inl ⟨by rfl, ?hye8⟩) H0 ?reste8
              case hye8 =>
                intro w' hSw
                have s1 := hSw
                go_simp
                try with_reducible rfl
              (try simp only [Act.put, List.getElem_toArray, List.getElem_cons_succ, List.getElem_cons_zero, List.setIfInBounds_toArray, List.set_cons_zero, List.set_cons_succ])
              refine' tkH (i := 9) (v := _) rfl (Or.inl ⟨by rfl, ?hye9⟩) H0 ?reste9
              case hye9 =>
                intro w' hSw
                have s1 := hSw
                go_simp
                try with_reducible rfl
              (try simp only [Act.put, List.getElem_toArray, List.getElem_cons_succ, List.getElem_cons_zero, List.setIfInBounds_toArray, List.set_cons_zero, List.set_cons_succ])
              refine' tkH (i := 10) (v := _) rfl (Or.inl ⟨by rfl, ?hye10⟩) H0 ?reste10
              case hye10 =>
                intro w' hSw
                have s1 := hSw
                have hc := (show w'.cell? ⟨q, 22, none⟩ = some (.int .i64 B) by rw [cell_of_row _ _ _ _ _ _ ((s1.block q (lt_of_block hx0) (by simp)).trans hx0)]; exact HR22.out)
                go_simp
                try with_reducible rfl
              (try simp only [Act.put, List.getElem_toArray, List.getElem_cons_succ, List.getElem_cons_zero, List.setIfInBounds_toArray, List.set_cons_zero, List.set_cons_succ])
              refine' tkH (i := 11) (v := _) rfl (Or.inl ⟨by rfl, ?hye11⟩) H0 ?reste11
              case hye11 =>
                intro w' hSw
                have s1 := hSw
                go_simp
                try with_reducible rfl
              (try simp only [Act.put, List.getElem_toArray, List.getElem_cons_succ, List.getElem_cons_zero, List.setIfInBounds_toArray, List.set_cons_zero, List.set_cons_succ])
              refine' tkH (i := 12) (v := _) rfl (Or.inl ⟨by rfl, ?hye12⟩) H0 ?reste12
              case hye12 =>
                intro w' hSw
                have s1 := hSw
                have hc := (show w'.cell? ⟨q, 3, none⟩ = some (.int .i64 Z) by rw [cell_of_row _ _ _ _ _ _ ((s1.block q (lt_of_block hx0) (by simp)).trans hx0)]; exact HR3.out)
                go_simp
                try with_reducible rfl
              (try simp only [Act.put, List.getElem_toArray, List.getElem_cons_succ, List.getElem_cons_zero, List.setIfInBounds_toArray, List.set_cons_zero, List.set_cons_succ])
              refine wpAnyH_ready (rs := [13]) (by kernel_rfl) (by simp) (AllReadyH.cons rfl (fun K hK => ?_) AllReadyH.nil)
              go_simp
              refine (blk_size Z _).mono ?_
              rintro e wy13 ⟨rfl, rfl⟩
              go_simp
              refine hK.out _ _ H0 (fun H1 => ?_)
              clear hK K
              refine' tkH (i := 14) (v := _) rfl (Or.inl ⟨by rfl, ?hye14⟩) H1 ?reste14
              case hye14 =>
                intro w' hSw
                have s1 := hSw
                go_simp
                try with_reducible rfl
              (try simp only [Act.put, List.getElem_toArray, List.getElem_cons_succ, List.getElem_cons_zero, List.setIfInBounds_toArray, List.set_cons_zero, List.set_cons_succ])
              refine' tkH (i := 15) (v := _) rfl (Or.inl ⟨by rfl, ?hye15⟩) H1 ?reste15
              case hye15 =>
                intro w' hSw
                have s1 := hSw
                go_simp
                try with_reducible rfl
              (try simp only [Act.put, List.getElem_toArray, List.getElem_cons_succ, List.getElem_cons_zero, List.setIfInBounds_toArray, List.set_cons_zero, List.set_cons_succ])
              refine' tkH (i := 16) (v := _) rfl (Or.inl ⟨by rfl, ?hye16⟩) H1 ?reste16
              case hye16 =>
                intro w' hSw
                have s1 := hSw
                go_simp
                try with_reducible rfl
              (try simp only [Act.put, List.getElem_toArray, List.getElem_cons_succ, List.getElem_cons_zero, List.setIfInBounds_toArray, List.set_cons_zero, List.set_cons_succ])
              refine' tkH (i := 17) (v := _) rfl (Or.inl ⟨by rfl, ?hye17⟩) H1 ?reste17
              case hye17 =>
                intro w' hSw
                have s1 := hSw
                go_simp
                try with_reducible rfl
              (try simp only [Act.put, List.getElem_toArray, List.getElem_cons_succ, List.getElem_cons_zero, List.setIfInBounds_toArray, List.set_cons_zero, List.set_cons_succ])
              refine' tkH (i := 18) (v := _) rfl (Or.inl ⟨by rfl, ?hye18⟩) H1 ?reste18
              case hye18 =>
                intro w' hSw
                have s1 := hSw
                have hc := (show w'.cell? ⟨q, 23, none⟩ = some (.slice ao n c) by rw [cell_of_row _ _ _ _ _ _ ((s1.block q (lt_of_block hx0) (by simp)).trans hx0)]; exact HR23.out)
                go_simp
                try with_reducible rfl
              (try simp only [Act.put, List.getElem_toArray, List.getElem_cons_succ, List.getElem_cons_zero, List.setIfInBounds_toArray, List.set_cons_zero, List.set_cons_succ])
              refine' tkH (i := 19) (v := _) rfl (Or.inl ⟨by rfl, ?hye19⟩) H1 ?reste19
              case hye19 =>
                intro w' hSw
                have s1 := hSw
                go_simp
                try with_reducible rfl
              (try simp only [Act.put, List.getElem_toArray, List.getElem_cons_succ, List.getElem_cons_zero, List.setIfInBounds_toArray, List.set_cons_zero, List.set_cons_succ])
              refine' tkH (i := 20) (v := _) rfl (Or.inl ⟨by rfl, ?hye20⟩) H1 ?reste20
              case hye20 =>
                intro w' hSw
                have s1 := hSw
                go_simp
                try with_reducible rfl
              (try simp only [Act.put, List.getElem_toArray, List.getElem_cons_succ, List.getElem_cons_zero, List.setIfInBounds_toArray, List.set_cons_zero, List.set_cons_succ])
              refine' tkH (i := 21) (v := _) rfl (Or.inl ⟨by rfl, ?hye21⟩) H1 ?reste21
              case hye21 =>
                intro w' hSw
                have s1 := hSw
                have hc := (show w'.cell? ⟨q, 3, none⟩ = some (.int .i64 Z) by rw [cell_of_row _ _ _ _ _ _ ((s1.block q (lt_of_block hx0) (by simp)).trans hx0)]; exact HR3.out)
                go_simp
                try with_reducible rfl
              (try simp only [Act.put, List.getElem_toArray, List.getElem_cons_succ, List.getElem_cons_zero, List.setIfInBounds_toArray, List.set_cons_zero, List.set_cons_succ])
              refine wpAnyH_ready (rs := [22]) (by kernel_rfl) (by simp) (AllReadyH.cons rfl (fun K hK => ?_) AllReadyH.nil)
              go_simp
              refine (blk_count Z _).mono ?_
              rintro e wy22 ⟨rfl, rfl⟩
              go_simp
              refine hK.out _ _ H1 (fun H2 => ?_)
              clear hK K
              refine' tkH (i := 23) (v := _) rfl (Or.inl ⟨by rfl, ?hye23⟩) H2 ?reste23
              case hye23 =>
                intro w' hSw
                have s1 := hSw
                go_simp
                try with_reducible rfl
              (try simp only [Act.put, List.getElem_toArray, List.getElem_cons_succ, List.getElem_cons_zero, List.setIfInBounds_toArray, List.set_cons_zero, List.set_cons_succ])
              refine' tkH (i := 24) (v := _) rfl (Or.inl ⟨by rfl, ?hye24⟩) H2 ?reste24
              case hye24 =>
                intro w' hSw
                have s1 := hSw
                go_simp
                try with_reducible rfl
              (try simp only [Act.put, List.getElem_toArray, List.getElem_cons_succ, List.getElem_cons_zero, List.setIfInBounds_toArray, List.set_cons_zero, List.set_cons_succ])
              refine' tkH (i := 25) (v := _) rfl (Or.inl ⟨by rfl, ?hye25⟩) H2 ?reste25
              case hye25 =>
                intro w' hSw
                have s1 := hSw
                go_simp
                try with_reducible rfl
              (try simp only [Act.put, List.getElem_toArray, List.getElem_cons_succ, List.getElem_cons_zero, List.setIfInBounds_toArray, List.set_cons_zero, List.set_cons_succ])
              refine wpAnyH_done (by kernel_rfl) ?_ _
              have HCW := Lib.hid (C0.trans H2 (by simp))
              go_wp2_with fail
              go_ret
              exact ⟨by rw [HW.out]; rfl, HCW.out⟩
            · have HW : Hid (W = 4) := Lib.hid (by rw [HW2.out, if_neg (fun h => hE h.2.2.2)])
              clear HW2
              refine wp_region_held_drew (S := fun w' => Chg [] w1 w') (by kernel_rfl) (Chg.drewN [] w1 1) (fun H0 => ?_)
              refine' tkH (i := 0) (v := _) rfl (Or.inl ⟨by rfl, ?hyd0⟩) H0 ?restd0
              case hyd0 =>
                intro w' hSw
                have s1 := hSw
                go_simp
                try with_reducible rfl
              (try simp only [Act.put, List.getElem_toArray, List.getElem_cons_zero, List.setIfInBounds_toArray, List.set_cons_zero, List.set_cons_succ])
              refine' tkH (i := 1) (v := _) rfl (Or.inl ⟨by rfl, ?hyd1⟩) H0 ?restd1
              case hyd1 =>
                intro w' hSw
                have s1 := hSw
                have hc := (show w'.cell? ⟨q, 3, none⟩ = some (.int .i64 Z) by rw [cell_of_row _ _ _ _ _ _ ((s1.block q (lt_of_block hx0) (by simp)).trans hx0)]; exact HR3.out)
                go_simp
                try with_reducible rfl
              (try simp only [Act.put, List.getElem_toArray, List.getElem_cons_succ, List.getElem_cons_zero, List.setIfInBounds_toArray, List.set_cons_zero, List.set_cons_succ])
              refine' tkH (i := 2) (v := _) rfl (Or.inl ⟨by rfl, ?hyd2⟩) H0 ?restd2
              case hyd2 =>
                intro w' hSw
                have s1 := hSw
                go_simp
                try with_reducible rfl
              (try simp only [Act.put, List.getElem_toArray, List.getElem_cons_succ, List.getElem_cons_zero, List.setIfInBounds_toArray, List.set_cons_zero, List.set_cons_succ])
              refine' tkH (i := 3) (v := _) rfl (Or.inl ⟨by rfl, ?hyd3⟩) H0 ?restd3
              case hyd3 =>
                intro w' hSw
                have s1 := hSw
                go_simp
                try with_reducible rfl
              (try simp only [Act.put, List.getElem_toArray, List.getElem_cons_succ, List.getElem_cons_zero, List.setIfInBounds_toArray, List.set_cons_zero, List.set_cons_succ])
              refine' tkH (i := 4) (v := _) rfl (Or.inl ⟨by rfl, ?hyd4⟩) H0 ?restd4
              case hyd4 =>
                intro w' hSw
                have s1 := hSw
                go_simp
                try with_reducible rfl
              (try simp only [Act.put, List.getElem_toArray, List.getElem_cons_succ, List.getElem_cons_zero, List.setIfInBounds_toArray, List.set_cons_zero, List.set_cons_succ])
              refine' tkH (i := 5) (v := _) rfl (Or.inl ⟨by rfl, ?hyd5⟩) H0 ?restd5
              case hyd5 =>
                intro w' hSw
                have s1 := hSw
                have hc := (show w'.cell? ⟨q, 3, none⟩ = some (.int .i64 Z) by rw [cell_of_row _ _ _ _ _ _ ((s1.block q (lt_of_block hx0) (by simp)).trans hx0)]; exact HR3.out)
                go_simp
                try with_reducible rfl
              (try simp only [Act.put, List.getElem_toArray, List.getElem_cons_succ, List.getElem_cons_zero, List.setIfInBounds_toArray, List.set_cons_zero, List.set_cons_succ])
              refine' tkH (i := 6) (v := _) rfl (Or.inl ⟨by rfl, ?hyd6⟩) H0 ?restd6
              case hyd6 =>
                intro w' hSw
                have s1 := hSw
                go_simp
                try with_reducible rfl
              (try simp only [Act.put, List.getElem_toArray, List.getElem_cons_succ, List.getElem_cons_zero, List.setIfInBounds_toArray, List.set_cons_zero, List.set_cons_succ])
              refine' tkH (i := 7) (v := _) rfl (Or.inl ⟨by rfl, ?hyd7⟩) H0 ?restd7
              case hyd7 =>
                intro w' hSw
                have s1 := hSw
                go_simp
                try with_reducible rfl
              (try simp only [Act.put, List.getElem_toArray, List.getElem_cons_succ, List.getElem_cons_zero, List.setIfInBounds_toArray, List.set_cons_zero, List.set_cons_succ])
              refine' tkH (i := 8) (v := _) rfl (Or.inl ⟨by rfl, ?hyd8⟩) H0 ?restd8
              case hyd8 =>
                intro w' hSw
                have s1 := hSw
                go_simp
                try with_reducible rfl
              (try simp only [Act.put, List.getElem_toArray, List.getElem_cons_succ, List.getElem_cons_zero, List.setIfInBounds_toArray, List.set_cons_zero, List.set_cons_succ])
              refine' tkH (i := 9) (v := _) rfl (Or.inl ⟨by rfl, ?hyd9⟩) H0 ?restd9
              case hyd9 =>
                intro w' hSw
                have s1 := hSw
                go_simp
                try with_reducible rfl
              (try simp only [Act.put, List.getElem_toArray, List.getElem_cons_succ, List.getElem_cons_zero, List.setIfInBounds_toArray, List.set_cons_zero, List.set_cons_succ])
              refine' tkH (i := 10) (v := _) rfl (Or.inl ⟨by rfl, ?hyd10⟩) H0 ?restd10
              case hyd10 =>
                intro w' hSw
                have s1 := hSw
                have hc := (show w'.cell? ⟨q, 22, none⟩ = some (.int .i64 B) by rw [cell_of_row _ _ _ _ _ _ ((s1.block q (lt_of_block hx0) (by simp)).trans hx0)]; exact HR22.out)
                go_simp
                try with_reducible rfl
              (try simp only [Act.put, List.getElem_toArray, List.getElem_cons_succ, List.getElem_cons_zero, List.setIfInBounds_toArray, List.set_cons_zero, List.set_cons_succ])
              refine' tkH (i := 11) (v := _) rfl (Or.inl ⟨by rfl, ?hyd11⟩) H0 ?restd11
              case hyd11 =>
                intro w' hSw
                have s1 := hSw
                go_simp
                try with_reducible rfl
              (try simp only [Act.put, List.getElem_toArray, List.getElem_cons_succ, List.getElem_cons_zero, List.setIfInBounds_toArray, List.set_cons_zero, List.set_cons_succ])
              refine' tkH (i := 12) (v := _) rfl (Or.inl ⟨by rfl, ?hyd12⟩) H0 ?restd12
              case hyd12 =>
                intro w' hSw
                have s1 := hSw
                have hc := (show w'.cell? ⟨q, 3, none⟩ = some (.int .i64 Z) by rw [cell_of_row _ _ _ _ _ _ ((s1.block q (lt_of_block hx0) (by simp)).trans hx0)]; exact HR3.out)
                go_simp
                try with_reducible rfl
              (try simp only [Act.put, List.getElem_toArray, List.getElem_cons_succ, List.getElem_cons_zero, List.setIfInBounds_toArray, List.set_cons_zero, List.set_cons_succ])
              refine wpAnyH_ready (rs := [13]) (by kernel_rfl) (by simp) (AllReadyH.cons rfl (fun K hK => ?_) AllReadyH.nil)
              go_simp
              refine (blk_size Z _).mono ?_
              rintro e wy13 ⟨rfl, rfl⟩
              go_simp
              refine hK.out _ _ H0 (fun H1 => ?_)
              clear hK K
              refine' tkH (i := 14) (v := _) rfl (Or.inl ⟨by rfl, ?hyd14⟩) H1 ?restd14
              case hyd14 =>
                intro w' hSw
                have s1 := hSw
                go_simp
                try with_reducible rfl
              (try simp only [Act.put, List.getElem_toArray, List.getElem_cons_succ, List.getElem_cons_zero, List.setIfInBounds_toArray, List.set_cons_zero, List.set_cons_succ])
              refine' tkH (i := 15) (v := _) rfl (Or.inl ⟨by rfl, ?hyd15⟩) H1 ?restd15
              case hyd15 =>
                intro w' hSw
                have s1 := hSw
                go_simp
                try with_reducible rfl
              (try simp only [Act.put, List.getElem_toArray, List.getElem_cons_succ, List.getElem_cons_zero, List.setIfInBounds_toArray, List.set_cons_zero, List.set_cons_succ])
              refine' tkH (i := 16) (v := _) rfl (Or.inl ⟨by rfl, ?hyd16⟩) H1 ?restd16
              case hyd16 =>
                intro w' hSw
                have s1 := hSw
                go_simp
                try with_reducible rfl
              (try simp only [Act.put, List.getElem_toArray, List.getElem_cons_succ, List.getElem_cons_zero, List.setIfInBounds_toArray, List.set_cons_zero, List.set_cons_succ])
              refine' tkH (i := 17) (v := _) rfl (Or.inl ⟨by rfl, ?hyd17⟩) H1 ?restd17
              case hyd17 =>
                intro w' hSw
                have s1 := hSw
                go_simp
                try with_reducible rfl
              (try simp only [Act.put, List.getElem_toArray, List.getElem_cons_succ, List.getElem_cons_zero, List.setIfInBounds_toArray, List.set_cons_zero, List.set_cons_succ])
              refine' tkH (i := 18) (v := _) rfl (Or.inl ⟨by rfl, ?hyd18⟩) H1 ?restd18
              case hyd18 =>
                intro w' hSw
                have s1 := hSw
                have hc := (show w'.cell? ⟨q, 23, none⟩ = some (.slice ao n c) by rw [cell_of_row _ _ _ _ _ _ ((s1.block q (lt_of_block hx0) (by simp)).trans hx0)]; exact HR23.out)
                go_simp
                try with_reducible rfl
              (try simp only [Act.put, List.getElem_toArray, List.getElem_cons_succ, List.getElem_cons_zero, List.setIfInBounds_toArray, List.set_cons_zero, List.set_cons_succ])
              refine' tkH (i := 19) (v := _) rfl (Or.inl ⟨by rfl, ?hyd19⟩) H1 ?restd19
              case hyd19 =>
                intro w' hSw
                have s1 := hSw
                go_simp
                try with_reducible rfl
              (try simp only [Act.put, List.getElem_toArray, List.getElem_cons_succ, List.getElem_cons_zero, List.setIfInBounds_toArray, List.set_cons_zero, List.set_cons_succ])
              refine' tkH (i := 20) (v := _) rfl (Or.inl ⟨by rfl, ?hyd20⟩) H1 ?restd20
              case hyd20 =>
                intro w' hSw
                have s1 := hSw
                go_simp
                try with_reducible rfl
              (try simp only [Act.put, List.getElem_toArray, List.getElem_cons_succ, List.getElem_cons_zero, List.setIfInBounds_toArray, List.set_cons_zero, List.set_cons_succ])
              refine' tkH (i := 21) (v := _) rfl (Or.inl ⟨by rfl, ?hyd21⟩) H1 ?restd21
              case hyd21 =>
                intro w' hSw
                have s1 := hSw
                have hc := (show w'.cell? ⟨q, 3, none⟩ = some (.int .i64 Z) by rw [cell_of_row _ _ _ _ _ _ ((s1.block q (lt_of_block hx0) (by simp)).trans hx0)]; exact HR3.out)
                go_simp
                try with_reducible rfl
              (try simp only [Act.put, List.getElem_toArray, List.getElem_cons_succ, List.getElem_cons_zero, List.setIfInBounds_toArray, List.set_cons_zero, List.set_cons_succ])
              refine wpAnyH_ready (rs := [22]) (by kernel_rfl) (by simp) (AllReadyH.cons rfl (fun K hK => ?_) AllReadyH.nil)
              go_simp
              refine (blk_count Z _).mono ?_
              rintro e wy22 ⟨rfl, rfl⟩
              go_simp
              refine hK.out _ _ H1 (fun H2 => ?_)
              clear hK K
              refine' tkH (i := 23) (v := .bool true) rfl (Or.inl ⟨by rfl, ?hyd23⟩) H2 ?restd23
              case hyd23 =>
                intro w' hSw
                have s1 := hSw
                go_simp
                try simp [hE]
              (try simp only [Act.put, List.getElem_toArray, List.getElem_cons_succ, List.getElem_cons_zero, List.setIfInBounds_toArray, List.set_cons_zero, List.set_cons_succ])
              refine' tkH (i := 24) (v := _) rfl (Or.inl ⟨by rfl, ?hyd24⟩) H2 ?restd24
              case hyd24 =>
                intro w' hSw
                have s1 := hSw
                go_simp
                try with_reducible rfl
              (try simp only [Act.put, List.getElem_toArray, List.getElem_cons_succ, List.getElem_cons_zero, List.setIfInBounds_toArray, List.set_cons_zero, List.set_cons_succ])
              refine' tkH (i := 25) (v := _) rfl (Or.inl ⟨by rfl, ?hyd25⟩) H2 ?restd25
              case hyd25 =>
                intro w' hSw
                have s1 := hSw
                go_simp
                try with_reducible rfl
              (try simp only [Act.put, List.getElem_toArray, List.getElem_cons_succ, List.getElem_cons_zero, List.setIfInBounds_toArray, List.set_cons_zero, List.set_cons_succ])
              refine wpAnyH_done (by kernel_rfl) ?_ _
              have HCW := Lib.hid (C0.trans H2 (by simp))
              go_wp2_with fail
              go_ret
              exact ⟨by rw [HW.out]; rfl, HCW.out⟩
          · have HW : Hid (W = 4) := Lib.hid (by rw [HW2.out, if_neg (fun h => hC h.2.2.1)])
            clear HW2
            refine wp_region_held_drew (S := fun w' => Chg [] w1 w') (by kernel_rfl) (Chg.drewN [] w1 1) (fun H0 => ?_)
            refine' tkH (i := 0) (v := _) rfl (Or.inl ⟨by rfl, ?hyc0⟩) H0 ?restc0
            case hyc0 =>
              intro w' hSw
              have s1 := hSw
              go_simp
              try with_reducible rfl
            (try simp only [Act.put, List.getElem_toArray, List.getElem_cons_zero, List.setIfInBounds_toArray, List.set_cons_zero, List.set_cons_succ])
            refine' tkH (i := 1) (v := _) rfl (Or.inl ⟨by rfl, ?hyc1⟩) H0 ?restc1
            case hyc1 =>
              intro w' hSw
              have s1 := hSw
              have hc := (show w'.cell? ⟨q, 3, none⟩ = some (.int .i64 Z) by rw [cell_of_row _ _ _ _ _ _ ((s1.block q (lt_of_block hx0) (by simp)).trans hx0)]; exact HR3.out)
              go_simp
              try with_reducible rfl
            (try simp only [Act.put, List.getElem_toArray, List.getElem_cons_succ, List.getElem_cons_zero, List.setIfInBounds_toArray, List.set_cons_zero, List.set_cons_succ])
            refine' tkH (i := 2) (v := _) rfl (Or.inl ⟨by rfl, ?hyc2⟩) H0 ?restc2
            case hyc2 =>
              intro w' hSw
              have s1 := hSw
              go_simp
              try with_reducible rfl
            (try simp only [Act.put, List.getElem_toArray, List.getElem_cons_succ, List.getElem_cons_zero, List.setIfInBounds_toArray, List.set_cons_zero, List.set_cons_succ])
            refine' tkH (i := 3) (v := _) rfl (Or.inl ⟨by rfl, ?hyc3⟩) H0 ?restc3
            case hyc3 =>
              intro w' hSw
              have s1 := hSw
              go_simp
              try with_reducible rfl
            (try simp only [Act.put, List.getElem_toArray, List.getElem_cons_succ, List.getElem_cons_zero, List.setIfInBounds_toArray, List.set_cons_zero, List.set_cons_succ])
            refine' tkH (i := 4) (v := _) rfl (Or.inl ⟨by rfl, ?hyc4⟩) H0 ?restc4
            case hyc4 =>
              intro w' hSw
              have s1 := hSw
              go_simp
              try with_reducible rfl
            (try simp only [Act.put, List.getElem_toArray, List.getElem_cons_succ, List.getElem_cons_zero, List.setIfInBounds_toArray, List.set_cons_zero, List.set_cons_succ])
            refine' tkH (i := 5) (v := _) rfl (Or.inl ⟨by rfl, ?hyc5⟩) H0 ?restc5
            case hyc5 =>
              intro w' hSw
              have s1 := hSw
              have hc := (show w'.cell? ⟨q, 3, none⟩ = some (.int .i64 Z) by rw [cell_of_row _ _ _ _ _ _ ((s1.block q (lt_of_block hx0) (by simp)).trans hx0)]; exact HR3.out)
              go_simp
              try with_reducible rfl
            (try simp only [Act.put, List.getElem_toArray, List.getElem_cons_succ, List.getElem_cons_zero, List.setIfInBounds_toArray, List.set_cons_zero, List.set_cons_succ])
            refine' tkH (i := 6) (v := _) rfl (Or.inl ⟨by rfl, ?hyc6⟩) H0 ?restc6
            case hyc6 =>
              intro w' hSw
              have s1 := hSw
              go_simp
              try with_reducible rfl
            (try simp only [Act.put, List.getElem_toArray, List.getElem_cons_succ, List.getElem_cons_zero, List.setIfInBounds_toArray, List.set_cons_zero, List.set_cons_succ])
            refine' tkH (i := 7) (v := _) rfl (Or.inl ⟨by rfl, ?hyc7⟩) H0 ?restc7
            case hyc7 =>
              intro w' hSw
              have s1 := hSw
              go_simp
              try with_reducible rfl
            (try simp only [Act.put, List.getElem_toArray, List.getElem_cons_succ, List.getElem_cons_zero, List.setIfInBounds_toArray, List.set_cons_zero, List.set_cons_succ])
            refine' tkH (i := 8) (v := _) rfl (Or.inl ⟨by rfl, ?hyc8⟩) H0 ?restc8
            case hyc8 =>
              intro w' hSw
              have s1 := hSw
              go_simp
              try with_reducible rfl
            (try simp only [Act.put, List.getElem_toArray, List.getElem_cons_succ, List.getElem_cons_zero, List.setIfInBounds_toArray, List.set_cons_zero, List.set_cons_succ])
            refine' tkH (i := 9) (v := _) rfl (Or.inl ⟨by rfl, ?hyc9⟩) H0 ?restc9
            case hyc9 =>
              intro w' hSw
              have s1 := hSw
              go_simp
              try with_reducible rfl
            (try simp only [Act.put, List.getElem_toArray, List.getElem_cons_succ, List.getElem_cons_zero, List.setIfInBounds_toArray, List.set_cons_zero, List.set_cons_succ])
            refine' tkH (i := 10) (v := _) rfl (Or.inl ⟨by rfl, ?hyc10⟩) H0 ?restc10
            case hyc10 =>
              intro w' hSw
              have s1 := hSw
              have hc := (show w'.cell? ⟨q, 22, none⟩ = some (.int .i64 B) by rw [cell_of_row _ _ _ _ _ _ ((s1.block q (lt_of_block hx0) (by simp)).trans hx0)]; exact HR22.out)
              go_simp
              try with_reducible rfl
            (try simp only [Act.put, List.getElem_toArray, List.getElem_cons_succ, List.getElem_cons_zero, List.setIfInBounds_toArray, List.set_cons_zero, List.set_cons_succ])
            refine' tkH (i := 11) (v := _) rfl (Or.inl ⟨by rfl, ?hyc11⟩) H0 ?restc11
            case hyc11 =>
              intro w' hSw
              have s1 := hSw
              go_simp
              try with_reducible rfl
            (try simp only [Act.put, List.getElem_toArray, List.getElem_cons_succ, List.getElem_cons_zero, List.setIfInBounds_toArray, List.set_cons_zero, List.set_cons_succ])
            refine' tkH (i := 12) (v := _) rfl (Or.inl ⟨by rfl, ?hyc12⟩) H0 ?restc12
            case hyc12 =>
              intro w' hSw
              have s1 := hSw
              have hc := (show w'.cell? ⟨q, 3, none⟩ = some (.int .i64 Z) by rw [cell_of_row _ _ _ _ _ _ ((s1.block q (lt_of_block hx0) (by simp)).trans hx0)]; exact HR3.out)
              go_simp
              try with_reducible rfl
            (try simp only [Act.put, List.getElem_toArray, List.getElem_cons_succ, List.getElem_cons_zero, List.setIfInBounds_toArray, List.set_cons_zero, List.set_cons_succ])
            refine wpAnyH_ready (rs := [13]) (by kernel_rfl) (by simp) (AllReadyH.cons rfl (fun K hK => ?_) AllReadyH.nil)
            go_simp
            refine (blk_size Z _).mono ?_
            rintro e wy13 ⟨rfl, rfl⟩
            go_simp
            refine hK.out _ _ H0 (fun H1 => ?_)
            clear hK K
            refine' tkH (i := 14) (v := .bool true) rfl (Or.inl ⟨by rfl, ?hyc14⟩) H1 ?restc14
            case hyc14 =>
              intro w' hSw
              have s1 := hSw
              go_simp
              try simp [hC]
            (try simp only [Act.put, List.getElem_toArray, List.getElem_cons_succ, List.getElem_cons_zero, List.setIfInBounds_toArray, List.set_cons_zero, List.set_cons_succ])
            refine' tkH (i := 15) (v := _) rfl (Or.inl ⟨by rfl, ?hyc15⟩) H1 ?restc15
            case hyc15 =>
              intro w' hSw
              have s1 := hSw
              go_simp
              try with_reducible rfl
            (try simp only [Act.put, List.getElem_toArray, List.getElem_cons_succ, List.getElem_cons_zero, List.setIfInBounds_toArray, List.set_cons_zero, List.set_cons_succ])
            refine' tkH (i := 16) (v := _) rfl (Or.inl ⟨by rfl, ?hyc16⟩) H1 ?restc16
            case hyc16 =>
              intro w' hSw
              have s1 := hSw
              go_simp
              try with_reducible rfl
            (try simp only [Act.put, List.getElem_toArray, List.getElem_cons_succ, List.getElem_cons_zero, List.setIfInBounds_toArray, List.set_cons_zero, List.set_cons_succ])
            refine tkH (i := 17) (v := undef) rfl (Or.inr ⟨by rfl, rfl⟩) H1 ?_
            (try simp only [Act.put, List.getElem_toArray, List.getElem_cons_succ, List.getElem_cons_zero, List.setIfInBounds_toArray, List.set_cons_zero, List.set_cons_succ])
            refine tkH (i := 18) (v := undef) rfl (Or.inr ⟨by rfl, rfl⟩) H1 ?_
            (try simp only [Act.put, List.getElem_toArray, List.getElem_cons_succ, List.getElem_cons_zero, List.setIfInBounds_toArray, List.set_cons_zero, List.set_cons_succ])
            refine tkH (i := 19) (v := undef) rfl (Or.inr ⟨by rfl, rfl⟩) H1 ?_
            (try simp only [Act.put, List.getElem_toArray, List.getElem_cons_succ, List.getElem_cons_zero, List.setIfInBounds_toArray, List.set_cons_zero, List.set_cons_succ])
            refine tkH (i := 20) (v := undef) rfl (Or.inr ⟨by rfl, rfl⟩) H1 ?_
            (try simp only [Act.put, List.getElem_toArray, List.getElem_cons_succ, List.getElem_cons_zero, List.setIfInBounds_toArray, List.set_cons_zero, List.set_cons_succ])
            refine tkH (i := 21) (v := undef) rfl (Or.inr ⟨by rfl, rfl⟩) H1 ?_
            (try simp only [Act.put, List.getElem_toArray, List.getElem_cons_succ, List.getElem_cons_zero, List.setIfInBounds_toArray, List.set_cons_zero, List.set_cons_succ])
            refine tkH (i := 22) (v := undef) rfl (Or.inr ⟨by rfl, rfl⟩) H1 ?_
            (try simp only [Act.put, List.getElem_toArray, List.getElem_cons_succ, List.getElem_cons_zero, List.setIfInBounds_toArray, List.set_cons_zero, List.set_cons_succ])
            refine tkH (i := 23) (v := undef) rfl (Or.inr ⟨by rfl, rfl⟩) H1 ?_
            (try simp only [Act.put, List.getElem_toArray, List.getElem_cons_succ, List.getElem_cons_zero, List.setIfInBounds_toArray, List.set_cons_zero, List.set_cons_succ])
            refine' tkH (i := 24) (v := _) rfl (Or.inl ⟨by rfl, ?hyc24⟩) H1 ?restc24
            case hyc24 =>
              intro w' hSw
              have s1 := hSw
              go_simp
              try with_reducible rfl
            (try simp only [Act.put, List.getElem_toArray, List.getElem_cons_succ, List.getElem_cons_zero, List.setIfInBounds_toArray, List.set_cons_zero, List.set_cons_succ])
            refine' tkH (i := 25) (v := _) rfl (Or.inl ⟨by rfl, ?hyc25⟩) H1 ?restc25
            case hyc25 =>
              intro w' hSw
              have s1 := hSw
              go_simp
              try with_reducible rfl
            (try simp only [Act.put, List.getElem_toArray, List.getElem_cons_succ, List.getElem_cons_zero, List.setIfInBounds_toArray, List.set_cons_zero, List.set_cons_succ])
            refine wpAnyH_done (by kernel_rfl) ?_ _
            have HCW := Lib.hid (C0.trans H1 (by simp))
            go_wp2_with fail
            go_ret
            exact ⟨by rw [HW.out]; rfl, HCW.out⟩
    · have HW : Hid (W = 11) := Lib.hid (by rw [hw, if_pos (.inr hk)])
      clear hw
      go_wp2_with fail
      go_ret
      exact ⟨by rw [HW.out]; rfl, C0⟩
set_option maxRecDepth 100000 in
set_option maxHeartbeats 4000000 in
theorem cp_length (RC : Array Value) (r : RecV) (ao : Option Addr) (c : Nat) (i : Int) (w : World) (H : RecIs w RC r ao c) : Calls Tryd.prog 46 #[.agg RC, .int .i64 i] w fun e w' => e = .returned (.int .i64 (r.len i)) ∧ Chg [] w w' := by
  have hx0 := heap_alloc_new w (.cells RC 77)
  have C0 := Chg.alloc [] w (.cells RC 77)
  have KW := Lib.hid (fun w' (C : Chg [] w w') => cp_wanted RC r ao c w' (H.chg0 C))
  have hlen : r.len i = if r.want ≠ 0 ∨ i < 0 ∨ (r.L.length : Int) ≤ i then 0 else min r.bs (r.size - i * r.bs) := rfl
  have hgood := fun h => RecV.good_of (r := r) h
  obtain ⟨K, hK⟩ : ∃ K, r.kind = K := ⟨_, rfl⟩
  obtain ⟨D, hD⟩ : ∃ D, r.del = D := ⟨_, rfl⟩
  obtain ⟨Z, hZ⟩ : ∃ Z, r.size = Z := ⟨_, rfl⟩
  obtain ⟨B, hB⟩ : ∃ B, r.bs = B := ⟨_, rfl⟩
  obtain ⟨n, hn⟩ : ∃ n, r.L.length = n := ⟨_, rfl⟩
  have HR1 : Hid (RC[1]? = some (.int .i64 K)) := Lib.hid (by rw [← hK]; exact H.kind)
  have HR2 : Hid (RC[2]? = some (.bool D)) := Lib.hid (by rw [← hD]; exact H.del)
  have HR3 : Hid (RC[3]? = some (.int .i64 Z)) := Lib.hid (by rw [← hZ]; exact H.long)
  have HR22 : Hid (RC[22]? = some (.int .i64 B)) := Lib.hid (by rw [← hB]; exact H.bs)
  have HR23 : Hid (RC[23]? = some (.slice ao n c)) := Lib.hid (by rw [← hn]; exact H.bl)
  have HRS := Lib.hid H.size
  obtain ⟨W, hW⟩ : ∃ W, r.want = W := ⟨_, rfl⟩
  rw [hW, hn, hB, hZ] at hlen
  rw [hW] at KW hgood
  have HGD : Hid (W = 0 → ∃ N : Nat, (∃ Bn Pn : Nat, Z = (N : Int) ∧ N ≤ 4096 ∧ B = (Bn : Int) ∧ ∀ k : Nat, k < n ↔ k * Bn < N)) := Lib.hid (fun h => by
    obtain ⟨N, g⟩ := hgood h
    refine ⟨N, bszN N, 0, by rw [← hZ]; exact g.size, g.le, by rw [← hB]; exact g.bs, fun k => ?_⟩
    rw [← hn, g.len]
    exact cntN_lt g.le k)
  have HNB : Hid (W = 0 → n ≤ 32) := Lib.hid (fun h => by
    obtain ⟨N, g⟩ := hgood h
    rw [← hn, g.len]
    exact cntN_le N)
  generalize r.len i = X at *
  clear hK hD hZ hB hn hW hgood H
  go_enter Tryd.func46, Tryd.ntmps46
  go_upto_region 1 with (fail)
  obtain ⟨q, hq⟩ : ∃ q, w.heap.size = q := ⟨_, rfl⟩
  rw [hq] at hx0 ⊢
  generalize w.alloc (.cells RC 77) = w1 at *
  have hldr := run_loadAt_rec w1 q RC _ hx0 HRS.out
  have HX := Lib.hid hx0
  have HC0 := Lib.hid C0
  clear hq
  go_wp2_with (refine wpList_load_y 77 (.tmp 2) rfl (by go_simp) (.pointer (some ⟨q, 0, none⟩)) (.agg RC) hldr rfl ?_)
  refine (KW.out w1 C0).mono ?_
  rintro e w2 ⟨rfl, C2⟩
  have HC2 := Lib.hid (HC0.out.trans C2 (by simp))
  have hx2 := (C2.block q (lt_of_block hx0) (by simp)).trans hx0
  have c3 : w2.cell? ⟨q, 3, none⟩ = some (.int .i64 Z) := by rw [cell_of_row _ _ _ _ _ _ hx2]; exact HR3.out
  have c22 : w2.cell? ⟨q, 22, none⟩ = some (.int .i64 B) := by rw [cell_of_row _ _ _ _ _ _ hx2]; exact HR22.out
  have c23 : w2.cell? ⟨q, 23, none⟩ = some (.slice ao n c) := by rw [cell_of_row _ _ _ _ _ _ hx2]; exact HR23.out
  clear C0 C2 hx2 hx0 hldr
  by_cases hw0 : W = 0
  · subst hw0
    by_cases hi : i < 0
    · have HX0 : Hid (X = 0) := Lib.hid (by rw [hlen, if_pos (.inr (.inl hi))])
      clear hlen
      go_wp2_with fail
      go_ret
      exact ⟨by rw [HX0.out]; rfl, HC2.out⟩
    · obtain ⟨k, rfl⟩ : ∃ k : Nat, i = (k : Int) := ⟨i.toNat, by omega⟩
      by_cases hk : n ≤ k
      · have HX0 : Hid (X = 0) := Lib.hid (by rw [hlen, if_pos (.inr (.inr (by omega)))])
        have hk2 : (k : Int) ≥ n := by omega
        clear hlen hi
        go_wp2_with fail
        go_ret
        exact ⟨by rw [HX0.out]; rfl, HC2.out⟩
      · obtain ⟨N, Bn, _, rfl, hN, rfl, hall⟩ := HGD.out rfl
        have hP1 := (hall k).1 (by omega)
        have hP2 : k * Bn ≤ 4096 := Nat.le_trans (Nat.le_of_lt hP1) hN
        have hP3 := hall (k + 1)
        rw [Nat.add_mul, Nat.one_mul] at hP3
        obtain ⟨P, hP⟩ : ∃ P, k * Bn = P := ⟨_, rfl⟩
        have hPi : (k : Int) * (Bn : Int) = (P : Int) := by rw [← hP]; simp
        rw [hP] at hP1 hP2 hP3
        have HX0 : Hid (X = min (Bn : Int) ((N : Int) - P)) := Lib.hid (by rw [hlen, if_neg (by omega), hPi])
        have hk2 : ¬ (k : Int) ≥ n := by omega
        have hw1 : wrap64 ((k : Int) * (Bn : Int)) = (P : Int) := by rw [hPi]; unfold wrap64; omega
        have hw2 : IntKind.i64.wrap ((k : Int) * (Bn : Int)) = (P : Int) := by rw [hPi, IntKind.wrap_i64]; omega
        have hw3 : wrap64 ((N : Int) - (P : Int)) = (N : Int) - P := by unfold wrap64; omega
        clear hlen hi hall HGD hP hPi
        clear hP3
        go_wp2_with fail
        go_ret
        exact ⟨by rw [HX0.out]; rfl, HC2.out⟩
  · have HX0 : Hid (X = 0) := Lib.hid (by rw [hlen, if_pos (.inl hw0)])
    clear hlen
    go_wp2_with fail
    go_ret
    exact ⟨by rw [HX0.out]; rfl, HC2.out⟩
set_option maxRecDepth 100000 in
set_option maxHeartbeats 4000000 in
theorem rf_wanted (RC : Array Value) (r : RecV) (ao : Option Addr) (c : Nat) (w : World) (H : RecIs w RC r ao c) : Calls Tryd.prog 81 #[.agg RC] w fun e w' => e = .returned (.int .i64 r.want) ∧ Chg [] w w' := by
  have hx0 := heap_alloc_new w (.cells RC 77)
  have C0 := Chg.alloc [] w (.cells RC 77)
  obtain ⟨K, hK⟩ : ∃ K, r.kind = K := ⟨_, rfl⟩
  obtain ⟨D, hD⟩ : ∃ D, r.del = D := ⟨_, rfl⟩
  obtain ⟨Z, hZ⟩ : ∃ Z, r.size = Z := ⟨_, rfl⟩
  obtain ⟨B, hB⟩ : ∃ B, r.bs = B := ⟨_, rfl⟩
  obtain ⟨n, hn⟩ : ∃ n, r.L.length = n := ⟨_, rfl⟩
  have HR1 : Hid (RC[1]? = some (.int .i64 K)) := Lib.hid (by rw [← hK]; exact H.kind)
  have HR2 : Hid (RC[2]? = some (.bool D)) := Lib.hid (by rw [← hD]; exact H.del)
  have HR3 : Hid (RC[3]? = some (.int .i64 Z)) := Lib.hid (by rw [← hZ]; exact H.long)
  have HR22 : Hid (RC[22]? = some (.int .i64 B)) := Lib.hid (by rw [← hB]; exact H.bs)
  have HR23 : Hid (RC[23]? = some (.slice ao n c)) := Lib.hid (by rw [← hn]; exact H.bl)
  have HRS := Lib.hid H.size
  have hw : r.want = if D = true ∨ K ≠ 1 then 11 else if 0 ≤ Z ∧ Z ≤ 4096 ∧ B = bszZ Z ∧ (n : Int) = cntZ Z then 0 else 4 := by
    unfold RecV.want
    rw [hD, hK, hZ, hB, hn]
  generalize r.want = W at *
  clear hK hD hZ hB hn H
  go_enter Tryd.func81, Tryd.ntmps81
  go_upto_region 1 with (fail)
  obtain ⟨q, hq⟩ : ∃ q, w.heap.size = q := ⟨_, rfl⟩
  rw [hq] at hx0 ⊢
  generalize w.alloc (.cells RC 77) = w1 at *
  have hcell : w1.cell? ⟨q, 1, none⟩ = some (.int .i64 K) ∧ w1.cell? ⟨q, 2, none⟩ = some (.bool D) ∧ w1.cell? ⟨q, 3, none⟩ = some (.int .i64 Z) ∧ w1.cell? ⟨q, 22, none⟩ = some (.int .i64 B) ∧ w1.cell? ⟨q, 23, none⟩ = some (.slice ao n c) := by
    refine ⟨?_, ?_, ?_, ?_, ?_⟩ <;> rw [cell_of_row _ _ _ _ _ _ hx0]
    · exact HR1.out
    · exact HR2.out
    · exact HR3.out
    · exact HR22.out
    · exact HR23.out
  obtain ⟨c1, c2, c3, c22, c23⟩ := hcell
  clear hq
  by_cases hd : D = true
  · have HW : Hid (W = 11) := Lib.hid (by rw [hw, if_pos (.inl hd)])
    subst hd
    clear hw
    go_wp2_with fail
    go_ret
    exact ⟨by rw [HW.out]; rfl, C0⟩
  · have hd : D = false := by simpa using hd
    subst hd
    by_cases hk : K = 1
    · have hw2 : W = if 0 ≤ Z ∧ Z ≤ 4096 ∧ B = bszZ Z ∧ (n : Int) = cntZ Z then 0 else 4 := by rw [hw, if_neg (by rintro (h | h); cases h; exact h hk)]
      subst hk
      have HW2 := Lib.hid hw2
      clear hw hw2
      go_upto_region 3 with (fail)
      by_cases hA : Z < 0
      · have HW : Hid (W = 4) := Lib.hid (by rw [HW2.out, if_neg (fun h => absurd h.1 (by omega))])
        clear HW2
        refine wp_region_held_drew (S := fun w' => Chg [] w1 w') (by kernel_rfl) (Chg.drewN [] w1 1) (fun H0 => ?_)
        refine' tkH (i := 0) (v := _) rfl (Or.inl ⟨by rfl, ?hya0⟩) H0 ?resta0
        case hya0 =>
          intro w' hSw
          have s1 := hSw
          go_simp
          try with_reducible rfl
        (try simp only [Act.put, List.getElem_toArray, List.getElem_cons_zero, List.setIfInBounds_toArray, List.set_cons_zero, List.set_cons_succ])
        refine' tkH (i := 1) (v := _) rfl (Or.inl ⟨by rfl, ?hya1⟩) H0 ?resta1
        case hya1 =>
          intro w' hSw
          have s1 := hSw
          have hc := (show w'.cell? ⟨q, 3, none⟩ = some (.int .i64 Z) by rw [cell_of_row _ _ _ _ _ _ ((s1.block q (lt_of_block hx0) (by simp)).trans hx0)]; exact HR3.out)
          go_simp
          try with_reducible rfl
        (try simp only [Act.put, List.getElem_toArray, List.getElem_cons_succ, List.getElem_cons_zero, List.setIfInBounds_toArray, List.set_cons_zero, List.set_cons_succ])
        refine' tkH (i := 2) (v := _) rfl (Or.inl ⟨by rfl, ?hya2⟩) H0 ?resta2
        case hya2 =>
          intro w' hSw
          have s1 := hSw
          go_simp
          try with_reducible rfl
        (try simp only [Act.put, List.getElem_toArray, List.getElem_cons_succ, List.getElem_cons_zero, List.setIfInBounds_toArray, List.set_cons_zero, List.set_cons_succ])
        refine' tkH (i := 3) (v := _) rfl (Or.inl ⟨by rfl, ?hya3⟩) H0 ?resta3
        case hya3 =>
          intro w' hSw
          have s1 := hSw
          go_simp
          try with_reducible rfl
        (try simp only [Act.put, List.getElem_toArray, List.getElem_cons_succ, List.getElem_cons_zero, List.setIfInBounds_toArray, List.set_cons_zero, List.set_cons_succ])
        refine tkH (i := 4) (v := undef) rfl (Or.inr ⟨by rfl, rfl⟩) H0 ?_
        (try simp only [Act.put, List.getElem_toArray, List.getElem_cons_succ, List.getElem_cons_zero, List.setIfInBounds_toArray, List.set_cons_zero, List.set_cons_succ])
        refine tkH (i := 5) (v := undef) rfl (Or.inr ⟨by rfl, rfl⟩) H0 ?_
        (try simp only [Act.put, List.getElem_toArray, List.getElem_cons_succ, List.getElem_cons_zero, List.setIfInBounds_toArray, List.set_cons_zero, List.set_cons_succ])
        refine tkH (i := 6) (v := undef) rfl (Or.inr ⟨by rfl, rfl⟩) H0 ?_
        (try simp only [Act.put, List.getElem_toArray, List.getElem_cons_succ, List.getElem_cons_zero, List.setIfInBounds_toArray, List.set_cons_zero, List.set_cons_succ])
        refine' tkH (i := 7) (v := _) rfl (Or.inl ⟨by rfl, ?hya7⟩) H0 ?resta7
        case hya7 =>
          intro w' hSw
          have s1 := hSw
          go_simp
          try with_reducible rfl
        (try simp only [Act.put, List.getElem_toArray, List.getElem_cons_succ, List.getElem_cons_zero, List.setIfInBounds_toArray, List.set_cons_zero, List.set_cons_succ])
        refine' tkH (i := 8) (v := _) rfl (Or.inl ⟨by rfl, ?hya8⟩) H0 ?resta8
        case hya8 =>
          intro w' hSw
          have s1 := hSw
          go_simp
          try with_reducible rfl
        (try simp only [Act.put, List.getElem_toArray, List.getElem_cons_succ, List.getElem_cons_zero, List.setIfInBounds_toArray, List.set_cons_zero, List.set_cons_succ])
        refine tkH (i := 9) (v := undef) rfl (Or.inr ⟨by rfl, rfl⟩) H0 ?_
        (try simp only [Act.put, List.getElem_toArray, List.getElem_cons_succ, List.getElem_cons_zero, List.setIfInBounds_toArray, List.set_cons_zero, List.set_cons_succ])
        refine tkH (i := 10) (v := undef) rfl (Or.inr ⟨by rfl, rfl⟩) H0 ?_
        (try simp only [Act.put, List.getElem_toArray, List.getElem_cons_succ, List.getElem_cons_zero, List.setIfInBounds_toArray, List.set_cons_zero, List.set_cons_succ])
        refine tkH (i := 11) (v := undef) rfl (Or.inr ⟨by rfl, rfl⟩) H0 ?_
        (try simp only [Act.put, List.getElem_toArray, List.getElem_cons_succ, List.getElem_cons_zero, List.setIfInBounds_toArray, List.set_cons_zero, List.set_cons_succ])
        refine tkH (i := 12) (v := undef) rfl (Or.inr ⟨by rfl, rfl⟩) H0 ?_
        (try simp only [Act.put, List.getElem_toArray, List.getElem_cons_succ, List.getElem_cons_zero, List.setIfInBounds_toArray, List.set_cons_zero, List.set_cons_succ])
        refine tkH (i := 13) (v := undef) rfl (Or.inr ⟨by rfl, rfl⟩) H0 ?_
        (try simp only [Act.put, List.getElem_toArray, List.getElem_cons_succ, List.getElem_cons_zero, List.setIfInBounds_toArray, List.set_cons_zero, List.set_cons_succ])
        refine tkH (i := 14) (v := undef) rfl (Or.inr ⟨by rfl, rfl⟩) H0 ?_
        (try simp only [Act.put, List.getElem_toArray, List.getElem_cons_succ, List.getElem_cons_zero, List.setIfInBounds_toArray, List.set_cons_zero, List.set_cons_succ])
        refine' tkH (i := 15) (v := _) rfl (Or.inl ⟨by rfl, ?hya15⟩) H0 ?resta15
        case hya15 =>
          intro w' hSw
          have s1 := hSw
          go_simp
          try with_reducible rfl
        (try simp only [Act.put, List.getElem_toArray, List.getElem_cons_succ, List.getElem_cons_zero, List.setIfInBounds_toArray, List.set_cons_zero, List.set_cons_succ])
        refine' tkH (i := 16) (v := _) rfl (Or.inl ⟨by rfl, ?hya16⟩) H0 ?resta16
        case hya16 =>
          intro w' hSw
          have s1 := hSw
          go_simp
          try with_reducible rfl
        (try simp only [Act.put, List.getElem_toArray, List.getElem_cons_succ, List.getElem_cons_zero, List.setIfInBounds_toArray, List.set_cons_zero, List.set_cons_succ])
        refine tkH (i := 17) (v := undef) rfl (Or.inr ⟨by rfl, rfl⟩) H0 ?_
        (try simp only [Act.put, List.getElem_toArray, List.getElem_cons_succ, List.getElem_cons_zero, List.setIfInBounds_toArray, List.set_cons_zero, List.set_cons_succ])
        refine tkH (i := 18) (v := undef) rfl (Or.inr ⟨by rfl, rfl⟩) H0 ?_
        (try simp only [Act.put, List.getElem_toArray, List.getElem_cons_succ, List.getElem_cons_zero, List.setIfInBounds_toArray, List.set_cons_zero, List.set_cons_succ])
        refine tkH (i := 19) (v := undef) rfl (Or.inr ⟨by rfl, rfl⟩) H0 ?_
        (try simp only [Act.put, List.getElem_toArray, List.getElem_cons_succ, List.getElem_cons_zero, List.setIfInBounds_toArray, List.set_cons_zero, List.set_cons_succ])
        refine tkH (i := 20) (v := undef) rfl (Or.inr ⟨by rfl, rfl⟩) H0 ?_
        (try simp only [Act.put, List.getElem_toArray, List.getElem_cons_succ, List.getElem_cons_zero, List.setIfInBounds_toArray, List.set_cons_zero, List.set_cons_succ])
        refine tkH (i := 21) (v := undef) rfl (Or.inr ⟨by rfl, rfl⟩) H0 ?_
        (try simp only [Act.put, List.getElem_toArray, List.getElem_cons_succ, List.getElem_cons_zero, List.setIfInBounds_toArray, List.set_cons_zero, List.set_cons_succ])
        refine tkH (i := 22) (v := undef) rfl (Or.inr ⟨by rfl, rfl⟩) H0 ?_
        (try simp only [Act.put, List.getElem_toArray, List.getElem_cons_succ, List.getElem_cons_zero, List.setIfInBounds_toArray, List.set_cons_zero, List.set_cons_succ])
        refine tkH (i := 23) (v := undef) rfl (Or.inr ⟨by rfl, rfl⟩) H0 ?_
        (try simp only [Act.put, List.getElem_toArray, List.getElem_cons_succ, List.getElem_cons_zero, List.setIfInBounds_toArray, List.set_cons_zero, List.set_cons_succ])
        refine' tkH (i := 24) (v := _) rfl (Or.inl ⟨by rfl, ?hya24⟩) H0 ?resta24
        case hya24 =>
          intro w' hSw
          have s1 := hSw
          go_simp
          try with_reducible rfl
        (try simp only [Act.put, List.getElem_toArray, List.getElem_cons_succ, List.getElem_cons_zero, List.setIfInBounds_toArray, List.set_cons_zero, List.set_cons_succ])
        refine wpAnyH_done (by kernel_rfl) ?_ _
        have HCW := Lib.hid (C0.trans H0 (by simp))
        go_wp2_with fail
        go_ret
        exact ⟨by rw [HW.out]; rfl, HCW.out⟩
      · by_cases hB : 4096 < Z
        · have HW : Hid (W = 4) := Lib.hid (by rw [HW2.out, if_neg (fun h => absurd h.2.1 (by omega))])
          clear HW2
          refine wp_region_held_drew (S := fun w' => Chg [] w1 w') (by kernel_rfl) (Chg.drewN [] w1 1) (fun H0 => ?_)
          refine' tkH (i := 0) (v := _) rfl (Or.inl ⟨by rfl, ?hyb0⟩) H0 ?restb0
          case hyb0 =>
            intro w' hSw
            have s1 := hSw
            go_simp
            try with_reducible rfl
          (try simp only [Act.put, List.getElem_toArray, List.getElem_cons_zero, List.setIfInBounds_toArray, List.set_cons_zero, List.set_cons_succ])
          refine' tkH (i := 1) (v := _) rfl (Or.inl ⟨by rfl, ?hyb1⟩) H0 ?restb1
          case hyb1 =>
            intro w' hSw
            have s1 := hSw
            have hc := (show w'.cell? ⟨q, 3, none⟩ = some (.int .i64 Z) by rw [cell_of_row _ _ _ _ _ _ ((s1.block q (lt_of_block hx0) (by simp)).trans hx0)]; exact HR3.out)
            go_simp
            try with_reducible rfl
          (try simp only [Act.put, List.getElem_toArray, List.getElem_cons_succ, List.getElem_cons_zero, List.setIfInBounds_toArray, List.set_cons_zero, List.set_cons_succ])
          refine' tkH (i := 2) (v := _) rfl (Or.inl ⟨by rfl, ?hyb2⟩) H0 ?restb2
          case hyb2 =>
            intro w' hSw
            have s1 := hSw
            go_simp
            try with_reducible rfl
          (try simp only [Act.put, List.getElem_toArray, List.getElem_cons_succ, List.getElem_cons_zero, List.setIfInBounds_toArray, List.set_cons_zero, List.set_cons_succ])
          refine' tkH (i := 3) (v := _) rfl (Or.inl ⟨by rfl, ?hyb3⟩) H0 ?restb3
          case hyb3 =>
            intro w' hSw
            have s1 := hSw
            go_simp
            try with_reducible rfl
          (try simp only [Act.put, List.getElem_toArray, List.getElem_cons_succ, List.getElem_cons_zero, List.setIfInBounds_toArray, List.set_cons_zero, List.set_cons_succ])
          refine' tkH (i := 4) (v := _) rfl (Or.inl ⟨by rfl, ?hyb4⟩) H0 ?restb4
          case hyb4 =>
            intro w' hSw
            have s1 := hSw
            go_simp
            try with_reducible rfl
          (try simp only [Act.put, List.getElem_toArray, List.getElem_cons_succ, List.getElem_cons_zero, List.setIfInBounds_toArray, List.set_cons_zero, List.set_cons_succ])
          refine' tkH (i := 5) (v := _) rfl (Or.inl ⟨by rfl, ?hyb5⟩) H0 ?restb5
          case hyb5 =>
            intro w' hSw
            have s1 := hSw
            have hc := (show w'.cell? ⟨q, 3, none⟩ = some (.int .i64 Z) by rw [cell_of_row _ _ _ _ _ _ ((s1.block q (lt_of_block hx0) (by simp)).trans hx0)]; exact HR3.out)
            go_simp
            try with_reducible rfl
          (try simp only [Act.put, List.getElem_toArray, List.getElem_cons_succ, List.getElem_cons_zero, List.setIfInBounds_toArray, List.set_cons_zero, List.set_cons_succ])
          refine' tkH (i := 6) (v := _) rfl (Or.inl ⟨by rfl, ?hyb6⟩) H0 ?restb6
          case hyb6 =>
            intro w' hSw
            have s1 := hSw
            go_simp
            try with_reducible rfl
          (try simp only [Act.put, List.getElem_toArray, List.getElem_cons_succ, List.getElem_cons_zero, List.setIfInBounds_toArray, List.set_cons_zero, List.set_cons_succ])
          refine' tkH (i := 7) (v := _) rfl (Or.inl ⟨by rfl, ?hyb7⟩) H0 ?restb7
          case hyb7 =>
            intro w' hSw
            have s1 := hSw
            go_simp
            try with_reducible rfl
          (try simp only [Act.put, List.getElem_toArray, List.getElem_cons_succ, List.getElem_cons_zero, List.setIfInBounds_toArray, List.set_cons_zero, List.set_cons_succ])
          refine' tkH (i := 8) (v := _) rfl (Or.inl ⟨by rfl, ?hyb8⟩) H0 ?restb8
          case hyb8 =>
            intro w' hSw
            have s1 := hSw
            go_simp
            try with_reducible rfl
          (try simp only [Act.put, List.getElem_toArray, List.getElem_cons_succ, List.getElem_cons_zero, List.setIfInBounds_toArray, List.set_cons_zero, List.set_cons_succ])
          refine tkH (i := 9) (v := undef) rfl (Or.inr ⟨by rfl, rfl⟩) H0 ?_
          (try simp only [Act.put, List.getElem_toArray, List.getElem_cons_succ, List.getElem_cons_zero, List.setIfInBounds_toArray, List.set_cons_zero, List.set_cons_succ])
          refine tkH (i := 10) (v := undef) rfl (Or.inr ⟨by rfl, rfl⟩) H0 ?_
          (try simp only [Act.put, List.getElem_toArray, List.getElem_cons_succ, List.getElem_cons_zero, List.setIfInBounds_toArray, List.set_cons_zero, List.set_cons_succ])
          refine tkH (i := 11) (v := undef) rfl (Or.inr ⟨by rfl, rfl⟩) H0 ?_
          (try simp only [Act.put, List.getElem_toArray, List.getElem_cons_succ, List.getElem_cons_zero, List.setIfInBounds_toArray, List.set_cons_zero, List.set_cons_succ])
          refine tkH (i := 12) (v := undef) rfl (Or.inr ⟨by rfl, rfl⟩) H0 ?_
          (try simp only [Act.put, List.getElem_toArray, List.getElem_cons_succ, List.getElem_cons_zero, List.setIfInBounds_toArray, List.set_cons_zero, List.set_cons_succ])
          refine tkH (i := 13) (v := undef) rfl (Or.inr ⟨by rfl, rfl⟩) H0 ?_
          (try simp only [Act.put, List.getElem_toArray, List.getElem_cons_succ, List.getElem_cons_zero, List.setIfInBounds_toArray, List.set_cons_zero, List.set_cons_succ])
          refine tkH (i := 14) (v := undef) rfl (Or.inr ⟨by rfl, rfl⟩) H0 ?_
          (try simp only [Act.put, List.getElem_toArray, List.getElem_cons_succ, List.getElem_cons_zero, List.setIfInBounds_toArray, List.set_cons_zero, List.set_cons_succ])
          refine' tkH (i := 15) (v := _) rfl (Or.inl ⟨by rfl, ?hyb15⟩) H0 ?restb15
          case hyb15 =>
            intro w' hSw
            have s1 := hSw
            go_simp
            try with_reducible rfl
          (try simp only [Act.put, List.getElem_toArray, List.getElem_cons_succ, List.getElem_cons_zero, List.setIfInBounds_toArray, List.set_cons_zero, List.set_cons_succ])
          refine' tkH (i := 16) (v := _) rfl (Or.inl ⟨by rfl, ?hyb16⟩) H0 ?restb16
          case hyb16 =>
            intro w' hSw
            have s1 := hSw
            go_simp
            try with_reducible rfl
          (try simp only [Act.put, List.getElem_toArray, List.getElem_cons_succ, List.getElem_cons_zero, List.setIfInBounds_toArray, List.set_cons_zero, List.set_cons_succ])
          refine tkH (i := 17) (v := undef) rfl (Or.inr ⟨by rfl, rfl⟩) H0 ?_
          (try simp only [Act.put, List.getElem_toArray, List.getElem_cons_succ, List.getElem_cons_zero, List.setIfInBounds_toArray, List.set_cons_zero, List.set_cons_succ])
          refine tkH (i := 18) (v := undef) rfl (Or.inr ⟨by rfl, rfl⟩) H0 ?_
          (try simp only [Act.put, List.getElem_toArray, List.getElem_cons_succ, List.getElem_cons_zero, List.setIfInBounds_toArray, List.set_cons_zero, List.set_cons_succ])
          refine tkH (i := 19) (v := undef) rfl (Or.inr ⟨by rfl, rfl⟩) H0 ?_
          (try simp only [Act.put, List.getElem_toArray, List.getElem_cons_succ, List.getElem_cons_zero, List.setIfInBounds_toArray, List.set_cons_zero, List.set_cons_succ])
          refine tkH (i := 20) (v := undef) rfl (Or.inr ⟨by rfl, rfl⟩) H0 ?_
          (try simp only [Act.put, List.getElem_toArray, List.getElem_cons_succ, List.getElem_cons_zero, List.setIfInBounds_toArray, List.set_cons_zero, List.set_cons_succ])
          refine tkH (i := 21) (v := undef) rfl (Or.inr ⟨by rfl, rfl⟩) H0 ?_
          (try simp only [Act.put, List.getElem_toArray, List.getElem_cons_succ, List.getElem_cons_zero, List.setIfInBounds_toArray, List.set_cons_zero, List.set_cons_succ])
          refine tkH (i := 22) (v := undef) rfl (Or.inr ⟨by rfl, rfl⟩) H0 ?_
          (try simp only [Act.put, List.getElem_toArray, List.getElem_cons_succ, List.getElem_cons_zero, List.setIfInBounds_toArray, List.set_cons_zero, List.set_cons_succ])
          refine tkH (i := 23) (v := undef) rfl (Or.inr ⟨by rfl, rfl⟩) H0 ?_
          (try simp only [Act.put, List.getElem_toArray, List.getElem_cons_succ, List.getElem_cons_zero, List.setIfInBounds_toArray, List.set_cons_zero, List.set_cons_succ])
          refine' tkH (i := 24) (v := _) rfl (Or.inl ⟨by rfl, ?hyb24⟩) H0 ?restb24
          case hyb24 =>
            intro w' hSw
            have s1 := hSw
            go_simp
            try with_reducible rfl
          (try simp only [Act.put, List.getElem_toArray, List.getElem_cons_succ, List.getElem_cons_zero, List.setIfInBounds_toArray, List.set_cons_zero, List.set_cons_succ])
          refine wpAnyH_done (by kernel_rfl) ?_ _
          have HCW := Lib.hid (C0.trans H0 (by simp))
          go_wp2_with fail
          go_ret
          exact ⟨by rw [HW.out]; rfl, HCW.out⟩
        · have hZm : Z ≤ 9223372036854775807 := by omega
          by_cases hC : B = bszZ Z
          · by_cases hE : (n : Int) = cntZ Z
            · have HW : Hid (W = 0) := Lib.hid (by rw [HW2.out, if_pos ⟨by omega, by omega, hC, hE⟩])
              clear HW2
              refine wp_region_held_drew (S := fun w' => Chg [] w1 w') (by kernel_rfl) (Chg.drewN [] w1 1) (fun H0 => ?_)
              refine' tkH (i := 0) (v := _) rfl (Or.inl ⟨by rfl, ?hye0⟩) H0 ?reste0
              case hye0 =>
                intro w' hSw
                have s1 := hSw
                go_simp
                try with_reducible rfl
              (try simp only [Act.put, List.getElem_toArray, List.getElem_cons_zero, List.setIfInBounds_toArray, List.set_cons_zero, List.set_cons_succ])
              refine' tkH (i := 1) (v := _) rfl (Or.inl ⟨by rfl, ?hye1⟩) H0 ?reste1
              case hye1 =>
                intro w' hSw
                have s1 := hSw
                have hc := (show w'.cell? ⟨q, 3, none⟩ = some (.int .i64 Z) by rw [cell_of_row _ _ _ _ _ _ ((s1.block q (lt_of_block hx0) (by simp)).trans hx0)]; exact HR3.out)
                go_simp
                try with_reducible rfl
              (try simp only [Act.put, List.getElem_toArray, List.getElem_cons_succ, List.getElem_cons_zero, List.setIfInBounds_toArray, List.set_cons_zero, List.set_cons_succ])
              refine' tkH (i := 2) (v := _) rfl (Or.inl ⟨by rfl, ?hye2⟩) H0 ?reste2
              case hye2 =>
                intro w' hSw
                have s1 := hSw
                go_simp
                try with_reducible rfl
              (try simp only [Act.put, List.getElem_toArray, List.getElem_cons_succ, List.getElem_cons_zero, List.setIfInBounds_toArray, List.set_cons_zero, List.set_cons_succ])
              refine' tkH (i := 3) (v := _) rfl (Or.inl ⟨by rfl, ?hye3⟩) H0 ?reste3
              case hye3 =>
                intro w' hSw
                have s1 := hSw
                go_simp
                try with_reducible rfl
              (try simp only [Act.put, List.getElem_toArray, List.getElem_cons_succ, List.getElem_cons_zero, List.setIfInBounds_toArray, List.set_cons_zero, List.set_cons_succ])
              refine' tkH (i := 4) (v := _) rfl (Or.inl ⟨by rfl, ?hye4⟩) H0 ?reste4
              case hye4 =>
                intro w' hSw
                have s1 := hSw
                go_simp
                try with_reducible rfl
              (try simp only [Act.put, List.getElem_toArray, List.getElem_cons_succ, List.getElem_cons_zero, List.setIfInBounds_toArray, List.set_cons_zero, List.set_cons_succ])
              refine' tkH (i := 5) (v := _) rfl (Or.inl ⟨by rfl, ?hye5⟩) H0 ?reste5
              case hye5 =>
                intro w' hSw
                have s1 := hSw
                have hc := (show w'.cell? ⟨q, 3, none⟩ = some (.int .i64 Z) by rw [cell_of_row _ _ _ _ _ _ ((s1.block q (lt_of_block hx0) (by simp)).trans hx0)]; exact HR3.out)
                go_simp
                try with_reducible rfl
              (try simp only [Act.put, List.getElem_toArray, List.getElem_cons_succ, List.getElem_cons_zero, List.setIfInBounds_toArray, List.set_cons_zero, List.set_cons_succ])
              refine' tkH (i := 6) (v := _) rfl (Or.inl ⟨by rfl, ?hye6⟩) H0 ?reste6
              case hye6 =>
                intro w' hSw
                have s1 := hSw
                go_simp
                try with_reducible rfl
              (try simp only [Act.put, List.getElem_toArray, List.getElem_cons_succ, List.getElem_cons_zero, List.setIfInBounds_toArray, List.set_cons_zero, List.set_cons_succ])
              refine' tkH (i := 7) (v := _) rfl (Or.inl ⟨by rfl, ?hye7⟩) H0 ?reste7
              case hye7 =>
                intro w' hSw
                have s1 := hSw
                go_simp
                try with_reducible rfl
              (try simp only [Act.put, List.getElem_toArray, List.getElem_cons_succ, List.getElem_cons_zero, List.setIfInBounds_toArray, List.set_cons_zero, List.set_cons_succ])
              refine' tkH (i := 8) (v := _) rfl (Or.inl ⟨by rfl, ?hye8⟩) H0 ?reste8
              case hye8 =>
                intro w' hSw
                have s1 := hSw
                go_simp
                try with_reducible rfl
              (try simp only [Act.put, List.getElem_toArray, List.getElem_cons_succ, List.getElem_cons_zero, List.setIfInBounds_toArray, List.set_cons_zero, List.set_cons_succ])
              refine' tkH (i := 9) (v := _) rfl (Or.inl ⟨by rfl, ?hye9⟩) H0 ?reste9
              case hye9 =>
                intro w' hSw
                have s1 := hSw
                go_simp
                try with_reducible rfl
              (try simp only [Act.put, List.getElem_toArray, List.getElem_cons_succ, List.getElem_cons_zero, List.setIfInBounds_toArray, List.set_cons_zero, List.set_cons_succ])
              refine' tkH (i := 10) (v := _) rfl (Or.inl ⟨by rfl, ?hye10⟩) H0 ?reste10
              case hye10 =>
                intro w' hSw
                have s1 := hSw
                have hc := (show w'.cell? ⟨q, 22, none⟩ = some (.int .i64 B) by rw [cell_of_row _ _ _ _ _ _ ((s1.block q (lt_of_block hx0) (by simp)).trans hx0)]; exact HR22.out)
                go_simp
                try with_reducible rfl
              (try simp only [Act.put, List.getElem_toArray, List.getElem_cons_succ, List.getElem_cons_zero, List.setIfInBounds_toArray, List.set_cons_zero, List.set_cons_succ])
              refine' tkH (i := 11) (v := _) rfl (Or.inl ⟨by rfl, ?hye11⟩) H0 ?reste11
              case hye11 =>
                intro w' hSw
                have s1 := hSw
                go_simp
                try with_reducible rfl
              (try simp only [Act.put, List.getElem_toArray, List.getElem_cons_succ, List.getElem_cons_zero, List.setIfInBounds_toArray, List.set_cons_zero, List.set_cons_succ])
              refine' tkH (i := 12) (v := _) rfl (Or.inl ⟨by rfl, ?hye12⟩) H0 ?reste12
              case hye12 =>
                intro w' hSw
                have s1 := hSw
                have hc := (show w'.cell? ⟨q, 3, none⟩ = some (.int .i64 Z) by rw [cell_of_row _ _ _ _ _ _ ((s1.block q (lt_of_block hx0) (by simp)).trans hx0)]; exact HR3.out)
                go_simp
                try with_reducible rfl
              (try simp only [Act.put, List.getElem_toArray, List.getElem_cons_succ, List.getElem_cons_zero, List.setIfInBounds_toArray, List.set_cons_zero, List.set_cons_succ])
              refine wpAnyH_ready (rs := [13]) (by kernel_rfl) (by simp) (AllReadyH.cons rfl (fun K hK => ?_) AllReadyH.nil)
              go_simp
              refine (ref_size Z _).mono ?_
              rintro e wy13 ⟨rfl, Cy⟩
              go_simp
              refine hK.out _ _ (H0.trans Cy (by simp)) (fun H1 => ?_)
              clear hK K
              refine' tkH (i := 14) (v := _) rfl (Or.inl ⟨by rfl, ?hye14⟩) H1 ?reste14
              case hye14 =>
                intro w' hSw
                have s1 := hSw
                go_simp
                try with_reducible rfl
              (try simp only [Act.put, List.getElem_toArray, List.getElem_cons_succ, List.getElem_cons_zero, List.setIfInBounds_toArray, List.set_cons_zero, List.set_cons_succ])
              refine' tkH (i := 15) (v := _) rfl (Or.inl ⟨by rfl, ?hye15⟩) H1 ?reste15
              case hye15 =>
                intro w' hSw
                have s1 := hSw
                go_simp
                try with_reducible rfl
              (try simp only [Act.put, List.getElem_toArray, List.getElem_cons_succ, List.getElem_cons_zero, List.setIfInBounds_toArray, List.set_cons_zero, List.set_cons_succ])
              refine' tkH (i := 16) (v := _) rfl (Or.inl ⟨by rfl, ?hye16⟩) H1 ?reste16
              case hye16 =>
                intro w' hSw
                have s1 := hSw
                go_simp
                try with_reducible rfl
              (try simp only [Act.put, List.getElem_toArray, List.getElem_cons_succ, List.getElem_cons_zero, List.setIfInBounds_toArray, List.set_cons_zero, List.set_cons_succ])
              refine' tkH (i := 17) (v := _) rfl (Or.inl ⟨by rfl, ?hye17⟩) H1 ?reste17
              case hye17 =>
                intro w' hSw
                have s1 := hSw
                go_simp
                try with_reducible rfl
              (try simp only [Act.put, List.getElem_toArray, List.getElem_cons_succ, List.getElem_cons_zero, List.setIfInBounds_toArray, List.set_cons_zero, List.set_cons_succ])
              refine' tkH (i := 18) (v := _) rfl (Or.inl ⟨by rfl, ?hye18⟩) H1 ?reste18
              case hye18 =>
                intro w' hSw
                have s1 := hSw
                have hc := (show w'.cell? ⟨q, 23, none⟩ = some (.slice ao n c) by rw [cell_of_row _ _ _ _ _ _ ((s1.block q (lt_of_block hx0) (by simp)).trans hx0)]; exact HR23.out)
                go_simp
                try with_reducible rfl
              (try simp only [Act.put, List.getElem_toArray, List.getElem_cons_succ, List.getElem_cons_zero, List.setIfInBounds_toArray, List.set_cons_zero, List.set_cons_succ])
              refine' tkH (i := 19) (v := _) rfl (Or.inl ⟨by rfl, ?hye19⟩) H1 ?reste19
              case hye19 =>
                intro w' hSw
                have s1 := hSw
                go_simp
                try with_reducible rfl
              (try simp only [Act.put, List.getElem_toArray, List.getElem_cons_succ, List.getElem_cons_zero, List.setIfInBounds_toArray, List.set_cons_zero, List.set_cons_succ])
              refine' tkH (i := 20) (v := _) rfl (Or.inl ⟨by rfl, ?hye20⟩) H1 ?reste20
              case hye20 =>
                intro w' hSw
                have s1 := hSw
                go_simp
                try with_reducible rfl
              (try simp only [Act.put, List.getElem_toArray, List.getElem_cons_succ, List.getElem_cons_zero, List.setIfInBounds_toArray, List.set_cons_zero, List.set_cons_succ])
              refine' tkH (i := 21) (v := _) rfl (Or.inl ⟨by rfl, ?hye21⟩) H1 ?reste21
              case hye21 =>
                intro w' hSw
                have s1 := hSw
                have hc := (show w'.cell? ⟨q, 3, none⟩ = some (.int .i64 Z) by rw [cell_of_row _ _ _ _ _ _ ((s1.block q (lt_of_block hx0) (by simp)).trans hx0)]; exact HR3.out)
                go_simp
                try with_reducible rfl
              (try simp only [Act.put, List.getElem_toArray, List.getElem_cons_succ, List.getElem_cons_zero, List.setIfInBounds_toArray, List.set_cons_zero, List.set_cons_succ])
              refine wpAnyH_ready (rs := [22]) (by kernel_rfl) (by simp) (AllReadyH.cons rfl (fun K hK => ?_) AllReadyH.nil)
              go_simp
              refine (ref_count Z hZm _).mono ?_
              rintro e wy22 ⟨rfl, Cy⟩
              go_simp
              refine hK.out _ _ (H1.trans Cy (by simp)) (fun H2 => ?_)
              clear hK K
              refine' tkH (i := 23) (v := _) rfl (Or.inl ⟨by rfl, ?hye23⟩) H2 ?reste23
              case hye23 =>
                intro w' hSw
                have s1 := hSw
                go_simp
                try with_reducible rfl
              (try simp only [Act.put, List.getElem_toArray, List.getElem_cons_succ, List.getElem_cons_zero, List.setIfInBounds_toArray, List.set_cons_zero, List.set_cons_succ])
              refine' tkH (i := 24) (v := _) rfl (Or.inl ⟨by rfl, ?hye24⟩) H2 ?reste24
              case hye24 =>
                intro w' hSw
                have s1 := hSw
                go_simp
                try with_reducible rfl
              (try simp only [Act.put, List.getElem_toArray, List.getElem_cons_succ, List.getElem_cons_zero, List.setIfInBounds_toArray, List.set_cons_zero, List.set_cons_succ])
              refine wpAnyH_done (by kernel_rfl) ?_ _
              have HCW := Lib.hid (C0.trans H2 (by simp))
              go_wp2_with fail
              go_ret
              exact ⟨by rw [HW.out]; rfl, HCW.out⟩
            · have HW : Hid (W = 4) := Lib.hid (by rw [HW2.out, if_neg (fun h => hE h.2.2.2)])
              clear HW2
              refine wp_region_held_drew (S := fun w' => Chg [] w1 w') (by kernel_rfl) (Chg.drewN [] w1 1) (fun H0 => ?_)
              refine' tkH (i := 0) (v := _) rfl (Or.inl ⟨by rfl, ?hyd0⟩) H0 ?restd0
              case hyd0 =>
                intro w' hSw
                have s1 := hSw
                go_simp
                try with_reducible rfl
              (try simp only [Act.put, List.getElem_toArray, List.getElem_cons_zero, List.setIfInBounds_toArray, List.set_cons_zero, List.set_cons_succ])
              refine' tkH (i := 1) (v := _) rfl (Or.inl ⟨by rfl, ?hyd1⟩) H0 ?restd1
              case hyd1 =>
                intro w' hSw
                have s1 := hSw
                have hc := (show w'.cell? ⟨q, 3, none⟩ = some (.int .i64 Z) by rw [cell_of_row _ _ _ _ _ _ ((s1.block q (lt_of_block hx0) (by simp)).trans hx0)]; exact HR3.out)
                go_simp
                try with_reducible rfl
              (try simp only [Act.put, List.getElem_toArray, List.getElem_cons_succ, List.getElem_cons_zero, List.setIfInBounds_toArray, List.set_cons_zero, List.set_cons_succ])
              refine' tkH (i := 2) (v := _) rfl (Or.inl ⟨by rfl, ?hyd2⟩) H0 ?restd2
              case hyd2 =>
                intro w' hSw
                have s1 := hSw
                go_simp
                try with_reducible rfl
              (try simp only [Act.put, List.getElem_toArray, List.getElem_cons_succ, List.getElem_cons_zero, List.setIfInBounds_toArray, List.set_cons_zero, List.set_cons_succ])
              refine' tkH (i := 3) (v := _) rfl (Or.inl ⟨by rfl, ?hyd3⟩) H0 ?restd3
              case hyd3 =>
                intro w' hSw
                have s1 := hSw
                go_simp
                try with_reducible rfl
              (try simp only [Act.put, List.getElem_toArray, List.getElem_cons_succ, List.getElem_cons_zero, List.setIfInBounds_toArray, List.set_cons_zero, List.set_cons_succ])
              refine' tkH (i := 4) (v := _) rfl (Or.inl ⟨by rfl, ?hyd4⟩) H0 ?restd4
              case hyd4 =>
                intro w' hSw
                have s1 := hSw
                go_simp
                try with_reducible rfl
              (try simp only [Act.put, List.getElem_toArray, List.getElem_cons_succ, List.getElem_cons_zero, List.setIfInBounds_toArray, List.set_cons_zero, List.set_cons_succ])
              refine' tkH (i := 5) (v := _) rfl (Or.inl ⟨by rfl, ?hyd5⟩) H0 ?restd5
              case hyd5 =>
                intro w' hSw
                have s1 := hSw
                have hc := (show w'.cell? ⟨q, 3, none⟩ = some (.int .i64 Z) by rw [cell_of_row _ _ _ _ _ _ ((s1.block q (lt_of_block hx0) (by simp)).trans hx0)]; exact HR3.out)
                go_simp
                try with_reducible rfl
              (try simp only [Act.put, List.getElem_toArray, List.getElem_cons_succ, List.getElem_cons_zero, List.setIfInBounds_toArray, List.set_cons_zero, List.set_cons_succ])
              refine' tkH (i := 6) (v := _) rfl (Or.inl ⟨by rfl, ?hyd6⟩) H0 ?restd6
              case hyd6 =>
                intro w' hSw
                have s1 := hSw
                go_simp
                try with_reducible rfl
              (try simp only [Act.put, List.getElem_toArray, List.getElem_cons_succ, List.getElem_cons_zero, List.setIfInBounds_toArray, List.set_cons_zero, List.set_cons_succ])
              refine' tkH (i := 7) (v := _) rfl (Or.inl ⟨by rfl, ?hyd7⟩) H0 ?restd7
              case hyd7 =>
                intro w' hSw
                have s1 := hSw
                go_simp
                try with_reducible rfl
              (try simp only [Act.put, List.getElem_toArray, List.getElem_cons_succ, List.getElem_cons_zero, List.setIfInBounds_toArray, List.set_cons_zero, List.set_cons_succ])
              refine' tkH (i := 8) (v := _) rfl (Or.inl ⟨by rfl, ?hyd8⟩) H0 ?restd8
              case hyd8 =>
                intro w' hSw
                have s1 := hSw
                go_simp
                try with_reducible rfl
              (try simp only [Act.put, List.getElem_toArray, List.getElem_cons_succ, List.getElem_cons_zero, List.setIfInBounds_toArray, List.set_cons_zero, List.set_cons_succ])
              refine' tkH (i := 9) (v := _) rfl (Or.inl ⟨by rfl, ?hyd9⟩) H0 ?restd9
              case hyd9 =>
                intro w' hSw
                have s1 := hSw
                go_simp
                try with_reducible rfl
              (try simp only [Act.put, List.getElem_toArray, List.getElem_cons_succ, List.getElem_cons_zero, List.setIfInBounds_toArray, List.set_cons_zero, List.set_cons_succ])
              refine' tkH (i := 10) (v := _) rfl (Or.inl ⟨by rfl, ?hyd10⟩) H0 ?restd10
              case hyd10 =>
                intro w' hSw
                have s1 := hSw
                have hc := (show w'.cell? ⟨q, 22, none⟩ = some (.int .i64 B) by rw [cell_of_row _ _ _ _ _ _ ((s1.block q (lt_of_block hx0) (by simp)).trans hx0)]; exact HR22.out)
                go_simp
                try with_reducible rfl
              (try simp only [Act.put, List.getElem_toArray, List.getElem_cons_succ, List.getElem_cons_zero, List.setIfInBounds_toArray, List.set_cons_zero, List.set_cons_succ])
              refine' tkH (i := 11) (v := _) rfl (Or.inl ⟨by rfl, ?hyd11⟩) H0 ?restd11
              case hyd11 =>
                intro w' hSw
                have s1 := hSw
                go_simp
                try with_reducible rfl
              (try simp only [Act.put, List.getElem_toArray, List.getElem_cons_succ, List.getElem_cons_zero, List.setIfInBounds_toArray, List.set_cons_zero, List.set_cons_succ])
              refine' tkH (i := 12) (v := _) rfl (Or.inl ⟨by rfl, ?hyd12⟩) H0 ?restd12
              case hyd12 =>
                intro w' hSw
                have s1 := hSw
                have hc := (show w'.cell? ⟨q, 3, none⟩ = some (.int .i64 Z) by rw [cell_of_row _ _ _ _ _ _ ((s1.block q (lt_of_block hx0) (by simp)).trans hx0)]; exact HR3.out)
                go_simp
                try with_reducible rfl
              (try simp only [Act.put, List.getElem_toArray, List.getElem_cons_succ, List.getElem_cons_zero, List.setIfInBounds_toArray, List.set_cons_zero, List.set_cons_succ])
              refine wpAnyH_ready (rs := [13]) (by kernel_rfl) (by simp) (AllReadyH.cons rfl (fun K hK => ?_) AllReadyH.nil)
              go_simp
              refine (ref_size Z _).mono ?_
              rintro e wy13 ⟨rfl, Cy⟩
              go_simp
              refine hK.out _ _ (H0.trans Cy (by simp)) (fun H1 => ?_)
              clear hK K
              refine' tkH (i := 14) (v := _) rfl (Or.inl ⟨by rfl, ?hyd14⟩) H1 ?restd14
              case hyd14 =>
                intro w' hSw
                have s1 := hSw
                go_simp
                try with_reducible rfl
              (try simp only [Act.put, List.getElem_toArray, List.getElem_cons_succ, List.getElem_cons_zero, List.setIfInBounds_toArray, List.set_cons_zero, List.set_cons_succ])
              refine' tkH (i := 15) (v := _) rfl (Or.inl ⟨by rfl, ?hyd15⟩) H1 ?restd15
              case hyd15 =>
                intro w' hSw
                have s1 := hSw
                go_simp
                try with_reducible rfl
              (try simp only [Act.put, List.getElem_toArray, List.getElem_cons_succ, List.getElem_cons_zero, List.setIfInBounds_toArray, List.set_cons_zero, List.set_cons_succ])
              refine' tkH (i := 16) (v := _) rfl (Or.inl ⟨by rfl, ?hyd16⟩) H1 ?restd16
              case hyd16 =>
                intro w' hSw
                have s1 := hSw
                go_simp
                try with_reducible rfl
              (try simp only [Act.put, List.getElem_toArray, List.getElem_cons_succ, List.getElem_cons_zero, List.setIfInBounds_toArray, List.set_cons_zero, List.set_cons_succ])
              refine' tkH (i := 17) (v := _) rfl (Or.inl ⟨by rfl, ?hyd17⟩) H1 ?restd17
              case hyd17 =>
                intro w' hSw
                have s1 := hSw
                go_simp
                try with_reducible rfl
              (try simp only [Act.put, List.getElem_toArray, List.getElem_cons_succ, List.getElem_cons_zero, List.setIfInBounds_toArray, List.set_cons_zero, List.set_cons_succ])
              refine' tkH (i := 18) (v := _) rfl (Or.inl ⟨by rfl, ?hyd18⟩) H1 ?restd18
              case hyd18 =>
                intro w' hSw
                have s1 := hSw
                have hc := (show w'.cell? ⟨q, 23, none⟩ = some (.slice ao n c) by rw [cell_of_row _ _ _ _ _ _ ((s1.block q (lt_of_block hx0) (by simp)).trans hx0)]; exact HR23.out)
                go_simp
                try with_reducible rfl
              (try simp only [Act.put, List.getElem_toArray, List.getElem_cons_succ, List.getElem_cons_zero, List.setIfInBounds_toArray, List.set_cons_zero, List.set_cons_succ])
              refine' tkH (i := 19) (v := _) rfl (Or.inl ⟨by rfl, ?hyd19⟩) H1 ?restd19
              case hyd19 =>
                intro w' hSw
                have s1 := hSw
                go_simp
                try with_reducible rfl
              (try simp only [Act.put, List.getElem_toArray, List.getElem_cons_succ, List.getElem_cons_zero, List.setIfInBounds_toArray, List.set_cons_zero, List.set_cons_succ])
              refine' tkH (i := 20) (v := _) rfl (Or.inl ⟨by rfl, ?hyd20⟩) H1 ?restd20
              case hyd20 =>
                intro w' hSw
                have s1 := hSw
                go_simp
                try with_reducible rfl
              (try simp only [Act.put, List.getElem_toArray, List.getElem_cons_succ, List.getElem_cons_zero, List.setIfInBounds_toArray, List.set_cons_zero, List.set_cons_succ])
              refine' tkH (i := 21) (v := _) rfl (Or.inl ⟨by rfl, ?hyd21⟩) H1 ?restd21
              case hyd21 =>
                intro w' hSw
                have s1 := hSw
                have hc := (show w'.cell? ⟨q, 3, none⟩ = some (.int .i64 Z) by rw [cell_of_row _ _ _ _ _ _ ((s1.block q (lt_of_block hx0) (by simp)).trans hx0)]; exact HR3.out)
                go_simp
                try with_reducible rfl
              (try simp only [Act.put, List.getElem_toArray, List.getElem_cons_succ, List.getElem_cons_zero, List.setIfInBounds_toArray, List.set_cons_zero, List.set_cons_succ])
              refine wpAnyH_ready (rs := [22]) (by kernel_rfl) (by simp) (AllReadyH.cons rfl (fun K hK => ?_) AllReadyH.nil)
              go_simp
              refine (ref_count Z hZm _).mono ?_
              rintro e wy22 ⟨rfl, Cy⟩
              go_simp
              refine hK.out _ _ (H1.trans Cy (by simp)) (fun H2 => ?_)
              clear hK K
              refine' tkH (i := 23) (v := .bool true) rfl (Or.inl ⟨by rfl, ?hyd23⟩) H2 ?restd23
              case hyd23 =>
                intro w' hSw
                have s1 := hSw
                go_simp
                try simp [hE]
              (try simp only [Act.put, List.getElem_toArray, List.getElem_cons_succ, List.getElem_cons_zero, List.setIfInBounds_toArray, List.set_cons_zero, List.set_cons_succ])
              refine' tkH (i := 24) (v := _) rfl (Or.inl ⟨by rfl, ?hyd24⟩) H2 ?restd24
              case hyd24 =>
                intro w' hSw
                have s1 := hSw
                go_simp
                try with_reducible rfl
              (try simp only [Act.put, List.getElem_toArray, List.getElem_cons_succ, List.getElem_cons_zero, List.setIfInBounds_toArray, List.set_cons_zero, List.set_cons_succ])
              refine wpAnyH_done (by kernel_rfl) ?_ _
              have HCW := Lib.hid (C0.trans H2 (by simp))
              go_wp2_with fail
              go_ret
              exact ⟨by rw [HW.out]; rfl, HCW.out⟩
          · have HW : Hid (W = 4) := Lib.hid (by rw [HW2.out, if_neg (fun h => hC h.2.2.1)])
            clear HW2
            refine wp_region_held_drew (S := fun w' => Chg [] w1 w') (by kernel_rfl) (Chg.drewN [] w1 1) (fun H0 => ?_)
            refine' tkH (i := 0) (v := _) rfl (Or.inl ⟨by rfl, ?hyc0⟩) H0 ?restc0
            case hyc0 =>
              intro w' hSw
              have s1 := hSw
              go_simp
              try with_reducible rfl
            (try simp only [Act.put, List.getElem_toArray, List.getElem_cons_zero, List.setIfInBounds_toArray, List.set_cons_zero, List.set_cons_succ])
            refine' tkH (i := 1) (v := _) rfl (Or.inl ⟨by rfl, ?hyc1⟩) H0 ?restc1
            case hyc1 =>
              intro w' hSw
              have s1 := hSw
              have hc := (show w'.cell? ⟨q, 3, none⟩ = some (.int .i64 Z) by rw [cell_of_row _ _ _ _ _ _ ((s1.block q (lt_of_block hx0) (by simp)).trans hx0)]; exact HR3.out)
              go_simp
              try with_reducible rfl
            (try simp only [Act.put, List.getElem_toArray, List.getElem_cons_succ, List.getElem_cons_zero, List.setIfInBounds_toArray, List.set_cons_zero, List.set_cons_succ])
            refine' tkH (i := 2) (v := _) rfl (Or.inl ⟨by rfl, ?hyc2⟩) H0 ?restc2
            case hyc2 =>
              intro w' hSw
              have s1 := hSw
              go_simp
              try with_reducible rfl
            (try simp only [Act.put, List.getElem_toArray, List.getElem_cons_succ, List.getElem_cons_zero, List.setIfInBounds_toArray, List.set_cons_zero, List.set_cons_succ])
            refine' tkH (i := 3) (v := _) rfl (Or.inl ⟨by rfl, ?hyc3⟩) H0 ?restc3
            case hyc3 =>
              intro w' hSw
              have s1 := hSw
              go_simp
              try with_reducible rfl
            (try simp only [Act.put, List.getElem_toArray, List.getElem_cons_succ, List.getElem_cons_zero, List.setIfInBounds_toArray, List.set_cons_zero, List.set_cons_succ])
            refine' tkH (i := 4) (v := _) rfl (Or.inl ⟨by rfl, ?hyc4⟩) H0 ?restc4
            case hyc4 =>
              intro w' hSw
              have s1 := hSw
              go_simp
              try with_reducible rfl
            (try simp only [Act.put, List.getElem_toArray, List.getElem_cons_succ, List.getElem_cons_zero, List.setIfInBounds_toArray, List.set_cons_zero, List.set_cons_succ])
            refine' tkH (i := 5) (v := _) rfl (Or.inl ⟨by rfl, ?hyc5⟩) H0 ?restc5
            case hyc5 =>
              intro w' hSw
              have s1 := hSw
              have hc := (show w'.cell? ⟨q, 3, none⟩ = some (.int .i64 Z) by rw [cell_of_row _ _ _ _ _ _ ((s1.block q (lt_of_block hx0) (by simp)).trans hx0)]; exact HR3.out)
              go_simp
              try with_reducible rfl
            (try simp only [Act.put, List.getElem_toArray, List.getElem_cons_succ, List.getElem_cons_zero, List.setIfInBounds_toArray, List.set_cons_zero, List.set_cons_succ])
            refine' tkH (i := 6) (v := _) rfl (Or.inl ⟨by rfl, ?hyc6⟩) H0 ?restc6
            case hyc6 =>
              intro w' hSw
              have s1 := hSw
              go_simp
              try with_reducible rfl
            (try simp only [Act.put, List.getElem_toArray, List.getElem_cons_succ, List.getElem_cons_zero, List.setIfInBounds_toArray, List.set_cons_zero, List.set_cons_succ])
            refine' tkH (i := 7) (v := _) rfl (Or.inl ⟨by rfl, ?hyc7⟩) H0 ?restc7
            case hyc7 =>
              intro w' hSw
              have s1 := hSw
              go_simp
              try with_reducible rfl
            (try simp only [Act.put, List.getElem_toArray, List.getElem_cons_succ, List.getElem_cons_zero, List.setIfInBounds_toArray, List.set_cons_zero, List.set_cons_succ])
            refine' tkH (i := 8) (v := _) rfl (Or.inl ⟨by rfl, ?hyc8⟩) H0 ?restc8
            case hyc8 =>
              intro w' hSw
              have s1 := hSw
              go_simp
              try with_reducible rfl
            (try simp only [Act.put, List.getElem_toArray, List.getElem_cons_succ, List.getElem_cons_zero, List.setIfInBounds_toArray, List.set_cons_zero, List.set_cons_succ])
            refine' tkH (i := 9) (v := _) rfl (Or.inl ⟨by rfl, ?hyc9⟩) H0 ?restc9
            case hyc9 =>
              intro w' hSw
              have s1 := hSw
              go_simp
              try with_reducible rfl
            (try simp only [Act.put, List.getElem_toArray, List.getElem_cons_succ, List.getElem_cons_zero, List.setIfInBounds_toArray, List.set_cons_zero, List.set_cons_succ])
            refine' tkH (i := 10) (v := _) rfl (Or.inl ⟨by rfl, ?hyc10⟩) H0 ?restc10
            case hyc10 =>
              intro w' hSw
              have s1 := hSw
              have hc := (show w'.cell? ⟨q, 22, none⟩ = some (.int .i64 B) by rw [cell_of_row _ _ _ _ _ _ ((s1.block q (lt_of_block hx0) (by simp)).trans hx0)]; exact HR22.out)
              go_simp
              try with_reducible rfl
            (try simp only [Act.put, List.getElem_toArray, List.getElem_cons_succ, List.getElem_cons_zero, List.setIfInBounds_toArray, List.set_cons_zero, List.set_cons_succ])
            refine' tkH (i := 11) (v := _) rfl (Or.inl ⟨by rfl, ?hyc11⟩) H0 ?restc11
            case hyc11 =>
              intro w' hSw
              have s1 := hSw
              go_simp
              try with_reducible rfl
            (try simp only [Act.put, List.getElem_toArray, List.getElem_cons_succ, List.getElem_cons_zero, List.setIfInBounds_toArray, List.set_cons_zero, List.set_cons_succ])
            refine' tkH (i := 12) (v := _) rfl (Or.inl ⟨by rfl, ?hyc12⟩) H0 ?restc12
            case hyc12 =>
              intro w' hSw
              have s1 := hSw
              have hc := (show w'.cell? ⟨q, 3, none⟩ = some (.int .i64 Z) by rw [cell_of_row _ _ _ _ _ _ ((s1.block q (lt_of_block hx0) (by simp)).trans hx0)]; exact HR3.out)
              go_simp
              try with_reducible rfl
            (try simp only [Act.put, List.getElem_toArray, List.getElem_cons_succ, List.getElem_cons_zero, List.setIfInBounds_toArray, List.set_cons_zero, List.set_cons_succ])
            refine wpAnyH_ready (rs := [13]) (by kernel_rfl) (by simp) (AllReadyH.cons rfl (fun K hK => ?_) AllReadyH.nil)
            go_simp
            refine (ref_size Z _).mono ?_
            rintro e wy13 ⟨rfl, Cy⟩
            go_simp
            refine hK.out _ _ (H0.trans Cy (by simp)) (fun H1 => ?_)
            clear hK K
            refine' tkH (i := 14) (v := .bool true) rfl (Or.inl ⟨by rfl, ?hyc14⟩) H1 ?restc14
            case hyc14 =>
              intro w' hSw
              have s1 := hSw
              go_simp
              try simp [hC]
            (try simp only [Act.put, List.getElem_toArray, List.getElem_cons_succ, List.getElem_cons_zero, List.setIfInBounds_toArray, List.set_cons_zero, List.set_cons_succ])
            refine' tkH (i := 15) (v := _) rfl (Or.inl ⟨by rfl, ?hyc15⟩) H1 ?restc15
            case hyc15 =>
              intro w' hSw
              have s1 := hSw
              go_simp
              try with_reducible rfl
            (try simp only [Act.put, List.getElem_toArray, List.getElem_cons_succ, List.getElem_cons_zero, List.setIfInBounds_toArray, List.set_cons_zero, List.set_cons_succ])
            refine' tkH (i := 16) (v := _) rfl (Or.inl ⟨by rfl, ?hyc16⟩) H1 ?restc16
            case hyc16 =>
              intro w' hSw
              have s1 := hSw
              go_simp
              try with_reducible rfl
            (try simp only [Act.put, List.getElem_toArray, List.getElem_cons_succ, List.getElem_cons_zero, List.setIfInBounds_toArray, List.set_cons_zero, List.set_cons_succ])
            refine tkH (i := 17) (v := undef) rfl (Or.inr ⟨by rfl, rfl⟩) H1 ?_
            (try simp only [Act.put, List.getElem_toArray, List.getElem_cons_succ, List.getElem_cons_zero, List.setIfInBounds_toArray, List.set_cons_zero, List.set_cons_succ])
            refine tkH (i := 18) (v := undef) rfl (Or.inr ⟨by rfl, rfl⟩) H1 ?_
            (try simp only [Act.put, List.getElem_toArray, List.getElem_cons_succ, List.getElem_cons_zero, List.setIfInBounds_toArray, List.set_cons_zero, List.set_cons_succ])
            refine tkH (i := 19) (v := undef) rfl (Or.inr ⟨by rfl, rfl⟩) H1 ?_
            (try simp only [Act.put, List.getElem_toArray, List.getElem_cons_succ, List.getElem_cons_zero, List.setIfInBounds_toArray, List.set_cons_zero, List.set_cons_succ])
            refine tkH (i := 20) (v := undef) rfl (Or.inr ⟨by rfl, rfl⟩) H1 ?_
            (try simp only [Act.put, List.getElem_toArray, List.getElem_cons_succ, List.getElem_cons_zero, List.setIfInBounds_toArray, List.set_cons_zero, List.set_cons_succ])
            refine tkH (i := 21) (v := undef) rfl (Or.inr ⟨by rfl, rfl⟩) H1 ?_
            (try simp only [Act.put, List.getElem_toArray, List.getElem_cons_succ, List.getElem_cons_zero, List.setIfInBounds_toArray, List.set_cons_zero, List.set_cons_succ])
            refine tkH (i := 22) (v := undef) rfl (Or.inr ⟨by rfl, rfl⟩) H1 ?_
            (try simp only [Act.put, List.getElem_toArray, List.getElem_cons_succ, List.getElem_cons_zero, List.setIfInBounds_toArray, List.set_cons_zero, List.set_cons_succ])
            refine tkH (i := 23) (v := undef) rfl (Or.inr ⟨by rfl, rfl⟩) H1 ?_
            (try simp only [Act.put, List.getElem_toArray, List.getElem_cons_succ, List.getElem_cons_zero, List.setIfInBounds_toArray, List.set_cons_zero, List.set_cons_succ])
            refine' tkH (i := 24) (v := _) rfl (Or.inl ⟨by rfl, ?hyc24⟩) H1 ?restc24
            case hyc24 =>
              intro w' hSw
              have s1 := hSw
              go_simp
              try with_reducible rfl
            (try simp only [Act.put, List.getElem_toArray, List.getElem_cons_succ, List.getElem_cons_zero, List.setIfInBounds_toArray, List.set_cons_zero, List.set_cons_succ])
            refine wpAnyH_done (by kernel_rfl) ?_ _
            have HCW := Lib.hid (C0.trans H1 (by simp))
            go_wp2_with fail
            go_ret
            exact ⟨by rw [HW.out]; rfl, HCW.out⟩
    · have HW : Hid (W = 11) := Lib.hid (by rw [hw, if_pos (.inr hk)])
      clear hw
      go_wp2_with fail
      go_ret
      exact ⟨by rw [HW.out]; rfl, C0⟩
set_option maxRecDepth 100000 in
set_option maxHeartbeats 4000000 in
theorem rf_length (RC : Array Value) (r : RecV) (ao : Option Addr) (c : Nat) (i : Int) (w : World) (H : RecIs w RC r ao c) : Calls Tryd.prog 47 #[.agg RC, .int .i64 i] w fun e w' => e = .returned (.int .i64 (r.len i)) ∧ Chg [] w w' := by
  have hx0 := heap_alloc_new w (.cells RC 77)
  have C0 := Chg.alloc [] w (.cells RC 77)
  have KW := Lib.hid (fun w' (C : Chg [] w w') => rf_wanted RC r ao c w' (H.chg0 C))
  have hlen : r.len i = if r.want ≠ 0 ∨ i < 0 ∨ (r.L.length : Int) ≤ i then 0 else min r.bs (r.size - i * r.bs) := rfl
  have hgood := fun h => RecV.good_of (r := r) h
  obtain ⟨K, hK⟩ : ∃ K, r.kind = K := ⟨_, rfl⟩
  obtain ⟨D, hD⟩ : ∃ D, r.del = D := ⟨_, rfl⟩
  obtain ⟨Z, hZ⟩ : ∃ Z, r.size = Z := ⟨_, rfl⟩
  obtain ⟨B, hB⟩ : ∃ B, r.bs = B := ⟨_, rfl⟩
  obtain ⟨n, hn⟩ : ∃ n, r.L.length = n := ⟨_, rfl⟩
  have HR1 : Hid (RC[1]? = some (.int .i64 K)) := Lib.hid (by rw [← hK]; exact H.kind)
  have HR2 : Hid (RC[2]? = some (.bool D)) := Lib.hid (by rw [← hD]; exact H.del)
  have HR3 : Hid (RC[3]? = some (.int .i64 Z)) := Lib.hid (by rw [← hZ]; exact H.long)
  have HR22 : Hid (RC[22]? = some (.int .i64 B)) := Lib.hid (by rw [← hB]; exact H.bs)
  have HR23 : Hid (RC[23]? = some (.slice ao n c)) := Lib.hid (by rw [← hn]; exact H.bl)
  have HRS := Lib.hid H.size
  obtain ⟨W, hW⟩ : ∃ W, r.want = W := ⟨_, rfl⟩
  rw [hW, hn, hB, hZ] at hlen
  rw [hW] at KW hgood
  have HGD : Hid (W = 0 → ∃ N : Nat, (∃ Bn Pn : Nat, Z = (N : Int) ∧ N ≤ 4096 ∧ B = (Bn : Int) ∧ ∀ k : Nat, k < n ↔ k * Bn < N)) := Lib.hid (fun h => by
    obtain ⟨N, g⟩ := hgood h
    refine ⟨N, bszN N, 0, by rw [← hZ]; exact g.size, g.le, by rw [← hB]; exact g.bs, fun k => ?_⟩
    rw [← hn, g.len]
    exact cntN_lt g.le k)
  have HNB : Hid (W = 0 → n ≤ 32) := Lib.hid (fun h => by
    obtain ⟨N, g⟩ := hgood h
    rw [← hn, g.len]
    exact cntN_le N)
  generalize r.len i = X at *
  clear hK hD hZ hB hn hW hgood H
  go_enter Tryd.func47, Tryd.ntmps47
  go_upto_region 1 with (fail)
  obtain ⟨q, hq⟩ : ∃ q, w.heap.size = q := ⟨_, rfl⟩
  rw [hq] at hx0 ⊢
  generalize w.alloc (.cells RC 77) = w1 at *
  have hldr := run_loadAt_rec w1 q RC _ hx0 HRS.out
  have HX := Lib.hid hx0
  have HC0 := Lib.hid C0
  clear hq
  go_wp2_with (refine wpList_load_y 77 (.tmp 2) rfl (by go_simp) (.pointer (some ⟨q, 0, none⟩)) (.agg RC) hldr rfl ?_)
  refine (KW.out w1 C0).mono ?_
  rintro e w2 ⟨rfl, C2⟩
  have HC2 := Lib.hid (HC0.out.trans C2 (by simp))
  have hx2 := (C2.block q (lt_of_block hx0) (by simp)).trans hx0
  have c3 : w2.cell? ⟨q, 3, none⟩ = some (.int .i64 Z) := by rw [cell_of_row _ _ _ _ _ _ hx2]; exact HR3.out
  have c22 : w2.cell? ⟨q, 22, none⟩ = some (.int .i64 B) := by rw [cell_of_row _ _ _ _ _ _ hx2]; exact HR22.out
  have c23 : w2.cell? ⟨q, 23, none⟩ = some (.slice ao n c) := by rw [cell_of_row _ _ _ _ _ _ hx2]; exact HR23.out
  clear C0 C2 hx2 hx0 hldr
  by_cases hw0 : W = 0
  · subst hw0
    by_cases hi : i < 0
    · have HX0 : Hid (X = 0) := Lib.hid (by rw [hlen, if_pos (.inr (.inl hi))])
      clear hlen
      go_wp2_with fail
      go_ret
      exact ⟨by rw [HX0.out]; rfl, HC2.out⟩
    · obtain ⟨k, rfl⟩ : ∃ k : Nat, i = (k : Int) := ⟨i.toNat, by omega⟩
      by_cases hk : n ≤ k
      · have HX0 : Hid (X = 0) := Lib.hid (by rw [hlen, if_pos (.inr (.inr (by omega)))])
        have hk2 : (k : Int) ≥ n := by omega
        clear hlen hi
        go_wp2_with fail
        go_ret
        exact ⟨by rw [HX0.out]; rfl, HC2.out⟩
      · obtain ⟨N, Bn, _, rfl, hN, rfl, hall⟩ := HGD.out rfl
        have hP1 := (hall k).1 (by omega)
        have hP2 : k * Bn ≤ 4096 := Nat.le_trans (Nat.le_of_lt hP1) hN
        have hP3 := hall (k + 1)
        rw [Nat.add_mul, Nat.one_mul] at hP3
        obtain ⟨P, hP⟩ : ∃ P, k * Bn = P := ⟨_, rfl⟩
        have hPi : (k : Int) * (Bn : Int) = (P : Int) := by rw [← hP]; simp
        rw [hP] at hP1 hP2 hP3
        have HX0 : Hid (X = min (Bn : Int) ((N : Int) - P)) := Lib.hid (by rw [hlen, if_neg (by omega), hPi])
        have hk2 : ¬ (k : Int) ≥ n := by omega
        have hw1 : wrap64 ((k : Int) * (Bn : Int)) = (P : Int) := by rw [hPi]; unfold wrap64; omega
        have hw2 : IntKind.i64.wrap ((k : Int) * (Bn : Int)) = (P : Int) := by rw [hPi, IntKind.wrap_i64]; omega
        have hw3 : wrap64 ((N : Int) - (P : Int)) = (N : Int) - P := by unfold wrap64; omega
        clear hlen hi hall HGD hP hPi
        have hw5 : wrap64 ((k : Int) + 1) = (k : Int) + 1 := by unfold wrap64; have := HNB.out rfl; omega
        by_cases hm : k + 1 < n
        · have HX1 : Hid (X = (Bn : Int)) := Lib.hid (by have := hP3.1 hm; rw [HX0.out]; omega)
          have hm2 : (k : Int) + 1 < n := by omega
          clear HX0 hP3
          go_wp2_with fail
          go_ret
          exact ⟨by rw [HX1.out]; rfl, HC2.out⟩
        · have HX1 : Hid (X = (N : Int) - P) := Lib.hid (by have := mt hP3.2 hm; rw [HX0.out]; omega)
          have hm2 : ¬ (k : Int) + 1 < n := by omega
          clear HX0 hP3
          go_wp2_with fail
          go_ret
          exact ⟨by rw [HX1.out]; rfl, HC2.out⟩
  · have HX0 : Hid (X = 0) := Lib.hid (by rw [hlen, if_pos (.inl hw0)])
    clear hlen
    go_wp2_with fail
    go_ret
    exact ⟨by rw [HX0.out]; rfl, HC2.out⟩
end Go.Proofs.YtfdhpjflkimihaaDoor
/- The copier's placed and right, and the reference's, walked. No conditions beyond those that each statement types. -/
namespace Go.Proofs.YtfdhpjflkimihaaDoor
open Go.RowKit

/-- What stands at a block's place. -/
def plT (N : Nat) (T : List UInt8) (i : Nat) : List UInt8 := if i * bszN N + min (bszN N) (N - i * bszN N) ≤ T.length then (T.drop (i * bszN N)).take (min (bszN N) (N - i * bszN N)) else []
/-- Bytes that lie in what was handed in, or none. -/
def PartOf (w : World) (ta : Option Addr) (xs : List UInt8) (e : Ending) (w' : World) : Prop :=
  ∃ po pc, e = .returned (.slice po xs.length pc) ∧ Src w' po (bvs xs) ∧ (po = none → pc = 0) ∧ xs.length ≤ pc ∧ (∀ a, po = some a → 0 < xs.length ∧ ∃ t, ta = some t ∧ a.block = t.block) ∧ Chg [] w w'
theorem plT_in {N : Nat} {T : List UInt8} {i : Nat} (h : i * bszN N + min (bszN N) (N - i * bszN N) ≤ T.length) : plT N T i = (T.drop (i * bszN N)).take (min (bszN N) (N - i * bszN N)) ∧ (plT N T i).length = min (bszN N) (N - i * bszN N) := by
  have e : plT N T i = (T.drop (i * bszN N)).take (min (bszN N) (N - i * bszN N)) := by unfold plT; rw [if_pos h]
  refine ⟨e, ?_⟩
  rw [e, List.length_take, List.length_drop]
  omega
theorem plT_src {w : World} {a : Addr} {T : List UInt8} (h : Src w (some a) (bvs T)) (p m : Nat) : Src w (some (a.add p)) (bvs ((T.drop p).take m)) := by
  have := (h.drop p).take m
  rwa [← bvs_drop, ← bvs_take] at this
/-- Are bytes a block's? -/
def rightB (r : RecV) (i : Nat) (xs : List UInt8) : Bool := decide ((xs.length : Int) = r.len i) && sameHash (digest xs) (r.L.getD i fun _ => 0)
theorem wrap_two {P M : Nat} (h : P ≤ 4096) (h2 : M ≤ 128) : (wrap64 (P : Int) = P ∧ IntKind.i64.wrap (P : Int) = P) ∧ wrap64 ((P : Int) + (M : Int)) = (P : Int) + (M : Int) ∧ IntKind.i64.wrap ((P : Int) + (M : Int)) = (P : Int) + (M : Int) :=
  ⟨⟨by unfold wrap64; omega, by rw [IntKind.wrap_i64]; omega⟩, by unfold wrap64; omega, by rw [IntKind.wrap_i64]; omega⟩

set_option maxRecDepth 100000 in
set_option maxHeartbeats 4000000 in
theorem cp_placed (RC : Array Value) (r : RecV) (ao : Option Addr) (c : Nat) (N : Nat) (g : r.Good N) (i : Nat) (hi : i < cntN N) (ta : Option Addr) (tc : Nat) (T : List UInt8) (w : World) (H : RecIs w RC r ao c) (hs : Src w ta (bvs T)) (hT : T.length ≤ 9223372036854775807) (htc : T.length ≤ tc) (_h0 : ta = none → tc = 0) :
    Calls Tryd.prog 87 #[.agg RC, .int .i64 i, .slice ta T.length tc] w (PartOf w ta (plT N T i)) := by
  have hx0 := heap_alloc_new w (.cells RC 77)
  have C0 := Chg.alloc [] w (.cells RC 77)
  have hlt := (cntN_lt g.le i).1 hi
  have hle := g.le
  have hlen := g.lenP hi
  have hbl := bszN_le N
  have hbp := (bszN_pos g.le).1
  have HPL := Lib.hid (fun h => plT_in (N := N) (T := T) (i := i) h)
  have HPN : Hid (¬ i * bszN N + min (bszN N) (N - i * bszN N) ≤ T.length → plT N T i = []) := Lib.hid (fun h => by unfold plT; rw [if_neg h])
  obtain ⟨B, hB⟩ : ∃ B, bszN N = B := ⟨_, rfl⟩
  have hbs := H.bs
  rw [g.bs] at hbs
  rw [hB] at hlt hlen hbl hbp HPL HPN hbs
  obtain ⟨P, hP⟩ : ∃ P, i * B = P := ⟨_, rfl⟩
  rw [hP] at hlt hlen HPL HPN
  have hPi : (i : Int) * (B : Int) = (P : Int) := by rw [← hP]; simp
  obtain ⟨M, hM⟩ : ∃ M, min B (N - P) = M := ⟨_, rfl⟩
  rw [hM] at hlen HPL HPN
  have hM1 : 0 < M ∧ M ≤ 128 := by omega
  have KL := Lib.hid (fun w' (C : Chg [] w w') => by
    have := cp_length RC r ao c (i : Int) w' (H.chg0 C)
    rewrite [hlen] at this
    exact this)
  obtain ⟨tn, htn⟩ : ∃ tn, T.length = tn := ⟨_, rfl⟩
  have HTN := Lib.hid htn
  rw [htn] at htc hT HPL HPN ⊢
  have HBS := Lib.hid hbs
  have HRS := Lib.hid H.size
  have HSR := Lib.hid (fun w' (C : Chg [] w w') => hs.chg C (by simp))
  have HS0 := Lib.hid hs.lt
  obtain ⟨⟨p1, p2⟩, p3, p4⟩ := wrap_two (Nat.le_trans (Nat.le_of_lt hlt) hle) hM1.2
  generalize plT N T i = X at *
  clear H hs hbs htn hP hM hlen hB g hi hbl hbp _h0
  go_enter Tryd.func87, Tryd.ntmps87
  go_upto_region 1 with (fail)
  obtain ⟨q, hq⟩ : ∃ q, w.heap.size = q := ⟨_, rfl⟩
  rw [hq] at hx0 ⊢
  generalize w.alloc (.cells RC 77) = w1 at *
  have c22 : w1.cell? ⟨q, 22, none⟩ = some (.int .i64 B) := by rw [cell_of_row _ _ _ _ _ _ hx0]; exact HBS.out
  have hldr := run_loadAt_rec w1 q RC _ hx0 HRS.out
  have HC0 := Lib.hid C0
  clear hq C0 hx0
  go_wp2_with (refine wpList_load_y 77 (.tmp 3) rfl (by go_simp) (.pointer (some ⟨q, 0, none⟩)) (.agg RC) hldr rfl ?_)
  refine (KL.out w1 HC0.out).mono ?_
  rintro e w2 ⟨rfl, C2⟩
  have HC2 := Lib.hid (HC0.out.trans C2 (by simp))
  clear C2 hldr c22
  by_cases hto : P + M ≤ tn
  · have hto2 : ¬ (P : Int) + (M : Int) > tn := by omega
    obtain ⟨hX, hXl⟩ := HPL.out hto
    obtain ⟨a, rfl, _⟩ := HS0.out (by rw [bvs_length, HTN.out]; omega)
    have HX := Lib.hid hX
    have HXL := Lib.hid hXl
    have z1 : (P : Int) ≤ (P : Int) + (M : Int) := by omega
    have z2 : (P : Int) + (M : Int) ≤ tc := by omega
    have z3 : (P : Int) + (M : Int) ≤ tn := by omega
    clear hX hXl HPL HPN
    have hpm : P + M - P = M := Nat.add_sub_cancel_left P M
    have hcap : M ≤ tc - P := by omega
    go_wp2_with fail
    rw [hpm]
    go_ret
    exact ⟨some (a.add P), tc - P, by rw [HXL.out]; rfl, by rw [HX.out]; exact plT_src (HSR.out w2 HC2.out) P M, fun h => (by cases h), by rw [HXL.out]; exact hcap, fun a2 ha => ⟨by rw [HXL.out]; exact hM1.1, a, rfl, by cases ha; exact addr_add_block a P⟩, HC2.out⟩
  · have hto2 : (P : Int) + (M : Int) > tn := by omega
    have HX := Lib.hid (HPN.out hto)
    clear HPL HPN
    go_wp2_with fail
    go_ret
    exact ⟨none, 0, by rw [HX.out]; rfl, by rw [HX.out]; exact Src.empty _ _, fun _ => rfl, by rw [HX.out]; exact Nat.le_refl _, fun a ha => (by cases ha), HC2.out⟩
set_option maxRecDepth 100000 in
set_option maxHeartbeats 4000000 in
theorem rf_placed (RC : Array Value) (r : RecV) (ao : Option Addr) (c : Nat) (N : Nat) (g : r.Good N) (i : Nat) (hi : i < cntN N) (ta : Option Addr) (tc : Nat) (T : List UInt8) (w : World) (H : RecIs w RC r ao c) (hs : Src w ta (bvs T)) (hT : T.length ≤ 9223372036854775807) (htc : T.length ≤ tc) (_h0 : ta = none → tc = 0) :
    Calls Tryd.prog 82 #[.agg RC, .int .i64 i, .slice ta T.length tc] w (MadeB w (plT N T i)) := by
  have hx0 := heap_alloc_new w (.cells RC 77)
  have C0 := Chg.alloc [] w (.cells RC 77)
  have hlt := (cntN_lt g.le i).1 hi
  have hle := g.le
  have hlen := g.lenP hi
  have hbl := bszN_le N
  have hbp := (bszN_pos g.le).1
  have HPL := Lib.hid (fun h => plT_in (N := N) (T := T) (i := i) h)
  have HPN : Hid (¬ i * bszN N + min (bszN N) (N - i * bszN N) ≤ T.length → plT N T i = []) := Lib.hid (fun h => by unfold plT; rw [if_neg h])
  obtain ⟨B, hB⟩ : ∃ B, bszN N = B := ⟨_, rfl⟩
  have hbs := H.bs
  rw [g.bs] at hbs
  rw [hB] at hlt hlen hbl hbp HPL HPN hbs
  obtain ⟨P, hP⟩ : ∃ P, i * B = P := ⟨_, rfl⟩
  rw [hP] at hlt hlen HPL HPN
  have hPi : (i : Int) * (B : Int) = (P : Int) := by rw [← hP]; simp
  obtain ⟨M, hM⟩ : ∃ M, min B (N - P) = M := ⟨_, rfl⟩
  rw [hM] at hlen HPL HPN
  have hM1 : 0 < M ∧ M ≤ 128 := by omega
  have KL := Lib.hid (fun w' (C : Chg [] w w') => by
    have := rf_length RC r ao c (i : Int) w' (H.chg0 C)
    rewrite [hlen] at this
    exact this)
  obtain ⟨tn, htn⟩ : ∃ tn, T.length = tn := ⟨_, rfl⟩
  have HTN := Lib.hid htn
  rw [htn] at htc hT HPL HPN ⊢
  have HBS := Lib.hid hbs
  have HRS := Lib.hid H.size
  have HSR := Lib.hid (fun w' (C : Chg [] w w') => hs.chg C (by simp))
  have HS0 := Lib.hid hs.lt
  obtain ⟨⟨p1, p2⟩, p3, p4⟩ := wrap_two (Nat.le_trans (Nat.le_of_lt hlt) hle) hM1.2
  generalize plT N T i = X at *
  clear H hs hbs htn hP hM hlen hB g hi hbl hbp _h0
  go_enter Tryd.func82, Tryd.ntmps82
  go_upto_region 1 with (fail)
  obtain ⟨q, hq⟩ : ∃ q, w.heap.size = q := ⟨_, rfl⟩
  rw [hq] at hx0 ⊢
  generalize w.alloc (.cells RC 77) = w1 at *
  have c22 : w1.cell? ⟨q, 22, none⟩ = some (.int .i64 B) := by rw [cell_of_row _ _ _ _ _ _ hx0]; exact HBS.out
  have hldr := run_loadAt_rec w1 q RC _ hx0 HRS.out
  have HC0 := Lib.hid C0
  clear hq C0 hx0
  go_wp2_with (refine wpList_load_y 77 (.tmp 3) rfl (by go_simp) (.pointer (some ⟨q, 0, none⟩)) (.agg RC) hldr rfl ?_)
  refine (KL.out w1 HC0.out).mono ?_
  rintro e w2 ⟨rfl, C2⟩
  have HC2 := Lib.hid (HC0.out.trans C2 (by simp))
  clear C2 hldr c22
  by_cases hto : P + M ≤ tn
  · have hto2 : ¬ (P : Int) + (M : Int) > tn := by omega
    obtain ⟨hX, hXl⟩ := HPL.out hto
    obtain ⟨a, rfl, _⟩ := HS0.out (by rw [bvs_length, HTN.out]; omega)
    have HX := Lib.hid hX
    have HXL := Lib.hid hXl
    have z1 : (P : Int) ≤ (P : Int) + (M : Int) := by omega
    have z2 : (P : Int) + (M : Int) ≤ tc := by omega
    have z3 : (P : Int) + (M : Int) ≤ tn := by omega
    clear hX hXl HPL HPN
    have hpm : P + M - P = M := Nat.add_sub_cancel_left P M
    have hcap : M ≤ tc - P := by omega
    obtain ⟨i0, hi0, hz0, hz1, hz2⟩ := info_parts Tryd.infoU8'
    have hsr := plT_src (HSR.out w2 HC2.out) P M
    rw [← HX.out] at hsr
    have hbv : (bvs X).length = (P + M - P) * 1 := by rw [bvs_length, hpm, Nat.mul_one]; exact HXL.out
    go_wp2_with (at_builtin; go_loud (refine wpList_append_y (.tmp 23) (.tmp 29) 25 rfl rfl 5 i0 _ 1 1 Tryd.underlying25 hi0 hz0 hz1 hz2 rfl (by decide) (.slice none 0 0) 0 [] (World.ownsRow_nil _ _ _ _) (some (a.add P)) (P + M - P) (tc - P) (bvs X) hbv hsr (fun h => by cases h) (bvs_one _) (by unfold maxLen; omega) (by omega) rfl rfl ?_))
    intro a4 c4 w4 hown4 hgr4 hblk4
    have C4 : Chg [] w2 w4 := Chg.grown hgr4 (fun x hx => by cases hx)
    have HC4 := Lib.hid (HC2.out.trans C4 (by simp))
    have HO4 := Lib.hid hown4
    have HB4 : Hid (∀ k, (Value.slice a4 M c4).ownBlock = some k → w.heap.size ≤ k) := Lib.hid (fun k hk => by
      rcases hblk4 with h | h <;> rw [h] at hk
      · cases hk
      · rw [← Option.some.inj hk]
        exact HC2.out.size)
    clear hown4 hgr4 hblk4 C4 hi0 hz0 hz1 hz2 hsr hbv
    go_wp2_with fail
    go_ret
    exact ⟨a4, c4, by rw [HXL.out]; rfl, by rw [HXL.out]; exact HO4.out, by rw [HXL.out]; exact HB4.out, HC4.out⟩
  · have hto2 : (P : Int) + (M : Int) > tn := by omega
    have HX := Lib.hid (HPN.out hto)
    clear HPL HPN
    go_wp2_with fail
    go_ret
    exact ⟨none, 0, by rw [HX.out]; rfl, by rw [HX.out]; exact World.ownsRow_nil _ _ _ _, fun k hk => (by cases hk), HC2.out⟩
set_option maxRecDepth 100000 in
set_option maxHeartbeats 4000000 in
theorem cp_right (RC : Array Value) (r : RecV) (ao : Option Addr) (c : Nat) (N : Nat) (g : r.Good N) (i : Nat) (hi : i < cntN N) (bo : Option Addr) (bc : Nat) (xs : List UInt8) (w : World) (hL : Laid w) (H : RecIs w RC r ao c) (hs : Src w bo (bvs xs)) (hx : xs.length ≤ 1000000) (hbc : xs.length ≤ bc) :
    Calls Tryd.prog 90 #[.agg RC, .int .i64 i, .slice bo xs.length bc] w fun e w' => e = .returned (.bool (rightB r i xs)) ∧ Chg [] w w' := by
  have hx0 := heap_alloc_new w (.cells RC 77)
  have C0 := Chg.alloc [] w (.cells RC 77)
  obtain ⟨f, hf⟩ : ∃ f, r.L[i]? = some f := ⟨_, List.getElem?_eq_getElem (by rw [g.len]; exact hi)⟩
  have hlt := (cntN_lt g.le i).1 hi
  have hbp := (bszN_pos g.le).1
  obtain ⟨M, hM, hMp⟩ : ∃ M : Nat, r.len i = (M : Int) ∧ 0 < M := ⟨_, g.lenP hi, by omega⟩
  have HMP := Lib.hid hMp
  clear hlt hbp hMp
  have hrb : rightB r i xs = (decide ((xs.length : Int) = (M : Int)) && sameHash (digest xs) f) := by unfold rightB; rw [hM, List.getD, hf]; rfl
  obtain ⟨a, rfl, hab⟩ := H.src.lt (by rw [hvs_length, g.len]; omega)
  obtain ⟨Rf, hRf⟩ : ∃ Rf, hashC f = Rf := ⟨_, rfl⟩
  obtain ⟨sm, hsm⟩ : ∃ sm, sameHash (digest xs) f = sm := ⟨_, rfl⟩
  rw [hsm] at hrb
  have KL := Lib.hid (fun w' (C : Chg [] w w') => by
    have := cp_length RC r (some a) c (i : Int) w' (H.chg0 C)
    rewrite [hM] at this
    exact this)
  have KV := Lib.hid (fun (hp : 0 < xs.length) w' (C : Chg [] w w') => by
    have := blk_verify xs f bo bc w' (hL.chg C (by simp)) (hs.chg C (by simp)) hbc hx (fun a ha => by
      obtain ⟨a2, e, h1⟩ := hs.lt (by rw [bvs_length]; exact hp)
      rw [ha] at e
      cases e
      exact Nat.lt_of_lt_of_le h1 C.size)
    rewrite [hsm, hashV, hRf] at this
    exact this)
  have HLD := Lib.hid (fun w' (C : Chg [] w w') => by
    have := load_blk (H.src.chg C (by simp)) hf
    rewrite [hRf] at this
    exact this)
  obtain ⟨n, hn⟩ : ∃ n, r.L.length = n := ⟨_, rfl⟩
  have hin : i < n := by rw [← hn, g.len]; exact hi
  have hnc : n ≤ c := by rw [← hn]; exact H.cap
  have hin2 : (i : Int) < n := by omega
  have hbl := H.bl
  rw [hn] at hbl
  have HBL := Lib.hid hbl
  have HRS := Lib.hid H.size
  obtain ⟨X, hX⟩ : ∃ X, xs.length = X := ⟨_, rfl⟩
  rw [hX] at hrb KV ⊢
  have HRB := Lib.hid hrb
  generalize rightB r i xs = Y at *
  clear H hs hx hbc hL hf hM hRf hsm hn hbl hX g hrb hi
  go_enter Tryd.func90, Tryd.ntmps90
  go_upto_region 1 with (fail)
  obtain ⟨q, hq⟩ : ∃ q, w.heap.size = q := ⟨_, rfl⟩
  rw [hq] at hx0 hab ⊢
  generalize w.alloc (.cells RC 77) = w1 at *
  have hldr := run_loadAt_rec w1 q RC _ hx0 HRS.out
  have HC0 := Lib.hid C0
  have HX0 := Lib.hid hx0
  clear hq C0 hx0 hab
  go_wp2_with (refine wpList_load_y 77 (.tmp 3) rfl (by go_simp) (.pointer (some ⟨q, 0, none⟩)) (.agg RC) hldr rfl ?_)
  refine (KL.out w1 HC0.out).mono ?_
  rintro e w2 ⟨rfl, C2⟩
  have HC2 := Lib.hid (HC0.out.trans C2 (by simp))
  have c23 : w2.cell? ⟨q, 23, none⟩ = some (.slice (some a) n c) := by rw [cell_of_row _ _ _ _ _ _ ((C2.block q (lt_of_block HX0.out) (by simp)).trans HX0.out)]; exact HBL.out
  clear C2 hldr
  by_cases hm : X = M
  · have HY : Hid (Y = sm) := Lib.hid (by rw [HRB.out, hm, decide_eq_true rfl, Bool.true_and])
    have hm2 : (X : Int) = (M : Int) := by omega
    have hldh := HLD.out w2 HC2.out
    clear HRB hm
    go_wp2_with (refine wpList_load_y 32 (.tmp 18) rfl (by go_simp) (.pointer (some (a.add (i * 32)))) (.agg Rf) hldh rfl ?_)
    refine (KV.out (by have := HMP.out; omega) w2 HC2.out).mono ?_
    rintro e w3 ⟨rfl, C3⟩
    have HC3 := Lib.hid (HC2.out.trans C3 (by simp))
    go_wp2_with fail
    go_ret
    exact ⟨by rw [HY.out]; rfl, HC3.out⟩
  · have hm2 : ¬ (X : Int) = (M : Int) := by omega
    have HY : Hid (Y = false) := Lib.hid (by rw [HRB.out, decide_eq_false hm2]; rfl)
    have hm3 : ¬ X = M := hm
    clear HRB hm
    go_wp2_with fail
    go_ret
    exact ⟨by rw [HY.out]; rfl, HC2.out⟩
set_option maxRecDepth 100000 in
set_option maxHeartbeats 4000000 in
theorem rf_right (RC : Array Value) (r : RecV) (ao : Option Addr) (c : Nat) (N : Nat) (g : r.Good N) (i : Nat) (hi : i < cntN N) (bo : Option Addr) (bc : Nat) (xs : List UInt8) (w : World) (H : RecIs w RC r ao c) (hs : Src w bo (bvs xs)) (hx : xs.length ≤ 1000000) (h0 : bo = none → bc = 0) :
    Calls Tryd.prog 83 #[.agg RC, .int .i64 i, .slice bo xs.length bc] w fun e w' => e = .returned (.bool (rightB r i xs)) ∧ Chg [] w w' := by
  have hx0 := heap_alloc_new w (.cells RC 77)
  have C0 := Chg.alloc [] w (.cells RC 77)
  obtain ⟨f, hf⟩ : ∃ f, r.L[i]? = some f := ⟨_, List.getElem?_eq_getElem (by rw [g.len]; exact hi)⟩
  have hlt := (cntN_lt g.le i).1 hi
  have hbp := (bszN_pos g.le).1
  obtain ⟨M, hM, hMp⟩ : ∃ M : Nat, r.len i = (M : Int) ∧ 0 < M := ⟨_, g.lenP hi, by omega⟩
  have HMP := Lib.hid hMp
  clear hlt hbp hMp
  have hrb : rightB r i xs = (decide ((xs.length : Int) = (M : Int)) && sameHash (digest xs) f) := by unfold rightB; rw [hM, List.getD, hf]; rfl
  obtain ⟨a, rfl, hab⟩ := H.src.lt (by rw [hvs_length, g.len]; omega)
  obtain ⟨Rf, hRf⟩ : ∃ Rf, hashC f = Rf := ⟨_, rfl⟩
  obtain ⟨sm, hsm⟩ : ∃ sm, sameHash (digest xs) f = sm := ⟨_, rfl⟩
  rw [hsm] at hrb
  have KL := Lib.hid (fun w' (C : Chg [] w w') => by
    have := rf_length RC r (some a) c (i : Int) w' (H.chg0 C)
    rewrite [hM] at this
    exact this)
  obtain ⟨Dg, hDg⟩ : ∃ Dg, hashC (digest xs) = Dg := ⟨_, rfl⟩
  have KV := Lib.hid (fun w' (C : Chg [] w w') => by
    have := ref_sum xs bo bc w' (hs.chg C (by simp)) h0 hx
    rewrite [hashV, hDg] at this
    exact this)
  have HQ := Lib.hid (fun w' => by
    have := run_eq_hash (digest xs) f w'
    rewrite [hsm, hashV, hashV, hDg, hRf] at this
    exact this)
  have HLD := Lib.hid (fun w' (C : Chg [] w w') => by
    have := load_blk (H.src.chg C (by simp)) hf
    rewrite [hRf] at this
    exact this)
  obtain ⟨n, hn⟩ : ∃ n, r.L.length = n := ⟨_, rfl⟩
  have hin : i < n := by rw [← hn, g.len]; exact hi
  have hnc : n ≤ c := by rw [← hn]; exact H.cap
  have hin2 : (i : Int) < n := by omega
  have hbl := H.bl
  rw [hn] at hbl
  have HBL := Lib.hid hbl
  have HRS := Lib.hid H.size
  obtain ⟨X, hX⟩ : ∃ X, xs.length = X := ⟨_, rfl⟩
  rw [hX] at hrb KV ⊢
  have HRB := Lib.hid hrb
  generalize rightB r i xs = Y at *
  clear H hs hx h0 hDg hf hM hRf hsm hn hbl hX g hrb hi
  go_enter Tryd.func83, Tryd.ntmps83
  go_upto_region 1 with (fail)
  obtain ⟨q, hq⟩ : ∃ q, w.heap.size = q := ⟨_, rfl⟩
  rw [hq] at hx0 hab ⊢
  generalize w.alloc (.cells RC 77) = w1 at *
  have HC0 := Lib.hid C0
  have HX0 := Lib.hid hx0
  clear hq C0 hx0 hab
  by_cases hm : X = M
  · have HY : Hid (Y = sm) := Lib.hid (by rw [HRB.out, hm, decide_eq_true rfl, Bool.true_and])
    have hm2 : (X : Int) = (M : Int) := by omega
    subst hm
    clear HRB
    refine wp_region_held_drew (S := fun w' => Chg [] w1 w') (by kernel_rfl) (Chg.drewN [] w1 1) (fun H0 => ?_)
    refine' tkH (i := 0) (v := _) rfl (Or.inl ⟨by rfl, ?hya0⟩) H0 ?resta0
    case hya0 =>
      intro w' hSw
      have s1 := hSw
      go_simp
      try with_reducible rfl
    (try simp only [Act.put, List.getElem_toArray, List.getElem_cons_zero, List.setIfInBounds_toArray, List.set_cons_zero, List.set_cons_succ])
    refine' tkH (i := 1) (v := _) rfl (Or.inl ⟨by rfl, ?hya1⟩) H0 ?resta1
    case hya1 =>
      intro w' hSw
      have s1 := hSw
      go_simp
      try with_reducible rfl
    (try simp only [Act.put, List.getElem_toArray, List.getElem_cons_succ, List.getElem_cons_zero, List.setIfInBounds_toArray, List.set_cons_zero, List.set_cons_succ])
    refine' tkH (i := 2) (v := .agg RC) rfl (Or.inl ⟨by rfl, ?hya2⟩) H0 ?resta2
    case hya2 =>
      intro w' hSw
      have s1 := hSw
      have hl := run_loadAt_rec w' q RC _ ((s1.block q (lt_of_block HX0.out) (by simp)).trans HX0.out) HRS.out
      simp [execOp, Act.eval, hl, Result.andThen]
    (try simp only [Act.put, List.getElem_toArray, List.getElem_cons_succ, List.getElem_cons_zero, List.setIfInBounds_toArray, List.set_cons_zero, List.set_cons_succ])
    refine' tkH (i := 3) (v := _) rfl (Or.inl ⟨by rfl, ?hya3⟩) H0 ?resta3
    case hya3 =>
      intro w' hSw
      have s1 := hSw
      go_simp
      try with_reducible rfl
    (try simp only [Act.put, List.getElem_toArray, List.getElem_cons_succ, List.getElem_cons_zero, List.setIfInBounds_toArray, List.set_cons_zero, List.set_cons_succ])
    refine wpAnyH_ready (rs := [4]) (by kernel_rfl) (by simp) (AllReadyH.cons rfl (fun K hK => ?_) AllReadyH.nil)
    go_simp
    refine (KL.out _ (HC0.out.trans H0 (by simp))).mono ?_
    rintro e wy ⟨rfl, Cy⟩
    go_simp
    refine hK.out _ _ (H0.trans Cy (by simp)) (fun H1 => ?_)
    clear hK K Cy
    refine' tkH (i := 5) (v := _) rfl (Or.inl ⟨by rfl, ?hya5⟩) H1 ?resta5
    case hya5 =>
      intro w' hSw
      have s1 := hSw
      go_simp
      try with_reducible rfl
    (try simp only [Act.put, List.getElem_toArray, List.getElem_cons_succ, List.getElem_cons_zero, List.setIfInBounds_toArray, List.set_cons_zero, List.set_cons_succ])
    refine' tkH (i := 6) (v := _) rfl (Or.inl ⟨by rfl, ?hya6⟩) H1 ?resta6
    case hya6 =>
      intro w' hSw
      have s1 := hSw
      go_simp
      try with_reducible rfl
    (try simp only [Act.put, List.getElem_toArray, List.getElem_cons_succ, List.getElem_cons_zero, List.setIfInBounds_toArray, List.set_cons_zero, List.set_cons_succ])
    refine' tkH (i := 7) (v := _) rfl (Or.inl ⟨by rfl, ?hya7⟩) H1 ?resta7
    case hya7 =>
      intro w' hSw
      have s1 := hSw
      go_simp
      try with_reducible rfl
    (try simp only [Act.put, List.getElem_toArray, List.getElem_cons_succ, List.getElem_cons_zero, List.setIfInBounds_toArray, List.set_cons_zero, List.set_cons_succ])
    refine' tkH (i := 9) (v := _) rfl (Or.inl ⟨by rfl, ?hya9⟩) H1 ?resta9
    case hya9 =>
      intro w' hSw
      have s1 := hSw
      go_simp
      try with_reducible rfl
    (try simp only [Act.put, List.getElem_toArray, List.getElem_cons_succ, List.getElem_cons_zero, List.setIfInBounds_toArray, List.set_cons_zero, List.set_cons_succ])
    refine' tkH (i := 10) (v := _) rfl (Or.inl ⟨by rfl, ?hya10⟩) H1 ?resta10
    case hya10 =>
      intro w' hSw
      have s1 := hSw
      have hc := (show w'.cell? ⟨q, 23, none⟩ = some (.slice (some a) n c) by rw [cell_of_row _ _ _ _ _ _ ((s1.block q (lt_of_block HX0.out) (by simp)).trans HX0.out)]; exact HBL.out)
      go_simp
      try with_reducible rfl
    (try simp only [Act.put, List.getElem_toArray, List.getElem_cons_succ, List.getElem_cons_zero, List.setIfInBounds_toArray, List.set_cons_zero, List.set_cons_succ])
    refine' tkH (i := 11) (v := _) rfl (Or.inl ⟨by rfl, ?hya11⟩) H1 ?resta11
    case hya11 =>
      intro w' hSw
      have s1 := hSw
      go_simp
      try with_reducible rfl
    (try simp only [Act.put, List.getElem_toArray, List.getElem_cons_succ, List.getElem_cons_zero, List.setIfInBounds_toArray, List.set_cons_zero, List.set_cons_succ])
    refine' tkH (i := 12) (v := _) rfl (Or.inl ⟨by rfl, ?hya12⟩) H1 ?resta12
    case hya12 =>
      intro w' hSw
      have s1 := hSw
      go_simp
      try with_reducible rfl
    (try simp only [Act.put, List.getElem_toArray, List.getElem_cons_succ, List.getElem_cons_zero, List.setIfInBounds_toArray, List.set_cons_zero, List.set_cons_succ])
    refine' tkH (i := 13) (v := .agg Rf) rfl (Or.inl ⟨by rfl, ?hya13⟩) H1 ?resta13
    case hya13 =>
      intro w' hSw
      have s1 := hSw
      have hl := HLD.out w' (HC0.out.trans s1 (by simp))
      simp [execOp, Act.eval, hl, Result.andThen]
    (try simp only [Act.put, List.getElem_toArray, List.getElem_cons_succ, List.getElem_cons_zero, List.setIfInBounds_toArray, List.set_cons_zero, List.set_cons_succ])
    refine wpAnyH_ready (rs := [8]) (by kernel_rfl) (by simp) (AllReadyH.cons rfl (fun K hK => ?_) AllReadyH.nil)
    go_simp
    refine (KV.out _ (HC0.out.trans H1 (by simp))).mono ?_
    rintro e wz ⟨rfl, Cz⟩
    go_simp
    refine hK.out _ _ (H1.trans Cz (by simp)) (fun H2 => ?_)
    clear hK K Cz
    refine' tkH (i := 14) (v := .bool sm) rfl (Or.inl ⟨by rfl, ?hya14⟩) H2 ?resta14
    case hya14 =>
      intro w' hSw
      have s1 := hSw
      have hqq := HQ.out w'
      simp [execOp, Act.eval, hash_guard, hqq, Result.andThen]
    (try simp only [Act.put, List.getElem_toArray, List.getElem_cons_succ, List.getElem_cons_zero, List.setIfInBounds_toArray, List.set_cons_zero, List.set_cons_succ])
    refine' tkH (i := 15) (v := _) rfl (Or.inl ⟨by rfl, ?hya15⟩) H2 ?resta15
    case hya15 =>
      intro w' hSw
      have s1 := hSw
      go_simp
      try with_reducible rfl
    (try simp only [Act.put, List.getElem_toArray, List.getElem_cons_succ, List.getElem_cons_zero, List.setIfInBounds_toArray, List.set_cons_zero, List.set_cons_succ])
    refine' tkH (i := 16) (v := _) rfl (Or.inl ⟨by rfl, ?hya16⟩) H2 ?resta16
    case hya16 =>
      intro w' hSw
      have s1 := hSw
      go_simp
      try with_reducible rfl
    (try simp only [Act.put, List.getElem_toArray, List.getElem_cons_succ, List.getElem_cons_zero, List.setIfInBounds_toArray, List.set_cons_zero, List.set_cons_succ])
    refine wpAnyH_done (by kernel_rfl) ?_ _
    have HCF := Lib.hid (HC0.out.trans H2 (by simp))
    go_wp2_with fail
    go_ret
    exact ⟨by rw [HY.out]; rfl, HCF.out⟩
  · have hm2 : ¬ (X : Int) = (M : Int) := by omega
    have HY : Hid (Y = false) := Lib.hid (by rw [HRB.out, decide_eq_false hm2]; rfl)
    clear HRB
    refine wp_region_held_drew (S := fun w' => Chg [] w1 w') (by kernel_rfl) (Chg.drewN [] w1 1) (fun H0 => ?_)
    refine' tkH (i := 0) (v := _) rfl (Or.inl ⟨by rfl, ?hyb0⟩) H0 ?restb0
    case hyb0 =>
      intro w' hSw
      have s1 := hSw
      go_simp
      try with_reducible rfl
    (try simp only [Act.put, List.getElem_toArray, List.getElem_cons_zero, List.setIfInBounds_toArray, List.set_cons_zero, List.set_cons_succ])
    refine' tkH (i := 1) (v := _) rfl (Or.inl ⟨by rfl, ?hyb1⟩) H0 ?restb1
    case hyb1 =>
      intro w' hSw
      have s1 := hSw
      go_simp
      try with_reducible rfl
    (try simp only [Act.put, List.getElem_toArray, List.getElem_cons_succ, List.getElem_cons_zero, List.setIfInBounds_toArray, List.set_cons_zero, List.set_cons_succ])
    refine' tkH (i := 2) (v := .agg RC) rfl (Or.inl ⟨by rfl, ?hyb2⟩) H0 ?restb2
    case hyb2 =>
      intro w' hSw
      have s1 := hSw
      have hl := run_loadAt_rec w' q RC _ ((s1.block q (lt_of_block HX0.out) (by simp)).trans HX0.out) HRS.out
      simp [execOp, Act.eval, hl, Result.andThen]
    (try simp only [Act.put, List.getElem_toArray, List.getElem_cons_succ, List.getElem_cons_zero, List.setIfInBounds_toArray, List.set_cons_zero, List.set_cons_succ])
    refine' tkH (i := 3) (v := _) rfl (Or.inl ⟨by rfl, ?hyb3⟩) H0 ?restb3
    case hyb3 =>
      intro w' hSw
      have s1 := hSw
      go_simp
      try with_reducible rfl
    (try simp only [Act.put, List.getElem_toArray, List.getElem_cons_succ, List.getElem_cons_zero, List.setIfInBounds_toArray, List.set_cons_zero, List.set_cons_succ])
    refine wpAnyH_ready (rs := [4]) (by kernel_rfl) (by simp) (AllReadyH.cons rfl (fun K hK => ?_) AllReadyH.nil)
    go_simp
    refine (KL.out _ (HC0.out.trans H0 (by simp))).mono ?_
    rintro e wy ⟨rfl, Cy⟩
    go_simp
    refine hK.out _ _ (H0.trans Cy (by simp)) (fun H1 => ?_)
    clear hK K Cy
    refine' tkH (i := 5) (v := .bool false) rfl (Or.inl ⟨by rfl, ?hyb5⟩) H1 ?restb5
    case hyb5 =>
      intro w' hSw
      have s1 := hSw
      go_simp
      try (first | exact hm | exact hm2 | simp [hm])
    (try simp only [Act.put, List.getElem_toArray, List.getElem_cons_succ, List.getElem_cons_zero, List.setIfInBounds_toArray, List.set_cons_zero, List.set_cons_succ])
    refine' tkH (i := 6) (v := _) rfl (Or.inl ⟨by rfl, ?hyb6⟩) H1 ?restb6
    case hyb6 =>
      intro w' hSw
      have s1 := hSw
      go_simp
      try with_reducible rfl
    (try simp only [Act.put, List.getElem_toArray, List.getElem_cons_succ, List.getElem_cons_zero, List.setIfInBounds_toArray, List.set_cons_zero, List.set_cons_succ])
    refine tkH (i := 7) (v := undef) rfl (Or.inr ⟨by rfl, rfl⟩) H1 ?_
    (try simp only [Act.put, List.getElem_toArray, List.getElem_cons_succ, List.getElem_cons_zero, List.setIfInBounds_toArray, List.set_cons_zero, List.set_cons_succ])
    refine tkH (i := 8) (v := undef) rfl (Or.inr ⟨by rfl, rfl⟩) H1 ?_
    (try simp only [Act.put, List.getElem_toArray, List.getElem_cons_succ, List.getElem_cons_zero, List.setIfInBounds_toArray, List.set_cons_zero, List.set_cons_succ])
    refine tkH (i := 9) (v := undef) rfl (Or.inr ⟨by rfl, rfl⟩) H1 ?_
    (try simp only [Act.put, List.getElem_toArray, List.getElem_cons_succ, List.getElem_cons_zero, List.setIfInBounds_toArray, List.set_cons_zero, List.set_cons_succ])
    refine tkH (i := 10) (v := undef) rfl (Or.inr ⟨by rfl, rfl⟩) H1 ?_
    (try simp only [Act.put, List.getElem_toArray, List.getElem_cons_succ, List.getElem_cons_zero, List.setIfInBounds_toArray, List.set_cons_zero, List.set_cons_succ])
    refine tkH (i := 11) (v := undef) rfl (Or.inr ⟨by rfl, rfl⟩) H1 ?_
    (try simp only [Act.put, List.getElem_toArray, List.getElem_cons_succ, List.getElem_cons_zero, List.setIfInBounds_toArray, List.set_cons_zero, List.set_cons_succ])
    refine tkH (i := 12) (v := undef) rfl (Or.inr ⟨by rfl, rfl⟩) H1 ?_
    (try simp only [Act.put, List.getElem_toArray, List.getElem_cons_succ, List.getElem_cons_zero, List.setIfInBounds_toArray, List.set_cons_zero, List.set_cons_succ])
    refine tkH (i := 13) (v := undef) rfl (Or.inr ⟨by rfl, rfl⟩) H1 ?_
    (try simp only [Act.put, List.getElem_toArray, List.getElem_cons_succ, List.getElem_cons_zero, List.setIfInBounds_toArray, List.set_cons_zero, List.set_cons_succ])
    refine tkH (i := 14) (v := undef) rfl (Or.inr ⟨by rfl, rfl⟩) H1 ?_
    (try simp only [Act.put, List.getElem_toArray, List.getElem_cons_succ, List.getElem_cons_zero, List.setIfInBounds_toArray, List.set_cons_zero, List.set_cons_succ])
    refine' tkH (i := 15) (v := _) rfl (Or.inl ⟨by rfl, ?hyb15⟩) H1 ?restb15
    case hyb15 =>
      intro w' hSw
      have s1 := hSw
      go_simp
      try with_reducible rfl
    (try simp only [Act.put, List.getElem_toArray, List.getElem_cons_succ, List.getElem_cons_zero, List.setIfInBounds_toArray, List.set_cons_zero, List.set_cons_succ])
    refine' tkH (i := 16) (v := _) rfl (Or.inl ⟨by rfl, ?hyb16⟩) H1 ?restb16
    case hyb16 =>
      intro w' hSw
      have s1 := hSw
      go_simp
      try with_reducible rfl
    (try simp only [Act.put, List.getElem_toArray, List.getElem_cons_succ, List.getElem_cons_zero, List.setIfInBounds_toArray, List.set_cons_zero, List.set_cons_succ])
    refine wpAnyH_done (by kernel_rfl) ?_ _
    have HCF := Lib.hid (HC0.out.trans H1 (by simp))
    go_wp2_with fail
    go_ret
    exact ⟨by rw [HY.out]; rfl, HCF.out⟩
end Go.Proofs.YtfdhpjflkimihaaDoor
/- Steps of a plan; the copier's step, walked. No conditions beyond those that each statement types. -/
namespace Go.Proofs.YtfdhpjflkimihaaDoor
open Go.RowKit

/-- A step of a plan. -/
structure StepV where
  block : Int
  from_ : Int
  name : ByteArray
  at_ : Int
  same : Int
def StepV.cells (s : StepV) : Array Value := #[.int .i64 s.block, .int .i64 s.from_, .string s.name, .int .i64 s.at_, .int .i64 s.same]
def RecV.dig (r : RecV) (i : Nat) : Nat → UInt8 := r.L.getD i fun _ => 0
def sameBlk (r : RecV) (i k : Nat) : Bool := sameHash (r.dig k) (r.dig i) && decide (r.len k = r.len i)
/-- The step of a block that stands nowhere in temp and is no earlier one's. -/
def stepFd (r : RecV) (i : Nat) : Option (Pl × List UInt8) → StepV
  | none => ⟨i, 4, ⟨#[]⟩, 0, 0⟩
  | some (m, xs) => if (xs.length : Int) = r.len i then ⟨i, 2, m.1, m.2, 0⟩ else ⟨i, 4, ⟨#[]⟩, 0, 0⟩
def stepSm (r : RecV) (i : Nat) (o : Option (Pl × List UInt8)) : Option Nat → StepV
  | some k => ⟨i, 3, ⟨#[]⟩, 0, k⟩
  | none => stepFd r i o
def stepPl (r : RecV) (N : Nat) (T : List UInt8) (fo : HKey → Option (Pl × List UInt8)) (i : Nat) : StepV :=
  if rightB r i (plT N T i) = true then ⟨i, 1, ⟨#[]⟩, 0, 0⟩ else stepSm r i (fo (hkey (r.dig i))) ((List.range i).find? (sameBlk r i))
theorem stepFd_no {r : RecV} {i : Nat} {o : Option (Pl × List UInt8)} (h : o.isSome = false ∨ ((fX o).length : Int) ≠ r.len i) : stepFd r i o = ⟨i, 4, ⟨#[]⟩, 0, 0⟩ := by
  match o, h with
  | none, _ => rfl
  | some (m, xs), h =>
    have h2 : ¬ (xs.length : Int) = r.len i := by
      rcases h with h | h
      · cases h
      · exact h
    show (if (xs.length : Int) = r.len i then _ else _) = _
    rw [if_neg h2]
theorem stepFd_yes {r : RecV} {i : Nat} {o : Option (Pl × List UInt8)} (h : o.isSome = true) (h2 : ((fX o).length : Int) = r.len i) : stepFd r i o = ⟨i, 2, (fM o).1, (fM o).2, 0⟩ := by
  match o, h, h2 with
  | some (m, xs), _, h2 =>
    have h3 : (xs.length : Int) = r.len i := h2
    show (if (xs.length : Int) = r.len i then _ else _) = _
    rw [if_pos h3]
    rfl
/-- What a finder answers to each digest. -/
def FindsAs (w : World) (p : Option Addr) (fo : HKey → Option (Pl × List UInt8)) : Prop :=
  ∀ w' k, Chg [] w w' → Calls Tryd.prog 34 #[.pointer p, hkV k] w' (Found w' (fo k))
theorem FindsAs.chg {w w' : World} {p : Option Addr} {fo : HKey → Option (Pl × List UInt8)} (h : FindsAs w p fo) (C : Chg [] w w') : FindsAs w' p fo := fun w2 k D => h w2 k (C.trans D (by simp))
theorem finds_none {w : World} {p : Option Addr} (h : NoFinder p w) : FindsAs w p fun _ => none := fun w' k C => blk_find_no p k w' (h.chg C)
theorem finds_at {w : World} {b : Nat} {F : Files} {S : List Nat} (h : FinderAt w b F S) (hl : F.length ≤ 30000) : FindsAs w (some ⟨b, 0, none⟩) (findL F) := fun w' k C => blk_find b F S k w' (h.chg C (by simp)) hl
theorem find_first {p : Nat → Bool} {k i : Nat} (hk : k < i) (h : p k = true) (hb : ∀ t, t < k → p t = false) : (List.range i).find? p = some k := by
  rw [List.find?_range_eq_some]
  exact ⟨h, List.mem_range.2 hk, fun t ht => by rw [hb t ht]; rfl⟩
theorem find_no {p : Nat → Bool} {i : Nat} (hb : ∀ t, t < i → p t = false) : (List.range i).find? p = none := by
  rw [List.find?_range_eq_none]
  exact fun t ht => by rw [hb t ht]; rfl
theorem plT_128 (N : Nat) (T : List UInt8) (i : Nat) : (plT N T i).length ≤ 128 := by
  unfold plT
  split
  · rw [List.length_take]
    exact Nat.le_trans (Nat.min_le_left _ _) (Nat.le_trans (Nat.min_le_left _ _) (bszN_le N))
  · exact Nat.zero_le _
theorem plT_len (N : Nat) (T : List UInt8) (i : Nat) : (plT N T i).length ≤ T.length := by
  unfold plT
  split
  · rw [List.length_take, List.length_drop]; omega
  · exact Nat.zero_le _
/-- What lies in old memory. -/
theorem part_in_old {w : World} {ta : Option Addr} {T : List UInt8} (hs : Src w ta (bvs T)) : ∀ t, ta = some t → 0 < T.length → t.block < w.heap.size := fun t h hp => by
  obtain ⟨_, e, hl⟩ := hs.lt (by rw [bvs_length]; exact hp)
  rw [h] at e
  cases e
  exact hl
theorem infoStep : (Tryd.prog.info? 85).map (·.size) = some 5 := by kernel_rfl
/-- A step put where one lies. -/
theorem step_put {w wz : World} {g : Nat} {Z : Array Value} (s : StepV) (h : wz.heap[g]? = some (.cells Z 85 (0, 0))) (hz : Z.size = 5) (hg : w.heap.size ≤ g) (C : Chg [] w wz) :
    (Instr.storeAt 85 (.pointer (some ⟨g, 0, none⟩)) (.agg s.cells)).run Tryd.prog wz = .ok () (wz.setRow g s.cells) ∧ (wz.setRow g s.cells).heap[g]? = some (.cells s.cells 85 (0, 0)) ∧ Chg [] w (wz.setRow g s.cells) :=
  ⟨run_storeAt_row wz g _ _ Z s.cells h infoStep hz (by simp [StepV.cells, Value.oneCell']), setRow_heap wz g _ _ _ _ h, C.trans (Chg.setRow (S := [g]) wz g s.cells (.inl (by simp))) (fun j hj => by simp at hj; subst hj; exact .inr hg)⟩

set_option maxRecDepth 100000 in
set_option maxHeartbeats 8000000 in
theorem cp_step (RC : Array Value) (r : RecV) (ao : Option Addr) (c : Nat) (N : Nat) (g : r.Good N) (i : Nat) (hi : i < cntN N) (p : Option Addr) (fo : HKey → Option (Pl × List UInt8)) (ta : Option Addr) (tc : Nat) (T : List UInt8) (w : World) (hL : Laid w) (H : RecIs w RC r ao c) (hF : FindsAs w p fo) (hfo : ∀ k, (fX (fo k)).length ≤ 128) (hs : Src w ta (bvs T)) (hT : T.length ≤ 9223372036854775807) (htc : T.length ≤ tc) (h0 : ta = none → tc = 0) :
    Calls Tryd.prog 80 #[.agg RC, .int .i64 i, .pointer p, .slice ta T.length tc] w fun e w' => e = .returned (.agg (stepPl r N T fo i).cells) ∧ Chg [] w w' := by
  have C0 := (Chg.alloc [] w (.cells RC 77)).trans (Chg.alloc [] (w.alloc (.cells RC 77)) (.cells #[.int .i64 0, .int .i64 0, .string ⟨#[]⟩, .int .i64 0, .int .i64 0] 85)) (by simp)
  have hx0 := ((Chg.alloc [] (w.alloc (.cells RC 77)) (.cells #[.int .i64 0, .int .i64 0, .string ⟨#[]⟩, .int .i64 0, .int .i64 0] 85)).block _ (lt_of_block (heap_alloc_new w (.cells RC 77))) (by simp)).trans (heap_alloc_new w (.cells RC 77))
  have hx8 := heap_alloc_new (w.alloc (.cells RC 77)) (.cells #[.int .i64 0, .int .i64 0, .string ⟨#[]⟩, .int .i64 0, .int .i64 0] 85)
  have sz1 : (w.alloc (.cells RC 77)).heap.size = w.heap.size + 1 := by simp
  rw [sz1] at hx8
  obtain ⟨f, hf⟩ : ∃ f, r.L[i]? = some f := ⟨_, List.getElem?_eq_getElem (by rw [g.len]; exact hi)⟩
  obtain ⟨n, hn⟩ : ∃ n, r.L.length = n := ⟨_, rfl⟩
  have hin : i < n := by rw [← hn, g.len]; exact hi
  have hn32 : n ≤ 32 := by rw [← hn, g.len]; exact cntN_le N
  obtain ⟨a, rfl, hab⟩ := H.src.lt (by rw [hvs_length, hn]; omega)
  have HLN := Lib.hid (fun k (hk : k < n) => show ∃ M : Nat, r.len (k : Int) = (M : Int) ∧ M ≤ 128 from ⟨_, g.lenP (by rw [← g.len, hn]; exact hk), Nat.le_trans (Nat.min_le_left _ _) (bszN_le N)⟩)
  have KL := Lib.hid (fun (k : Nat) w' (C : Chg [] w w') => cp_length RC r (some a) c (k : Int) w' (H.chg0 C))
  have KP := Lib.hid (fun w' (C : Chg [] w w') => cp_placed RC r (some a) c N g i hi ta tc T w' (H.chg0 C) (hs.chg C (by simp)) hT htc h0)
  have KR := Lib.hid (fun (po : Option Addr) (pc : Nat) (xs : List UInt8) w' (C : Chg [] w w') (h1 : Src w' po (bvs xs)) (h2 : xs.length ≤ 1000000) (h3 : xs.length ≤ pc) => cp_right RC r (some a) c N g i hi po pc xs w' (hL.chg C (by simp)) (H.chg0 C) h1 h2 h3)
  have HLD := Lib.hid (fun (k : Nat) (fk : Nat → UInt8) (hk : r.L[k]? = some fk) (w' : World) (C : Chg [] w w') => load_blk (H.src.chg C (by simp)) hk)
  have HF := Lib.hid (fun w' k (C : Chg [] w w') => hF w' k C)
  have HFO := Lib.hid hfo
  have HFI := Lib.hid hf
  have HNN := Lib.hid hn
  have hnc : n ≤ c := by rw [← hn]; exact H.cap
  have hbl := H.bl
  rw [hn] at hbl
  have HBL := Lib.hid hbl
  have HRS := Lib.hid H.size
  have HTS := Lib.hid (part_in_old hs)
  have HPT := Lib.hid (plT_len N T i)
  have hpl1 : (plT N T i).length ≤ 1000000 := Nat.le_trans (plT_128 N T i) (by decide)
  obtain ⟨tn, htn⟩ : ∃ tn, T.length = tn := ⟨_, rfl⟩
  have HSP : Hid (stepPl r N T fo i = if rightB r i (plT N T i) = true then ⟨i, 1, ⟨#[]⟩, 0, 0⟩ else stepSm r i (fo (hkey (r.dig i))) ((List.range i).find? (sameBlk r i))) := Lib.hid rfl
  generalize stepPl r N T fo i = SP at *
  generalize plT N T i = X at *
  rw [htn] at KP ⊢
  clear H hL hF hfo hs hT htc h0 hf hn hbl htn g hi
  go_enter Tryd.func80, Tryd.ntmps80
  go_upto_region 1 with (fail)
  obtain ⟨q, hq⟩ : ∃ q, w.heap.size = q := ⟨_, rfl⟩
  rw [hq] at hx0 hx8 hab sz1
  try rw [hq]
  try rw [sz1]
  generalize (w.alloc (.cells RC 77)).alloc (.cells #[.int .i64 0, .int .i64 0, .string ⟨#[]⟩, .int .i64 0, .int .i64 0] 85) = w1 at *
  have HX0 := Lib.hid hx0
  have HX8C := Lib.hid (fun (wz : World) (C : Chg [] w1 wz) => (C.block (q + 1) (lt_of_block hx8) (by simp)).trans hx8)
  have HQ8 : Hid (w.heap.size ≤ q + 1) := Lib.hid (by omega)
  have HC0 := Lib.hid C0
  clear hx0 hx8 hq C0 sz1 hab
  refine wp_region_held_drew (S := fun w' => Chg [] w1 w') (by kernel_rfl) (Chg.drewN [] w1 1) (fun H0 => ?_)
  refine' tkH (i := 0) (v := .agg RC) rfl (Or.inl ⟨by rfl, ?hya0⟩) H0 ?resta0
  case hya0 =>
    intro w' hSw
    have s1 := hSw
    have hl := run_loadAt_rec w' q RC _ ((s1.block q (lt_of_block HX0.out) (by simp)).trans HX0.out) HRS.out
    simp [execOp, Act.eval, hl, Result.andThen]
  (try simp only [Act.put, List.getElem_toArray, List.getElem_cons_zero, List.setIfInBounds_toArray, List.set_cons_zero, List.set_cons_succ])
  refine' tkH (i := 1) (v := _) rfl (Or.inl ⟨by rfl, ?hya1⟩) H0 ?resta1
  case hya1 =>
    intro w' hSw
    have s1 := hSw
    go_simp
    try with_reducible rfl
  (try simp only [Act.put, List.getElem_toArray, List.getElem_cons_succ, List.getElem_cons_zero, List.setIfInBounds_toArray, List.set_cons_zero, List.set_cons_succ])
  refine' tkH (i := 2) (v := .agg RC) rfl (Or.inl ⟨by rfl, ?hya2⟩) H0 ?resta2
  case hya2 =>
    intro w' hSw
    have s1 := hSw
    have hl := run_loadAt_rec w' q RC _ ((s1.block q (lt_of_block HX0.out) (by simp)).trans HX0.out) HRS.out
    simp [execOp, Act.eval, hl, Result.andThen]
  (try simp only [Act.put, List.getElem_toArray, List.getElem_cons_succ, List.getElem_cons_zero, List.setIfInBounds_toArray, List.set_cons_zero, List.set_cons_succ])
  refine' tkH (i := 3) (v := _) rfl (Or.inl ⟨by rfl, ?hya3⟩) H0 ?resta3
  case hya3 =>
    intro w' hSw
    have s1 := hSw
    go_simp
    try with_reducible rfl
  (try simp only [Act.put, List.getElem_toArray, List.getElem_cons_succ, List.getElem_cons_zero, List.setIfInBounds_toArray, List.set_cons_zero, List.set_cons_succ])
  refine' tkH (i := 4) (v := _) rfl (Or.inl ⟨by rfl, ?hya4⟩) H0 ?resta4
  case hya4 =>
    intro w' hSw
    have s1 := hSw
    go_simp
    try with_reducible rfl
  (try simp only [Act.put, List.getElem_toArray, List.getElem_cons_succ, List.getElem_cons_zero, List.setIfInBounds_toArray, List.set_cons_zero, List.set_cons_succ])
  refine wpAnyH_ready (rs := [5]) (by kernel_rfl) (by simp) (AllReadyH.cons rfl (fun K hK => ?_) AllReadyH.nil)
  go_simp
  refine (KP.out _ (HC0.out.trans H0 (by simp))).mono ?_
  rintro e wy ⟨po, pc, rfl, hsx, hpn, hpc, hpo, Cy⟩
  have HY := Lib.hid (H0.trans Cy (by simp))
  have KRR := Lib.hid (KR.out po pc X wy (HC0.out.trans HY.out (by simp)) hsx hpl1 hpc)
  clear hsx hpn hpo
  go_simp
  refine hK.out _ _ HY.out (fun H1 => ?_)
  clear hK K Cy
  refine wpAnyH_ready (rs := [6]) (by kernel_rfl) (by simp) (AllReadyH.cons rfl (fun K hK => ?_) AllReadyH.nil)
  go_simp
  refine KRR.out.mono ?_
  rintro e wz ⟨rfl, Cz⟩
  go_simp
  refine hK.out _ _ (H1.trans Cz (by simp)) (fun H2 => ?_)
  clear hK K Cz
  refine wpAnyH_done (by kernel_rfl) ?_ _
  obtain ⟨RB, hRB⟩ : ∃ RB, rightB r i X = RB := ⟨_, rfl⟩
  have HRB := Lib.hid hRB
  have HZ := Lib.hid H2
  rw [hRB]
  clear hRB H0 H1 H2 HY KRR hpc
  cases RB with
  | true =>
    have HSV : Hid (SP = ⟨i, 1, ⟨#[]⟩, 0, 0⟩) := Lib.hid (by rw [HSP.out, if_pos HRB.out])
    obtain ⟨hst, hh, CZ⟩ := step_put (⟨i, 1, ⟨#[]⟩, 0, 0⟩ : StepV) (HX8C.out wz (HZ.out)) rfl HQ8.out ((HC0.out).trans (HZ.out) (by simp))
    simp only [StepV.cells] at hst hh CZ
    go_wp2_with (refine wpList_store_y 85 (.tmp 8) (.tmp 21) rfl (by first | rfl | go_simp) (.pointer (some ⟨q + 1, 0, none⟩)) (.agg ((⟨i, 1, ⟨#[]⟩, 0, 0⟩ : StepV)).cells) _ hst rfl rfl ?_)
    exact bodyPost_ret (v := .agg ((⟨i, 1, ⟨#[]⟩, 0, 0⟩ : StepV)).cells) (results_cell_row rfl _ _ _ _ ((⟨i, 1, ⟨#[]⟩, 0, 0⟩ : StepV)).cells _ _ rfl hh Tryd.underlying85 rfl infoStep) rfl ⟨by rw [HSV.out], CZ⟩
  | false =>
    have HS2 : Hid (SP = stepSm r i (fo (hkey (r.dig i))) ((List.range i).find? (sameBlk r i))) := Lib.hid (by rw [HSP.out, if_neg (by rw [HRB.out]; decide)])
    have HSP := HS2
    have HDI : Hid (r.dig i = f) := Lib.hid (by unfold RecV.dig; rw [List.getD, HFI.out]; rfl)
    obtain ⟨Mi, hMi, hMi2⟩ := HLN.out i hin
    have HMI := Lib.hid hMi
    obtain ⟨Ri, hRi⟩ : ∃ Ri, hashC f = Ri := ⟨_, rfl⟩
    have HRI := Lib.hid hRi
    have HLI := Lib.hid (fun (w' : World) (C : Chg [] w w') => by
      have := HLD.out i f HFI.out w' C
      rewrite [hRi] at this
      exact this)
    have KLi := Lib.hid (fun (w' : World) (C : Chg [] w w') => by
      have := KL.out i w' C
      rewrite [hMi] at this
      exact this)
    clear hMi hRi HRB HS2 KP KR HTS HPT hpl1
    go_wp2_with fail
    go_loopw [23] (fun v wr => ∃ k : Nat, v = .int .i64 (k : Int) ∧ k ≤ i ∧ Hid (∀ t, t < k → sameBlk r i t = false) ∧ Hid (Chg [] w1 wr)) (fun v _ => i - (intOf v).toNat)
    case atStart => exact ⟨0, rfl, Nat.zero_le _, Lib.hid (fun t ht => by omega), HZ⟩
    case round =>
      obtain ⟨k, rfl, hk, HB, HC⟩ := hrel
      by_cases hki : k < i
      ·
        have e1 : (k : Int) < i := Int.ofNat_lt.2 hki
        have e0 : (0 : Int) ≤ k := Int.natCast_nonneg _
        have e2 : (k : Int) < n := by omega
        have e3 : (i : Int) < n := by omega
        have e4 : (0 : Int) ≤ i := Int.natCast_nonneg _
        have hkc : k < c := by omega
        have hic : i < c := by omega
        obtain ⟨fk, hfk⟩ : ∃ fk, r.L[k]? = some fk := ⟨_, List.getElem?_eq_getElem (by rw [HNN.out]; omega)⟩
        have hdk : r.dig k = fk := by unfold RecV.dig; rw [List.getD, hfk]; rfl
        obtain ⟨Mk, hMk, _⟩ := HLN.out k (by omega)
        obtain ⟨Rk, hRk⟩ : ∃ Rk, hashC fk = Rk := ⟨_, rfl⟩
        obtain ⟨sb, hsb⟩ : ∃ sb, sameHash fk f = sb := ⟨_, rfl⟩
        have hsame : sameBlk r i k = (sb && decide ((Mk : Int) = (Mi : Int))) := by unfold sameBlk; rw [hdk, HDI.out, hsb, hMk, HMI.out]
        have HSM := Lib.hid hsame
        have HLK := Lib.hid (fun (w' : World) (C : Chg [] w w') => by
          have := HLD.out k fk hfk w' C
          rewrite [hRk] at this
          exact this)
        have KLk := Lib.hid (fun (w' : World) (C : Chg [] w w') => by
          have := KL.out k w' C
          rewrite [hMk] at this
          exact this)
        have HQ := Lib.hid (fun w' => by
          have := run_eq_hash fk f w'
          rewrite [hsb, hashV, hashV, hRk, HRI.out] at this
          exact this)
        clear hfk hdk hMk hRk hsb hsame
        cases sb with
        | false =>
          have HSB : Hid (sameBlk r i k = false) := Lib.hid (by rw [HSM.out]; rfl)
          clear HSM
          go_upto_region 6 with (fail)
          refine wp_region_held_drew (S := fun w' => Chg [] w1 w') (by kernel_rfl) ((HC.out.trans (Chg.drewN [] wr 1) (by simp))) (fun H0 => ?_)
          refine' tkH (i := 0) (v := _) rfl (Or.inl ⟨by rfl, ?hyn0⟩) H0 ?restn0
          case hyn0 =>
            intro w' hSw
            have s1 := hSw
            go_simp
            try with_reducible rfl
          (try simp only [Act.put, List.getElem_toArray, List.getElem_cons_zero, List.setIfInBounds_toArray, List.set_cons_zero, List.set_cons_succ])
          refine' tkH (i := 1) (v := _) rfl (Or.inl ⟨by rfl, ?hyn1⟩) H0 ?restn1
          case hyn1 =>
            intro w' hSw
            have s1 := hSw
            have hc := (show w'.cell? ⟨q, 23, none⟩ = some (.slice (some a) n c) by rw [cell_of_row _ _ _ _ _ _ ((s1.block q (lt_of_block HX0.out) (by simp)).trans HX0.out)]; exact HBL.out)
            go_simp
            try with_reducible rfl
          (try simp only [Act.put, List.getElem_toArray, List.getElem_cons_succ, List.getElem_cons_zero, List.setIfInBounds_toArray, List.set_cons_zero, List.set_cons_succ])
          refine' tkH (i := 2) (v := _) rfl (Or.inl ⟨by rfl, ?hyn2⟩) H0 ?restn2
          case hyn2 =>
            intro w' hSw
            have s1 := hSw
            go_simp
            try with_reducible rfl
          (try simp only [Act.put, List.getElem_toArray, List.getElem_cons_succ, List.getElem_cons_zero, List.setIfInBounds_toArray, List.set_cons_zero, List.set_cons_succ])
          refine' tkH (i := 3) (v := _) rfl (Or.inl ⟨by rfl, ?hyn3⟩) H0 ?restn3
          case hyn3 =>
            intro w' hSw
            have s1 := hSw
            go_simp
            try with_reducible rfl
          (try simp only [Act.put, List.getElem_toArray, List.getElem_cons_succ, List.getElem_cons_zero, List.setIfInBounds_toArray, List.set_cons_zero, List.set_cons_succ])
          refine' tkH (i := 4) (v := .agg Rk) rfl (Or.inl ⟨by rfl, ?hyn4⟩) H0 ?restn4
          case hyn4 =>
            intro w' hSw
            have s1 := hSw
            have hl := HLK.out w' (HC0.out.trans s1 (by simp))
            simp [execOp, Act.eval, hl, Result.andThen]
          (try simp only [Act.put, List.getElem_toArray, List.getElem_cons_succ, List.getElem_cons_zero, List.setIfInBounds_toArray, List.set_cons_zero, List.set_cons_succ])
          refine' tkH (i := 5) (v := _) rfl (Or.inl ⟨by rfl, ?hyn5⟩) H0 ?restn5
          case hyn5 =>
            intro w' hSw
            have s1 := hSw
            go_simp
            try with_reducible rfl
          (try simp only [Act.put, List.getElem_toArray, List.getElem_cons_succ, List.getElem_cons_zero, List.setIfInBounds_toArray, List.set_cons_zero, List.set_cons_succ])
          refine' tkH (i := 6) (v := _) rfl (Or.inl ⟨by rfl, ?hyn6⟩) H0 ?restn6
          case hyn6 =>
            intro w' hSw
            have s1 := hSw
            have hc := (show w'.cell? ⟨q, 23, none⟩ = some (.slice (some a) n c) by rw [cell_of_row _ _ _ _ _ _ ((s1.block q (lt_of_block HX0.out) (by simp)).trans HX0.out)]; exact HBL.out)
            go_simp
            try with_reducible rfl
          (try simp only [Act.put, List.getElem_toArray, List.getElem_cons_succ, List.getElem_cons_zero, List.setIfInBounds_toArray, List.set_cons_zero, List.set_cons_succ])
          refine' tkH (i := 7) (v := _) rfl (Or.inl ⟨by rfl, ?hyn7⟩) H0 ?restn7
          case hyn7 =>
            intro w' hSw
            have s1 := hSw
            go_simp
            try with_reducible rfl
          (try simp only [Act.put, List.getElem_toArray, List.getElem_cons_succ, List.getElem_cons_zero, List.setIfInBounds_toArray, List.set_cons_zero, List.set_cons_succ])
          refine' tkH (i := 8) (v := _) rfl (Or.inl ⟨by rfl, ?hyn8⟩) H0 ?restn8
          case hyn8 =>
            intro w' hSw
            have s1 := hSw
            go_simp
            try with_reducible rfl
          (try simp only [Act.put, List.getElem_toArray, List.getElem_cons_succ, List.getElem_cons_zero, List.setIfInBounds_toArray, List.set_cons_zero, List.set_cons_succ])
          refine' tkH (i := 9) (v := .agg Ri) rfl (Or.inl ⟨by rfl, ?hyn9⟩) H0 ?restn9
          case hyn9 =>
            intro w' hSw
            have s1 := hSw
            have hl := HLI.out w' (HC0.out.trans s1 (by simp))
            simp [execOp, Act.eval, hl, Result.andThen]
          (try simp only [Act.put, List.getElem_toArray, List.getElem_cons_succ, List.getElem_cons_zero, List.setIfInBounds_toArray, List.set_cons_zero, List.set_cons_succ])
          refine' tkH (i := 10) (v := .bool false) rfl (Or.inl ⟨by rfl, ?hyn10⟩) H0 ?restn10
          case hyn10 =>
            intro w' hSw
            have s1 := hSw
            have hqq := HQ.out w'
            simp [execOp, Act.eval, hash_guard, hqq, Result.andThen]
          (try simp only [Act.put, List.getElem_toArray, List.getElem_cons_succ, List.getElem_cons_zero, List.setIfInBounds_toArray, List.set_cons_zero, List.set_cons_succ])
          refine' tkH (i := 11) (v := _) rfl (Or.inl ⟨by rfl, ?hyn11⟩) H0 ?restn11
          case hyn11 =>
            intro w' hSw
            have s1 := hSw
            go_simp
            try with_reducible rfl
          (try simp only [Act.put, List.getElem_toArray, List.getElem_cons_succ, List.getElem_cons_zero, List.setIfInBounds_toArray, List.set_cons_zero, List.set_cons_succ])
          refine tkH (i := 12) (v := undef) rfl (Or.inr ⟨by rfl, rfl⟩) H0 ?_
          (try simp only [Act.put, List.getElem_toArray, List.getElem_cons_succ, List.getElem_cons_zero, List.setIfInBounds_toArray, List.set_cons_zero, List.set_cons_succ])
          refine tkH (i := 13) (v := undef) rfl (Or.inr ⟨by rfl, rfl⟩) H0 ?_
          (try simp only [Act.put, List.getElem_toArray, List.getElem_cons_succ, List.getElem_cons_zero, List.setIfInBounds_toArray, List.set_cons_zero, List.set_cons_succ])
          refine tkH (i := 14) (v := undef) rfl (Or.inr ⟨by rfl, rfl⟩) H0 ?_
          (try simp only [Act.put, List.getElem_toArray, List.getElem_cons_succ, List.getElem_cons_zero, List.setIfInBounds_toArray, List.set_cons_zero, List.set_cons_succ])
          refine tkH (i := 15) (v := undef) rfl (Or.inr ⟨by rfl, rfl⟩) H0 ?_
          (try simp only [Act.put, List.getElem_toArray, List.getElem_cons_succ, List.getElem_cons_zero, List.setIfInBounds_toArray, List.set_cons_zero, List.set_cons_succ])
          refine tkH (i := 16) (v := undef) rfl (Or.inr ⟨by rfl, rfl⟩) H0 ?_
          (try simp only [Act.put, List.getElem_toArray, List.getElem_cons_succ, List.getElem_cons_zero, List.setIfInBounds_toArray, List.set_cons_zero, List.set_cons_succ])
          refine tkH (i := 17) (v := undef) rfl (Or.inr ⟨by rfl, rfl⟩) H0 ?_
          (try simp only [Act.put, List.getElem_toArray, List.getElem_cons_succ, List.getElem_cons_zero, List.setIfInBounds_toArray, List.set_cons_zero, List.set_cons_succ])
          refine tkH (i := 18) (v := undef) rfl (Or.inr ⟨by rfl, rfl⟩) H0 ?_
          (try simp only [Act.put, List.getElem_toArray, List.getElem_cons_succ, List.getElem_cons_zero, List.setIfInBounds_toArray, List.set_cons_zero, List.set_cons_succ])
          refine' tkH (i := 19) (v := _) rfl (Or.inl ⟨by rfl, ?hyn19⟩) H0 ?restn19
          case hyn19 =>
            intro w' hSw
            have s1 := hSw
            go_simp
            try with_reducible rfl
          (try simp only [Act.put, List.getElem_toArray, List.getElem_cons_succ, List.getElem_cons_zero, List.setIfInBounds_toArray, List.set_cons_zero, List.set_cons_succ])
          refine wpAnyH_done (by kernel_rfl) ?_ _
          have HCN := Lib.hid H0
          have HB2 : Hid (∀ t, t < k + 1 → sameBlk r i t = false) := Lib.hid (fun t ht => (Nat.lt_succ_iff_lt_or_eq.1 ht).elim (HB.out t) (fun e => by rw [e]; exact HSB.out))
          clear H0 HB HC
          go_wp2_with fail
          go_roundw
          case rel => exact ⟨k + 1, by go_num, hki, HB2, HCN⟩
          case measure => simp [intOf] <;> omega
        | true =>
          by_cases hm : Mk = Mi
          · have HSB : Hid (sameBlk r i k = true) := Lib.hid (by rw [HSM.out, hm, decide_eq_true rfl]; rfl)
            subst hm
            clear HSM
            go_upto_region 6 with (fail)
            refine wp_region_held_drew (S := fun w' => Chg [] w1 w') (by kernel_rfl) ((HC.out.trans (Chg.drewN [] wr 1) (by simp))) (fun H0 => ?_)
            refine' tkH (i := 0) (v := _) rfl (Or.inl ⟨by rfl, ?hys0⟩) H0 ?rests0
            case hys0 =>
              intro w' hSw
              have s1 := hSw
              go_simp
              try with_reducible rfl
            (try simp only [Act.put, List.getElem_toArray, List.getElem_cons_zero, List.setIfInBounds_toArray, List.set_cons_zero, List.set_cons_succ])
            refine' tkH (i := 1) (v := _) rfl (Or.inl ⟨by rfl, ?hys1⟩) H0 ?rests1
            case hys1 =>
              intro w' hSw
              have s1 := hSw
              have hc := (show w'.cell? ⟨q, 23, none⟩ = some (.slice (some a) n c) by rw [cell_of_row _ _ _ _ _ _ ((s1.block q (lt_of_block HX0.out) (by simp)).trans HX0.out)]; exact HBL.out)
              go_simp
              try with_reducible rfl
            (try simp only [Act.put, List.getElem_toArray, List.getElem_cons_succ, List.getElem_cons_zero, List.setIfInBounds_toArray, List.set_cons_zero, List.set_cons_succ])
            refine' tkH (i := 2) (v := _) rfl (Or.inl ⟨by rfl, ?hys2⟩) H0 ?rests2
            case hys2 =>
              intro w' hSw
              have s1 := hSw
              go_simp
              try with_reducible rfl
            (try simp only [Act.put, List.getElem_toArray, List.getElem_cons_succ, List.getElem_cons_zero, List.setIfInBounds_toArray, List.set_cons_zero, List.set_cons_succ])
            refine' tkH (i := 3) (v := _) rfl (Or.inl ⟨by rfl, ?hys3⟩) H0 ?rests3
            case hys3 =>
              intro w' hSw
              have s1 := hSw
              go_simp
              try with_reducible rfl
            (try simp only [Act.put, List.getElem_toArray, List.getElem_cons_succ, List.getElem_cons_zero, List.setIfInBounds_toArray, List.set_cons_zero, List.set_cons_succ])
            refine' tkH (i := 4) (v := .agg Rk) rfl (Or.inl ⟨by rfl, ?hys4⟩) H0 ?rests4
            case hys4 =>
              intro w' hSw
              have s1 := hSw
              have hl := HLK.out w' (HC0.out.trans s1 (by simp))
              simp [execOp, Act.eval, hl, Result.andThen]
            (try simp only [Act.put, List.getElem_toArray, List.getElem_cons_succ, List.getElem_cons_zero, List.setIfInBounds_toArray, List.set_cons_zero, List.set_cons_succ])
            refine' tkH (i := 5) (v := _) rfl (Or.inl ⟨by rfl, ?hys5⟩) H0 ?rests5
            case hys5 =>
              intro w' hSw
              have s1 := hSw
              go_simp
              try with_reducible rfl
            (try simp only [Act.put, List.getElem_toArray, List.getElem_cons_succ, List.getElem_cons_zero, List.setIfInBounds_toArray, List.set_cons_zero, List.set_cons_succ])
            refine' tkH (i := 6) (v := _) rfl (Or.inl ⟨by rfl, ?hys6⟩) H0 ?rests6
            case hys6 =>
              intro w' hSw
              have s1 := hSw
              have hc := (show w'.cell? ⟨q, 23, none⟩ = some (.slice (some a) n c) by rw [cell_of_row _ _ _ _ _ _ ((s1.block q (lt_of_block HX0.out) (by simp)).trans HX0.out)]; exact HBL.out)
              go_simp
              try with_reducible rfl
            (try simp only [Act.put, List.getElem_toArray, List.getElem_cons_succ, List.getElem_cons_zero, List.setIfInBounds_toArray, List.set_cons_zero, List.set_cons_succ])
            refine' tkH (i := 7) (v := _) rfl (Or.inl ⟨by rfl, ?hys7⟩) H0 ?rests7
            case hys7 =>
              intro w' hSw
              have s1 := hSw
              go_simp
              try with_reducible rfl
            (try simp only [Act.put, List.getElem_toArray, List.getElem_cons_succ, List.getElem_cons_zero, List.setIfInBounds_toArray, List.set_cons_zero, List.set_cons_succ])
            refine' tkH (i := 8) (v := _) rfl (Or.inl ⟨by rfl, ?hys8⟩) H0 ?rests8
            case hys8 =>
              intro w' hSw
              have s1 := hSw
              go_simp
              try with_reducible rfl
            (try simp only [Act.put, List.getElem_toArray, List.getElem_cons_succ, List.getElem_cons_zero, List.setIfInBounds_toArray, List.set_cons_zero, List.set_cons_succ])
            refine' tkH (i := 9) (v := .agg Ri) rfl (Or.inl ⟨by rfl, ?hys9⟩) H0 ?rests9
            case hys9 =>
              intro w' hSw
              have s1 := hSw
              have hl := HLI.out w' (HC0.out.trans s1 (by simp))
              simp [execOp, Act.eval, hl, Result.andThen]
            (try simp only [Act.put, List.getElem_toArray, List.getElem_cons_succ, List.getElem_cons_zero, List.setIfInBounds_toArray, List.set_cons_zero, List.set_cons_succ])
            refine' tkH (i := 10) (v := .bool true) rfl (Or.inl ⟨by rfl, ?hys10⟩) H0 ?rests10
            case hys10 =>
              intro w' hSw
              have s1 := hSw
              have hqq := HQ.out w'
              simp [execOp, Act.eval, hash_guard, hqq, Result.andThen]
            (try simp only [Act.put, List.getElem_toArray, List.getElem_cons_succ, List.getElem_cons_zero, List.setIfInBounds_toArray, List.set_cons_zero, List.set_cons_succ])
            refine' tkH (i := 11) (v := _) rfl (Or.inl ⟨by rfl, ?hys11⟩) H0 ?rests11
            case hys11 =>
              intro w' hSw
              have s1 := hSw
              go_simp
              try with_reducible rfl
            (try simp only [Act.put, List.getElem_toArray, List.getElem_cons_succ, List.getElem_cons_zero, List.setIfInBounds_toArray, List.set_cons_zero, List.set_cons_succ])
            refine' tkH (i := 12) (v := .agg RC) rfl (Or.inl ⟨by rfl, ?hys12⟩) H0 ?rests12
            case hys12 =>
              intro w' hSw
              have s1 := hSw
              have hl := run_loadAt_rec w' q RC _ ((s1.block q (lt_of_block HX0.out) (by simp)).trans HX0.out) HRS.out
              simp [execOp, Act.eval, hl, Result.andThen]
            (try simp only [Act.put, List.getElem_toArray, List.getElem_cons_succ, List.getElem_cons_zero, List.setIfInBounds_toArray, List.set_cons_zero, List.set_cons_succ])
            refine' tkH (i := 13) (v := _) rfl (Or.inl ⟨by rfl, ?hys13⟩) H0 ?rests13
            case hys13 =>
              intro w' hSw
              have s1 := hSw
              go_simp
              try with_reducible rfl
            (try simp only [Act.put, List.getElem_toArray, List.getElem_cons_succ, List.getElem_cons_zero, List.setIfInBounds_toArray, List.set_cons_zero, List.set_cons_succ])
            refine' tkH (i := 15) (v := .agg RC) rfl (Or.inl ⟨by rfl, ?hys15⟩) H0 ?rests15
            case hys15 =>
              intro w' hSw
              have s1 := hSw
              have hl := run_loadAt_rec w' q RC _ ((s1.block q (lt_of_block HX0.out) (by simp)).trans HX0.out) HRS.out
              simp [execOp, Act.eval, hl, Result.andThen]
            (try simp only [Act.put, List.getElem_toArray, List.getElem_cons_succ, List.getElem_cons_zero, List.setIfInBounds_toArray, List.set_cons_zero, List.set_cons_succ])
            refine' tkH (i := 16) (v := _) rfl (Or.inl ⟨by rfl, ?hys16⟩) H0 ?rests16
            case hys16 =>
              intro w' hSw
              have s1 := hSw
              go_simp
              try with_reducible rfl
            (try simp only [Act.put, List.getElem_toArray, List.getElem_cons_succ, List.getElem_cons_zero, List.setIfInBounds_toArray, List.set_cons_zero, List.set_cons_succ])
            refine wpAnyH_ready (rs := [14]) (by kernel_rfl) (by simp) (AllReadyH.cons rfl (fun K hK => ?_) AllReadyH.nil)
            go_simp
            refine (KLk.out _ (HC0.out.trans H0 (by simp))).mono ?_
            rintro e wy14 ⟨rfl, Cy⟩
            go_simp
            refine hK.out _ _ (H0.trans Cy (by simp)) (fun H1 => ?_)
            clear hK K Cy
            refine wpAnyH_ready (rs := [17]) (by kernel_rfl) (by simp) (AllReadyH.cons rfl (fun K hK => ?_) AllReadyH.nil)
            go_simp
            refine (KLi.out _ (HC0.out.trans H1 (by simp))).mono ?_
            rintro e wy17 ⟨rfl, Cy⟩
            go_simp
            refine hK.out _ _ (H1.trans Cy (by simp)) (fun H2 => ?_)
            clear hK K Cy
            refine' tkH (i := 18) (v := _) rfl (Or.inl ⟨by rfl, ?hys18⟩) H2 ?rests18
            case hys18 =>
              intro w' hSw
              have s1 := hSw
              go_simp
              try with_reducible rfl
            (try simp only [Act.put, List.getElem_toArray, List.getElem_cons_succ, List.getElem_cons_zero, List.setIfInBounds_toArray, List.set_cons_zero, List.set_cons_succ])
            refine' tkH (i := 19) (v := _) rfl (Or.inl ⟨by rfl, ?hys19⟩) H2 ?rests19
            case hys19 =>
              intro w' hSw
              have s1 := hSw
              go_simp
              try with_reducible rfl
            (try simp only [Act.put, List.getElem_toArray, List.getElem_cons_succ, List.getElem_cons_zero, List.setIfInBounds_toArray, List.set_cons_zero, List.set_cons_succ])
            refine wpAnyH_done (by kernel_rfl) ?_ _
            have HCN := Lib.hid H2
            have HSV : Hid (SP = ⟨i, 3, ⟨#[]⟩, 0, k⟩) := Lib.hid (by rw [HSP.out, find_first hki HSB.out HB.out]; rfl)
            obtain ⟨hst, hh, CZ⟩ := step_put (⟨i, 3, ⟨#[]⟩, 0, k⟩ : StepV) (HX8C.out wy17 (HCN.out)) rfl HQ8.out ((HC0.out).trans (HCN.out) (by simp))
            simp only [StepV.cells] at hst hh CZ
            go_wp2_with (refine wpList_store_y 85 (.tmp 8) (.tmp 48) rfl (by first | rfl | go_simp) (.pointer (some ⟨q + 1, 0, none⟩)) (.agg ((⟨i, 3, ⟨#[]⟩, 0, k⟩ : StepV)).cells) _ hst rfl rfl ?_)
            exact bodyPost_ret (v := .agg ((⟨i, 3, ⟨#[]⟩, 0, k⟩ : StepV)).cells) (results_cell_row rfl _ _ _ _ ((⟨i, 3, ⟨#[]⟩, 0, k⟩ : StepV)).cells _ _ rfl hh Tryd.underlying85 rfl infoStep) rfl ⟨by rw [HSV.out], CZ⟩
          · have hm2 : ¬ (Mk : Int) = (Mi : Int) := by omega
            have HSB : Hid (sameBlk r i k = false) := Lib.hid (by rw [HSM.out, decide_eq_false hm2]; rfl)
            clear HSM
            go_upto_region 6 with (fail)
            refine wp_region_held_drew (S := fun w' => Chg [] w1 w') (by kernel_rfl) ((HC.out.trans (Chg.drewN [] wr 1) (by simp))) (fun H0 => ?_)
            refine' tkH (i := 0) (v := _) rfl (Or.inl ⟨by rfl, ?hym0⟩) H0 ?restm0
            case hym0 =>
              intro w' hSw
              have s1 := hSw
              go_simp
              try with_reducible rfl
            (try simp only [Act.put, List.getElem_toArray, List.getElem_cons_zero, List.setIfInBounds_toArray, List.set_cons_zero, List.set_cons_succ])
            refine' tkH (i := 1) (v := _) rfl (Or.inl ⟨by rfl, ?hym1⟩) H0 ?restm1
            case hym1 =>
              intro w' hSw
              have s1 := hSw
              have hc := (show w'.cell? ⟨q, 23, none⟩ = some (.slice (some a) n c) by rw [cell_of_row _ _ _ _ _ _ ((s1.block q (lt_of_block HX0.out) (by simp)).trans HX0.out)]; exact HBL.out)
              go_simp
              try with_reducible rfl
            (try simp only [Act.put, List.getElem_toArray, List.getElem_cons_succ, List.getElem_cons_zero, List.setIfInBounds_toArray, List.set_cons_zero, List.set_cons_succ])
            refine' tkH (i := 2) (v := _) rfl (Or.inl ⟨by rfl, ?hym2⟩) H0 ?restm2
            case hym2 =>
              intro w' hSw
              have s1 := hSw
              go_simp
              try with_reducible rfl
            (try simp only [Act.put, List.getElem_toArray, List.getElem_cons_succ, List.getElem_cons_zero, List.setIfInBounds_toArray, List.set_cons_zero, List.set_cons_succ])
            refine' tkH (i := 3) (v := _) rfl (Or.inl ⟨by rfl, ?hym3⟩) H0 ?restm3
            case hym3 =>
              intro w' hSw
              have s1 := hSw
              go_simp
              try with_reducible rfl
            (try simp only [Act.put, List.getElem_toArray, List.getElem_cons_succ, List.getElem_cons_zero, List.setIfInBounds_toArray, List.set_cons_zero, List.set_cons_succ])
            refine' tkH (i := 4) (v := .agg Rk) rfl (Or.inl ⟨by rfl, ?hym4⟩) H0 ?restm4
            case hym4 =>
              intro w' hSw
              have s1 := hSw
              have hl := HLK.out w' (HC0.out.trans s1 (by simp))
              simp [execOp, Act.eval, hl, Result.andThen]
            (try simp only [Act.put, List.getElem_toArray, List.getElem_cons_succ, List.getElem_cons_zero, List.setIfInBounds_toArray, List.set_cons_zero, List.set_cons_succ])
            refine' tkH (i := 5) (v := _) rfl (Or.inl ⟨by rfl, ?hym5⟩) H0 ?restm5
            case hym5 =>
              intro w' hSw
              have s1 := hSw
              go_simp
              try with_reducible rfl
            (try simp only [Act.put, List.getElem_toArray, List.getElem_cons_succ, List.getElem_cons_zero, List.setIfInBounds_toArray, List.set_cons_zero, List.set_cons_succ])
            refine' tkH (i := 6) (v := _) rfl (Or.inl ⟨by rfl, ?hym6⟩) H0 ?restm6
            case hym6 =>
              intro w' hSw
              have s1 := hSw
              have hc := (show w'.cell? ⟨q, 23, none⟩ = some (.slice (some a) n c) by rw [cell_of_row _ _ _ _ _ _ ((s1.block q (lt_of_block HX0.out) (by simp)).trans HX0.out)]; exact HBL.out)
              go_simp
              try with_reducible rfl
            (try simp only [Act.put, List.getElem_toArray, List.getElem_cons_succ, List.getElem_cons_zero, List.setIfInBounds_toArray, List.set_cons_zero, List.set_cons_succ])
            refine' tkH (i := 7) (v := _) rfl (Or.inl ⟨by rfl, ?hym7⟩) H0 ?restm7
            case hym7 =>
              intro w' hSw
              have s1 := hSw
              go_simp
              try with_reducible rfl
            (try simp only [Act.put, List.getElem_toArray, List.getElem_cons_succ, List.getElem_cons_zero, List.setIfInBounds_toArray, List.set_cons_zero, List.set_cons_succ])
            refine' tkH (i := 8) (v := _) rfl (Or.inl ⟨by rfl, ?hym8⟩) H0 ?restm8
            case hym8 =>
              intro w' hSw
              have s1 := hSw
              go_simp
              try with_reducible rfl
            (try simp only [Act.put, List.getElem_toArray, List.getElem_cons_succ, List.getElem_cons_zero, List.setIfInBounds_toArray, List.set_cons_zero, List.set_cons_succ])
            refine' tkH (i := 9) (v := .agg Ri) rfl (Or.inl ⟨by rfl, ?hym9⟩) H0 ?restm9
            case hym9 =>
              intro w' hSw
              have s1 := hSw
              have hl := HLI.out w' (HC0.out.trans s1 (by simp))
              simp [execOp, Act.eval, hl, Result.andThen]
            (try simp only [Act.put, List.getElem_toArray, List.getElem_cons_succ, List.getElem_cons_zero, List.setIfInBounds_toArray, List.set_cons_zero, List.set_cons_succ])
            refine' tkH (i := 10) (v := .bool true) rfl (Or.inl ⟨by rfl, ?hym10⟩) H0 ?restm10
            case hym10 =>
              intro w' hSw
              have s1 := hSw
              have hqq := HQ.out w'
              simp [execOp, Act.eval, hash_guard, hqq, Result.andThen]
            (try simp only [Act.put, List.getElem_toArray, List.getElem_cons_succ, List.getElem_cons_zero, List.setIfInBounds_toArray, List.set_cons_zero, List.set_cons_succ])
            refine' tkH (i := 11) (v := _) rfl (Or.inl ⟨by rfl, ?hym11⟩) H0 ?restm11
            case hym11 =>
              intro w' hSw
              have s1 := hSw
              go_simp
              try with_reducible rfl
            (try simp only [Act.put, List.getElem_toArray, List.getElem_cons_succ, List.getElem_cons_zero, List.setIfInBounds_toArray, List.set_cons_zero, List.set_cons_succ])
            refine' tkH (i := 12) (v := .agg RC) rfl (Or.inl ⟨by rfl, ?hym12⟩) H0 ?restm12
            case hym12 =>
              intro w' hSw
              have s1 := hSw
              have hl := run_loadAt_rec w' q RC _ ((s1.block q (lt_of_block HX0.out) (by simp)).trans HX0.out) HRS.out
              simp [execOp, Act.eval, hl, Result.andThen]
            (try simp only [Act.put, List.getElem_toArray, List.getElem_cons_succ, List.getElem_cons_zero, List.setIfInBounds_toArray, List.set_cons_zero, List.set_cons_succ])
            refine' tkH (i := 13) (v := _) rfl (Or.inl ⟨by rfl, ?hym13⟩) H0 ?restm13
            case hym13 =>
              intro w' hSw
              have s1 := hSw
              go_simp
              try with_reducible rfl
            (try simp only [Act.put, List.getElem_toArray, List.getElem_cons_succ, List.getElem_cons_zero, List.setIfInBounds_toArray, List.set_cons_zero, List.set_cons_succ])
            refine' tkH (i := 15) (v := .agg RC) rfl (Or.inl ⟨by rfl, ?hym15⟩) H0 ?restm15
            case hym15 =>
              intro w' hSw
              have s1 := hSw
              have hl := run_loadAt_rec w' q RC _ ((s1.block q (lt_of_block HX0.out) (by simp)).trans HX0.out) HRS.out
              simp [execOp, Act.eval, hl, Result.andThen]
            (try simp only [Act.put, List.getElem_toArray, List.getElem_cons_succ, List.getElem_cons_zero, List.setIfInBounds_toArray, List.set_cons_zero, List.set_cons_succ])
            refine' tkH (i := 16) (v := _) rfl (Or.inl ⟨by rfl, ?hym16⟩) H0 ?restm16
            case hym16 =>
              intro w' hSw
              have s1 := hSw
              go_simp
              try with_reducible rfl
            (try simp only [Act.put, List.getElem_toArray, List.getElem_cons_succ, List.getElem_cons_zero, List.setIfInBounds_toArray, List.set_cons_zero, List.set_cons_succ])
            refine wpAnyH_ready (rs := [14]) (by kernel_rfl) (by simp) (AllReadyH.cons rfl (fun K hK => ?_) AllReadyH.nil)
            go_simp
            refine (KLk.out _ (HC0.out.trans H0 (by simp))).mono ?_
            rintro e wy14 ⟨rfl, Cy⟩
            go_simp
            refine hK.out _ _ (H0.trans Cy (by simp)) (fun H1 => ?_)
            clear hK K Cy
            refine wpAnyH_ready (rs := [17]) (by kernel_rfl) (by simp) (AllReadyH.cons rfl (fun K hK => ?_) AllReadyH.nil)
            go_simp
            refine (KLi.out _ (HC0.out.trans H1 (by simp))).mono ?_
            rintro e wy17 ⟨rfl, Cy⟩
            go_simp
            refine hK.out _ _ (H1.trans Cy (by simp)) (fun H2 => ?_)
            clear hK K Cy
            refine' tkH (i := 18) (v := .bool false) rfl (Or.inl ⟨by rfl, ?hym18⟩) H2 ?restm18
            case hym18 =>
              intro w' hSw
              have s1 := hSw
              go_simp
              try (first | exact hm | simp [hm])
            (try simp only [Act.put, List.getElem_toArray, List.getElem_cons_succ, List.getElem_cons_zero, List.setIfInBounds_toArray, List.set_cons_zero, List.set_cons_succ])
            refine' tkH (i := 19) (v := _) rfl (Or.inl ⟨by rfl, ?hym19⟩) H2 ?restm19
            case hym19 =>
              intro w' hSw
              have s1 := hSw
              go_simp
              try with_reducible rfl
            (try simp only [Act.put, List.getElem_toArray, List.getElem_cons_succ, List.getElem_cons_zero, List.setIfInBounds_toArray, List.set_cons_zero, List.set_cons_succ])
            refine wpAnyH_done (by kernel_rfl) ?_ _
            have HCN := Lib.hid H2
            have HB2 : Hid (∀ t, t < k + 1 → sameBlk r i t = false) := Lib.hid (fun t ht => (Nat.lt_succ_iff_lt_or_eq.1 ht).elim (HB.out t) (fun e => by rw [e]; exact HSB.out))
            clear H0 HB HC
            go_wp2_with fail
            go_roundw
            case rel => exact ⟨k + 1, by go_num, hki, HB2, HCN⟩
            case measure => simp [intOf] <;> omega
      · have e1 : ¬ (k : Int) < i := fun h => hki (Int.ofNat_lt.1 h)
        have hkk : k = i := by omega
        have HFD : Hid (SP = stepFd r i (fo (hkey f))) := Lib.hid (by rw [HSP.out, find_no (fun t ht => HB.out t (by omega)), HDI.out]; rfl)
        have c23 : wr.cell? ⟨q, 23, none⟩ = some (.slice (some a) n c) := by rw [cell_of_row _ _ _ _ _ _ ((HC.out.block q (lt_of_block HX0.out) (by simp)).trans HX0.out)]; exact HBL.out
        have e3 : (i : Int) < n := by omega
        have e4 : (0 : Int) ≤ i := Int.natCast_nonneg _
        have hic : i < c := by omega
        have hl := HLI.out wr (HC0.out.trans HC.out (by simp))
        obtain ⟨o, ho⟩ : ∃ o, fo (hkey f) = o := ⟨_, rfl⟩
        have hX128 := HFO.out (hkey f)
        rw [ho] at HFD hX128
        have KF := Lib.hid (fun (w' : World) (C : Chg [] w w') => by
          have := HF.out w' (hkey f) C
          rewrite [hkV_hkey, hashV, HRI.out, ho] at this
          exact this)
        obtain ⟨X2, hX⟩ : ∃ X, fX o = X := ⟨_, rfl⟩
        obtain ⟨XN, hXN⟩ : ∃ XN, X2.length = XN := ⟨_, rfl⟩
        obtain ⟨mn, hmn⟩ : ∃ mn, (fM o).1 = mn := ⟨_, rfl⟩
        obtain ⟨mb, hmb⟩ : ∃ mb, (fM o).2 = mb := ⟨_, rfl⟩
        obtain ⟨ok, hok⟩ : ∃ ok, o.isSome = ok := ⟨_, rfl⟩
        rw [hX, hXN] at hX128
        have hpl : plC (fM o) = #[.string mn, .int .i64 mb] := by rw [plC, hmn, hmb]
        have HNO : Hid (ok = false ∨ (XN : Int) ≠ Mi → SP = ⟨i, 4, ⟨#[]⟩, 0, 0⟩) := Lib.hid (fun h => by rw [HFD.out]; exact stepFd_no (by rw [hok, hX, hXN, HMI.out]; exact h))
        have HYES : Hid (ok = true → (XN : Int) = Mi → SP = ⟨i, 2, mn, mb, 0⟩) := Lib.hid (fun h h2 => by rw [HFD.out, ← hmn, ← hmb]; exact stepFd_yes (by rw [hok]; exact h) (by rw [hX, hXN, HMI.out]; exact h2))
        have HV1 := Lib.hid hX
        have HV2 := Lib.hid hXN
        have HV5 := Lib.hid hok
        have HV6 := Lib.hid hpl
        clear ho hX hXN hmn hmb hok hpl HSP HB hkk HFD
        go_wp2_with (refine wpList_load_y 32 (.tmp 55) rfl (by go_simp) (.pointer (some (a.add (i * 32)))) (.agg Ri) hl rfl ?_)
        refine (KF.out wr (HC0.out.trans HC.out (by simp))).mono ?_
        rintro e w5 h5
        obtain ⟨C5, fa, fc, rfl, _, _⟩ := found_any h5
        rw [HV1.out, HV2.out, HV5.out, HV6.out]
        have HC5 := Lib.hid (HC.out.trans C5 (by simp))
        have hn6 := heap_alloc_new w5 (.cells #[.string mn, .int .i64 mb] 57)
        have C6 := Chg.alloc [] w5 (.cells #[.string mn, .int .i64 mb] 57)
        clear h5 C5 hl c23
        go_upto_region 10 with (fail)
        obtain ⟨qp, hqp⟩ : ∃ qp, w5.heap.size = qp := ⟨_, rfl⟩
        rw [hqp] at hn6 ⊢
        generalize w5.alloc (.cells #[.string mn, .int .i64 mb] 57) = w6 at *
        have HC6 := Lib.hid (HC5.out.trans C6 (by simp))
        have HN6 := Lib.hid hn6
        have hldr := run_loadAt_rec w6 q RC _ ((HC6.out.block q (lt_of_block HX0.out) (by simp)).trans HX0.out) HRS.out
        clear C6 hn6 hqp
        cases ok with
        | false =>
          have HSV := Lib.hid (HNO.out (.inl rfl))
          clear HNO HYES
          obtain ⟨hst, hh, CZ⟩ := step_put (⟨i, 4, ⟨#[]⟩, 0, 0⟩ : StepV) (HX8C.out w6 (HC6.out)) rfl HQ8.out ((HC0.out).trans (HC6.out) (by simp))
          simp only [StepV.cells] at hst hh CZ
          go_wp2_with (refine wpList_store_y 85 (.tmp 8) (.tmp 74) rfl (by first | rfl | go_simp) (.pointer (some ⟨q + 1, 0, none⟩)) (.agg ((⟨i, 4, ⟨#[]⟩, 0, 0⟩ : StepV)).cells) _ hst rfl rfl ?_)
          exact bodyPost_ret (v := .agg ((⟨i, 4, ⟨#[]⟩, 0, 0⟩ : StepV)).cells) (results_cell_row rfl _ _ _ _ ((⟨i, 4, ⟨#[]⟩, 0, 0⟩ : StepV)).cells _ _ rfl hh Tryd.underlying85 rfl infoStep) rfl ⟨by rw [HSV.out], CZ⟩
        | true =>
          go_wp2_with (refine wpList_load_y 77 (.tmp 4) rfl (by go_simp) (.pointer (some ⟨q, 0, none⟩)) (.agg RC) hldr rfl ?_)
          refine (KLi.out w6 (HC0.out.trans HC6.out (by simp))).mono ?_
          rintro e w7 ⟨rfl, C7⟩
          have HC7 := Lib.hid (HC6.out.trans C7 (by simp))
          have hx7 := (C7.block qp (lt_of_block HN6.out) (by simp)).trans HN6.out
          have p0 : w7.cell? ⟨qp, 0, none⟩ = some (.string mn) := by rw [cell_of_row _ _ _ _ _ _ hx7]; rfl
          have p1 : w7.cell? ⟨qp, 1, none⟩ = some (.int .i64 mb) := by rw [cell_of_row _ _ _ _ _ _ hx7]; rfl
          clear C7 hx7 hldr
          by_cases hm : (XN : Int) = (Mi : Int)
          · have HSV := Lib.hid (HYES.out (by simp) hm)
            have hm3 : XN = Mi := by omega
            clear HNO HYES
            obtain ⟨hst, hh, CZ⟩ := step_put (⟨i, 2, mn, mb, 0⟩ : StepV) (HX8C.out w7 (HC7.out)) rfl HQ8.out ((HC0.out).trans (HC7.out) (by simp))
            simp only [StepV.cells] at hst hh CZ
            go_wp2_with (refine wpList_store_y 85 (.tmp 8) (.tmp 72) rfl (by first | rfl | go_simp) (.pointer (some ⟨q + 1, 0, none⟩)) (.agg ((⟨i, 2, mn, mb, 0⟩ : StepV)).cells) _ hst rfl rfl ?_)
            exact bodyPost_ret (v := .agg ((⟨i, 2, mn, mb, 0⟩ : StepV)).cells) (results_cell_row rfl _ _ _ _ ((⟨i, 2, mn, mb, 0⟩ : StepV)).cells _ _ rfl hh Tryd.underlying85 rfl infoStep) rfl ⟨by rw [HSV.out], CZ⟩
          · have HSV := Lib.hid (HNO.out (.inr hm))
            have hm3 : ¬ XN = Mi := by omega
            clear HNO HYES
            obtain ⟨hst, hh, CZ⟩ := step_put (⟨i, 4, ⟨#[]⟩, 0, 0⟩ : StepV) (HX8C.out w7 (HC7.out)) rfl HQ8.out ((HC0.out).trans (HC7.out) (by simp))
            simp only [StepV.cells] at hst hh CZ
            go_wp2_with (refine wpList_store_y 85 (.tmp 8) (.tmp 74) rfl (by first | rfl | go_simp) (.pointer (some ⟨q + 1, 0, none⟩)) (.agg ((⟨i, 4, ⟨#[]⟩, 0, 0⟩ : StepV)).cells) _ hst rfl rfl ?_)
            exact bodyPost_ret (v := .agg ((⟨i, 4, ⟨#[]⟩, 0, 0⟩ : StepV)).cells) (results_cell_row rfl _ _ _ _ ((⟨i, 4, ⟨#[]⟩, 0, 0⟩ : StepV)).cells _ _ rfl hh Tryd.underlying85 rfl infoStep) rfl ⟨by rw [HSV.out], CZ⟩
end Go.Proofs.YtfdhpjflkimihaaDoor
/- The copier's Plan, walked. No conditions beyond those that each statement types. -/
namespace Go.Proofs.YtfdhpjflkimihaaDoor
open Go.RowKit

def svs (l : List StepV) : List Value := l.flatMap fun s => s.cells.toList
theorem svs_append (a b : List StepV) : svs (a ++ b) = svs a ++ svs b := by simp [svs]
def planL (r : RecV) (N : Nat) (T : List UInt8) (fo : HKey → Option (Pl × List UInt8)) (k : Nat) : List StepV := (List.range k).map (stepPl r N T fo)
theorem planL_succ (r : RecV) (N : Nat) (T : List UInt8) (fo : HKey → Option (Pl × List UInt8)) (k : Nat) : planL r N T fo (k + 1) = planL r N T fo k ++ [stepPl r N T fo k] := by
  unfold planL
  rw [List.range_succ, List.map_append]
  rfl
theorem planL_len (r : RecV) (N : Nat) (T : List UInt8) (fo : HKey → Option (Pl × List UInt8)) (k : Nat) : (planL r N T fo k).length = k := by simp [planL]
/-- A plan that is handed back. -/
def Planned (w : World) (l : List StepV) (e : Ending) (w' : World) : Prop :=
  Chg [] w w' ∧ ∃ po pc, e = .returned (.tuple #[.slice po l.length pc, .int .i64 0]) ∧ w'.ownsRow 0 85 5 (.slice po l.length pc) l.length (svs l) ∧ ∀ k, (Value.slice po l.length pc).ownBlock = some k → w.heap.size ≤ k
theorem infoStepU : (Tryd.prog.info? 85).map (fun i => (i.zero, i.size, i.bytes)) = some (some (.agg #[.int .i64 0, .int .i64 0, .string ⟨#[]⟩, .int .i64 0, .int .i64 0]), 5, 48) := by kernel_rfl
set_option maxRecDepth 100000 in
theorem cp_plan_not (RC : Array Value) (r : RecV) (ao : Option Addr) (c : Nat) (hw : r.want ≠ 0) (p : Option Addr) (tv : Value) (w : World) (H : RecIs w RC r ao c) :
    Calls Tryd.prog 44 #[.agg RC, .pointer p, tv] w fun e w' => e = .returned (.tuple #[.slice none 0 0, .int .i64 r.want]) ∧ Chg [] w w' := by
  have hx0 := heap_alloc_new w (.cells RC 77)
  have C0 := Chg.alloc [] w (.cells RC 77)
  have KW := Lib.hid (fun w' (C : Chg [] w w') => cp_wanted RC r ao c w' (H.chg0 C))
  have hldr := run_loadAt_rec _ _ RC _ hx0 H.size
  generalize r.want = W at *
  clear H hx0
  go_enter Tryd.func44, Tryd.ntmps44
  go_wp2_with (refine wpList_load_y 77 (.tmp 3) rfl (by go_simp) (.pointer (some ⟨w.heap.size, 0, none⟩)) (.agg RC) hldr rfl ?_)
  refine (KW.out _ C0).mono ?_
  rintro e w2 ⟨rfl, C2⟩
  have HC2 := Lib.hid (C0.trans C2 (by simp))
  clear C0 C2 hldr
  go_wp2_with fail
  go_ret2
  exact ⟨rfl, HC2.out⟩
set_option maxRecDepth 100000 in
set_option maxHeartbeats 4000000 in
theorem cp_plan (RC : Array Value) (r : RecV) (ao : Option Addr) (c : Nat) (N : Nat) (g : r.Good N) (p : Option Addr) (fo : HKey → Option (Pl × List UInt8)) (ta : Option Addr) (tc : Nat) (T : List UInt8) (w : World) (hL : Laid w) (H : RecIs w RC r ao c) (hF : FindsAs w p fo) (hfo : ∀ k, (fX (fo k)).length ≤ 128) (hs : Src w ta (bvs T)) (hT : T.length ≤ 9223372036854775807) (htc : T.length ≤ tc) (h0 : ta = none → tc = 0) :
    Calls Tryd.prog 44 #[.agg RC, .pointer p, .slice ta T.length tc] w (Planned w (planL r N T fo (cntN N))) := by
  have hx0 := heap_alloc_new w (.cells RC 77)
  have C0 := Chg.alloc [] w (.cells RC 77)
  have KW := Lib.hid (fun w' (C : Chg [] w w') => by
    have := cp_wanted RC r ao c w' (H.chg0 C)
    rewrite [g.want] at this
    exact this)
  have KS := Lib.hid (fun (i : Nat) (hi : i < cntN N) w' (C : Chg [] w w') => cp_step RC r ao c N g i hi p fo ta tc T w' (hL.chg C (by simp)) (H.chg0 C) (hF.chg C) hfo (hs.chg C (by simp)) hT htc h0)
  obtain ⟨n, hn⟩ : ∃ n, cntN N = n := ⟨_, rfl⟩
  have hn32 : n ≤ 32 := by rw [← hn]; exact cntN_le N
  have hbl := H.bl
  rw [g.len, hn] at hbl
  rw [hn] at KS ⊢
  have HBL := Lib.hid hbl
  have HRS := Lib.hid H.size
  obtain ⟨tn, htn⟩ : ∃ tn, T.length = tn := ⟨_, rfl⟩
  rw [htn] at KS ⊢
  have HPS := Lib.hid (planL_succ r N T fo)
  have HP0 : Hid (planL r N T fo 0 = []) := Lib.hid rfl
  have HPL := Lib.hid (planL_len r N T fo)
  generalize planL r N T fo = PL at *
  generalize stepPl r N T fo = SP at *
  clear H hL hF hfo hs hT htc h0 hn hbl htn g
  go_enter Tryd.func44, Tryd.ntmps44
  go_upto_region 1 with (fail)
  obtain ⟨q, hq⟩ : ∃ q, w.heap.size = q := ⟨_, rfl⟩
  rw [hq] at hx0 ⊢
  generalize w.alloc (.cells RC 77) = w1 at *
  have HC0 := Lib.hid C0
  have HX0 := Lib.hid hx0
  have HLDR := Lib.hid (fun (w' : World) (C : Chg [] w1 w') => run_loadAt_rec w' q RC _ ((C.block q (lt_of_block hx0) (by simp)).trans hx0) HRS.out)
  have hldr := HLDR.out w1 (Chg.refl _ _)
  clear hq hx0 C0
  go_wp2_with (refine wpList_load_y 77 (.tmp 3) rfl (by go_simp) (.pointer (some ⟨q, 0, none⟩)) (.agg RC) hldr rfl ?_)
  refine (KW.out _ HC0.out).mono ?_
  rintro e w2 ⟨rfl, C2⟩
  have HC2 := Lib.hid C2
  have c23 : w2.cell? ⟨q, 23, none⟩ = some (.slice ao n c) := by rw [cell_of_row _ _ _ _ _ _ ((C2.block q (lt_of_block HX0.out) (by simp)).trans HX0.out)]; exact HBL.out
  clear C2 hldr
  go_wp2_with fail
  go_loopw [6, 18] (fun v6 v18 wr => ∃ (k c' : Nat) (ao' : Option Addr), v6 = .slice ao' k c' ∧ v18 = .int .i64 (k : Int) ∧ k ≤ n ∧ Hid (wr.ownsRow 0 85 5 (.slice ao' k c') k (svs (PL k))) ∧ Hid (∀ b, (Value.slice ao' k c').ownBlock = some b → w1.heap.size ≤ b) ∧ Hid (Chg [] w1 wr)) (fun _ v _ => n - (intOf v).toNat)
  case atStart => exact ⟨0, 0, none, rfl, rfl, Nat.zero_le _, Lib.hid (by rw [HP0.out]; exact World.ownsRow_nil _ _ _ _), Lib.hid (fun b hb => by cases hb), HC2⟩
  case round =>
    obtain ⟨k, c', ao', rfl, rfl, hk, HO, HNW, HC⟩ := hrel
    clear c23
    by_cases hlt : k < n
    · have e1 : (k : Int) < n := Int.ofNat_lt.2 hlt
      have hldr := HLDR.out wr HC.out
      have K1 := KS.out k hlt wr (HC0.out.trans HC.out (by simp))
      have HPK := Lib.hid (HPS.out k)
      generalize SP k = s at *
      obtain ⟨s1, s2, s3, s4, s5⟩ := s
      simp only [StepV.cells] at K1
      have HK1 := Lib.hid K1
      clear K1
      go_wp2_with (refine wpList_load_y 77 (.tmp 3) rfl (by go_simp) (.pointer (some ⟨q, 0, none⟩)) (.agg RC) hldr rfl ?_)
      refine HK1.out.mono ?_
      rintro e w3 ⟨rfl, C3⟩
      obtain ⟨ip, hip, hipz, hips, hipb⟩ := info_parts infoStepU
      have CA := Chg.alloc [] w3 (.cells #[.int .i64 s1, .int .i64 s2, .string s3, .int .i64 s4, .int .i64 s5] 85)
      have hown := ownsRow_chg (ownsRow_chg HO.out C3 (by simp)) CA (by simp)
      have hsrc := src_row w3 #[.int .i64 s1, .int .i64 s2, .string s3, .int .i64 s4, .int .i64 s5] 85 (0, 0)
      have hgs := C3.size
      go_wp2_with (at_builtin; go_loud (refine wpList_append_y (.tmp 21) (.tmp 27) 81 rfl rfl 85 ip _ 5 48 Tryd.underlying81 hip hipz hips hipb rfl (by decide) (.slice ao' k c') k (svs (PL k)) hown (some ⟨w3.heap.size, 0, none⟩) 1 1 [.int .i64 s1, .int .i64 s2, .string s3, .int .i64 s4, .int .i64 s5] rfl hsrc (fun h => by cases h) (by simp [Value.oneCell']) (by unfold maxLen; omega) (by omega) rfl rfl ?_))
      intro ao2 c3 w5 hown5 hgr hblk
      have CG := Chg.grown hgr (S := (Value.slice ao' k c').ownBlock.toList) (fun b hb => .inl (by simp [hb]))
      have HC5 : Hid (Chg [] w1 w5) := Lib.hid (((HC.out.trans C3 (by simp)).trans CA (by simp)).trans CG (fun b hb => .inr (HNW.out b (by simpa using hb))))
      have HN5 : Hid (∀ b, (Value.slice ao2 (k + 1) c3).ownBlock = some b → w1.heap.size ≤ b) := Lib.hid (fun b hb => by
        rcases hblk with h | h <;> rw [h] at hb
        · exact HNW.out b hb
        · simp at hb
          have h1 := HC.out.size
          omega)
      have HO5 : Hid (w5.ownsRow 0 85 5 (.slice ao2 (k + 1) c3) (k + 1) (svs (PL (k + 1)))) := Lib.hid (by rw [HPK.out, svs_append]; exact hown5)
      clear hown5 hgr hblk hown hsrc hip hipz hips hipb CA CG C3 hgs hldr HPK
      go_wp2_with fail
      go_roundw
      case rel => exact ⟨k + 1, c3, ao2, rfl, by go_num, hlt, HO5, HN5, HC5⟩
      case measure => simp [intOf] <;> omega
    · have e1 : ¬ (k : Int) < n := fun h => hlt (Int.ofNat_lt.1 h)
      have hkn : k = n := by omega
      have HLN : Hid ((PL n).length = k) := Lib.hid (by rw [HPL.out, hkn])
      have HO' : Hid (wr.ownsRow 0 85 5 (.slice ao' k c') k (svs (PL n))) := Lib.hid (by rw [← hkn]; exact HO.out)
      clear HO hkn
      go_wp2_with fail
      go_ret2
      exact ⟨HC0.out.trans HC.out (by simp), ao', c', by rw [HLN.out]; rfl, by rw [HLN.out]; exact HO'.out, by rw [HLN.out]; exact fun b hb => Nat.le_trans HC0.out.size (HNW.out b hb)⟩
end Go.Proofs.YtfdhpjflkimihaaDoor
/- The copier's Asked, walked. No conditions beyond those that each statement types. -/
namespace Go.Proofs.YtfdhpjflkimihaaDoor
open Go.RowKit

def nvs (l : List Int) : List Value := l.map (Value.int .i64)
theorem nvs_append (a b : List Int) : nvs (a ++ b) = nvs a ++ nvs b := by simp [nvs]
def askL (l : List StepV) : List Int := (l.filter fun s => decide (s.from_ = 4)).map (·.block)
theorem askL_next {l : List StepV} {k : Nat} {s : StepV} (h : l[k]? = some s) : askL (l.take (k + 1)) = askL (l.take k) ++ if s.from_ = 4 then [s.block] else [] := by
  unfold askL
  rw [take_nextE h, List.filter_append, List.map_append]
  congr 1
  by_cases g : s.from_ = 4
  · simp [g]
  · simp [g]
theorem askL_len (l : List StepV) : (askL l).length ≤ l.length := by unfold askL; rw [List.length_map]; exact List.length_filter_le _ _
theorem load_step {w : World} {a : Addr} {l : List StepV} (hs : Src w (some a) (svs l)) {i : Nat} {s : StepV} (h : l[i]? = some s) :
    (Instr.loadAt 85 (.pointer (some (a.add (i * 5))))).run Tryd.prog w = .ok (.agg s.cells) w := by
  have h := src_flat (w := w) (a := a) (cells := fun s : StepV => s.cells.toList) (size := 5) (fun _ => rfl) (hs.cell a rfl) h
  exact run_loadAt_any _ _ s.cells.toList _ h Tryd.underlying85 rfl infoStep
theorem infoIntU : (Tryd.prog.info? 3).map (fun i => (i.zero, i.size, i.bytes)) = some (some (.int .i64 0), 1, 8) := by kernel_rfl
/-- Numbers in new memory. -/
def IntsTo (w : World) (l : List Int) (e : Ending) (w' : World) : Prop :=
  ∃ po pc, e = .returned (.slice po l.length pc) ∧ w'.ownsRow 0 3 1 (.slice po l.length pc) l.length (nvs l) ∧ (∀ k, (Value.slice po l.length pc).ownBlock = some k → w.heap.size ≤ k) ∧ Chg [] w w'
set_option maxRecDepth 100000 in
set_option maxHeartbeats 4000000 in
theorem cp_asked (l : List StepV) (so : Option Addr) (sc : Nat) (w : World) (hs : Src w so (svs l)) (hlc : l.length ≤ sc) (hl : l.length ≤ 1000000) :
    Calls Tryd.prog 50 #[.slice so l.length sc] w (IntsTo w (askL l)) := by
  have HST := Lib.hid (fun (k : Nat) (s : StepV) (h : l[k]? = some s) (wr : World) (C : Chg [] w wr) => show ∃ a, so = some a ∧ (Instr.loadAt 85 (.pointer (some (a.add (k * 5))))).run Tryd.prog wr = .ok (.agg s.cells) wr from by
    obtain ⟨a, rfl, _⟩ := hs.lt (by
      have h1 := (List.getElem?_eq_some_iff.1 h).1
      rw [show (svs l).length = l.length * 5 from flat_length (enc := fun s : StepV => s.cells.toList) (size := 5) (fun _ => rfl) l]
      omega)
    exact ⟨a, rfl, load_step (hs.chg C (by simp)) h⟩)
  have HAN := Lib.hid (fun (k : Nat) (s : StepV) (h : l[k]? = some s) => askL_next h)
  have HGE := Lib.hid (fun k (hk : k < l.length) => show ∃ s, l[k]? = some s from ⟨_, List.getElem?_eq_getElem hk⟩)
  have HLE := Lib.hid (fun k => Nat.le_trans (askL_len (l.take k)) (List.length_take_le k l))
  have HA0 : Hid (askL (l.take 0) = []) := Lib.hid rfl
  have HAL : Hid (l.take l.length = l) := Lib.hid (List.take_of_length_le (Nat.le_refl _))
  obtain ⟨n, hn⟩ : ∃ n, l.length = n := ⟨_, rfl⟩
  rw [hn] at hl hlc HGE HAL ⊢
  obtain ⟨i0, hi0, hz0, hz1, hz2⟩ := info_parts infoIntU
  clear hs hn
  go_enter Tryd.func50, Tryd.ntmps50
  go_wp2_with fail
  go_loopw [2, 7] (fun v2 v7 wr => ∃ (k m c' : Nat) (ao' : Option Addr), v2 = .slice ao' m c' ∧ v7 = .int .i64 (k : Int) ∧ k ≤ n ∧ m ≤ k ∧ Hid ((askL (l.take k)).length = m) ∧ Hid (wr.ownsRow 0 3 1 (.slice ao' m c') m (nvs (askL (l.take k)))) ∧ Hid (∀ b, (Value.slice ao' m c').ownBlock = some b → w.heap.size ≤ b) ∧ Hid (Chg [] w wr)) (fun _ v _ => n - (intOf v).toNat)
  case atStart => exact ⟨0, 0, 0, none, rfl, rfl, Nat.zero_le _, Nat.zero_le _, Lib.hid rfl, Lib.hid (World.ownsRow_nil _ _ _ _), Lib.hid (fun b hb => by cases hb), Lib.hid (Chg.refl _ _)⟩
  case round =>
    obtain ⟨k, m, c', ao', rfl, rfl, hk, hmk, HM, HO, HNW, HC⟩ := hrel
    by_cases hlt : k < n
    · have e1 : (k : Int) < n := Int.ofNat_lt.2 hlt
      have e0 : (0 : Int) ≤ k := Int.natCast_nonneg _
      have hkc : k < sc := by omega
      obtain ⟨s, hsk⟩ := HGE.out k hlt
      obtain ⟨a, rfl, hld⟩ := HST.out k s hsk wr HC.out
      have HN := Lib.hid (HAN.out k s hsk)
      obtain ⟨s1, s2, s3, s4, s5⟩ := s
      simp only [StepV.cells] at hld
      have CA := Chg.alloc [] wr (.cells #[.int .i64 s1, .int .i64 s2, .string s3, .int .i64 s4, .int .i64 s5] 85)
      have hx4 := heap_alloc_new wr (.cells #[.int .i64 s1, .int .i64 s2, .string s3, .int .i64 s4, .int .i64 s5] 85)
      clear hsk
      go_upto_region 4 with (refine wpList_load_y 85 (.tmp 9) rfl (by go_simp) (.pointer (some (a.add (k * 5)))) (.agg #[.int .i64 s1, .int .i64 s2, .string s3, .int .i64 s4, .int .i64 s5]) hld rfl ?_)
      obtain ⟨q, hq⟩ : ∃ q, wr.heap.size = q := ⟨_, rfl⟩
      rw [hq] at hx4 ⊢
      generalize wr.alloc (.cells #[.int .i64 s1, .int .i64 s2, .string s3, .int .i64 s4, .int .i64 s5] 85) = w4 at *
      have c0 : w4.cell? ⟨q, 0, none⟩ = some (.int .i64 s1) := by rw [cell_of_row _ _ _ _ _ _ hx4]; rfl
      have c1 : w4.cell? ⟨q, 1, none⟩ = some (.int .i64 s2) := by rw [cell_of_row _ _ _ _ _ _ hx4]; rfl
      have HO4 := Lib.hid (ownsRow_chg HO.out CA (by simp))
      have HC4 := Lib.hid (HC.out.trans CA (by simp))
      clear hld hx4 CA hq
      by_cases h4 : s2 = 4
      · have HN2 : Hid (askL (l.take (k + 1)) = askL (l.take k) ++ [s1]) := Lib.hid (by rw [HN.out]; show _ ++ (if s2 = 4 then _ else _) = _; rw [if_pos h4])
        subst h4
        have CB := Chg.alloc [] w4 (.cells #[.int .i64 s1] 3)
        have hown := ownsRow_chg HO4.out CB (by simp)
        have hsrc := src_row w4 #[.int .i64 s1] 3 (0, 0)
        have HAB : Hid (m + 1 ≤ maxLen ∧ (m + 1) * 8 ≤ 140737488355328) := Lib.hid (by unfold maxLen; omega)
        clear HN
        go_wp2_with (at_builtin; go_loud (refine wpList_append_y (.tmp 14) (.tmp 17) 63 rfl rfl 3 i0 _ 1 8 Tryd.underlying63 hi0 hz0 hz1 hz2 rfl (by decide) (.slice ao' m c') m (nvs (askL (l.take k))) hown (some ⟨w4.heap.size, 0, none⟩) 1 1 [.int .i64 s1] rfl hsrc (fun h => by cases h) (by simp [Value.oneCell']) HAB.out.1 HAB.out.2 rfl rfl ?_))
        intro ao2 c3 w5 hown5 hgr hblk
        have CG := Chg.grown hgr (S := (Value.slice ao' m c').ownBlock.toList) (fun b hb => .inl (by simp [hb]))
        have HC5 : Hid (Chg [] w w5) := Lib.hid ((HC4.out.trans CB (by simp)).trans CG (fun b hb => .inr (HNW.out b (by simpa using hb))))
        have HN5 : Hid (∀ b, (Value.slice ao2 (m + 1) c3).ownBlock = some b → w.heap.size ≤ b) := Lib.hid (fun b hb => by
          rcases hblk with h | h <;> rw [h] at hb
          · exact HNW.out b hb
          · rw [← Option.some.inj hb]
            exact Nat.le_trans HC4.out.size (Nat.le_succ _))
        have HO5 : Hid (w5.ownsRow 0 3 1 (.slice ao2 (m + 1) c3) (m + 1) (nvs (askL (l.take (k + 1))))) := Lib.hid (by rw [HN2.out, nvs_append]; exact hown5)
        have HM5 : Hid ((askL (l.take (k + 1))).length = m + 1) := Lib.hid (by rw [HN2.out, List.length_append, HM.out]; rfl)
        clear hown5 hgr hblk hown hsrc CB CG HAB c0 c1 hi0 hz0 hz1 hz2
        go_wp2_with fail
        go_roundw
        case rel => exact ⟨k + 1, m + 1, c3, ao2, rfl, by go_num, hlt, Nat.succ_le_succ hmk, HM5, HO5, HN5, HC5⟩
        case measure => simp [intOf] <;> omega
      · have HN2 : Hid (askL (l.take (k + 1)) = askL (l.take k)) := Lib.hid (by rw [HN.out]; show _ ++ (if s2 = 4 then _ else _) = _; rw [if_neg h4, List.append_nil])
        have HO5 : Hid (w4.ownsRow 0 3 1 (.slice ao' m c') m (nvs (askL (l.take (k + 1))))) := Lib.hid (by rw [HN2.out]; exact HO4.out)
        have HM5 : Hid ((askL (l.take (k + 1))).length = m) := Lib.hid (by rw [HN2.out]; exact HM.out)
        clear HN HO4 hi0 hz0 hz1 hz2
        go_wp2_with fail
        go_roundw
        case rel => exact ⟨k + 1, m, c', ao', rfl, by go_num, hlt, Nat.le_succ_of_le hmk, HM5, HO5, HNW, HC4⟩
        case measure => simp [intOf] <;> omega
    · have e1 : ¬ (k : Int) < n := fun h => hlt (Int.ofNat_lt.1 h)
      have hkn : k = n := by omega
      have HTK : Hid (l.take k = l) := Lib.hid (by rw [hkn]; exact HAL.out)
      have HM' : Hid ((askL l).length = m) := Lib.hid (by rw [← HM.out, HTK.out])
      have HO' : Hid (wr.ownsRow 0 3 1 (.slice ao' m c') m (nvs (askL l))) := Lib.hid (by have := HO.out; rwa [HTK.out] at this)
      clear HO HM hkn HTK
      go_wp2_with fail
      go_ret
      exact ⟨ao', c', by rw [HM'.out]; rfl, by rw [HM'.out]; exact HO'.out, by rw [HM'.out]; exact HNW.out, HC.out⟩
end Go.Proofs.YtfdhpjflkimihaaDoor
