/- The functions of a class. No conditions beyond those that each statement types. -/
import Derived.Test.YtnbeamggbehclaaGlobD
import Derived.Test.YtnbeamggbehclaaOwn
namespace Go.Proofs.Ytnbeamggbehclaa
open Go.RowKit

def rvs (rs : List (UInt8 × UInt8)) : List Value := rs.flatMap fun r => [bv r.1, bv r.2]
theorem rvs_cons (r : UInt8 × UInt8) (l : List (UInt8 × UInt8)) : rvs (r :: l) = bv r.1 :: bv r.2 :: rvs l := rfl
theorem rvs_append (a b : List (UInt8 × UInt8)) : rvs (a ++ b) = rvs a ++ rvs b := by simp [rvs]
theorem rvs_length (l : List (UInt8 × UInt8)) : (rvs l).length = l.length * 2 := by
  induction l with
  | nil => rfl
  | cons r l ih => rw [rvs_cons]; simp only [List.length_cons, ih]; omega
theorem rvs_one (l : List (UInt8 × UInt8)) : ∀ u ∈ rvs l, u.oneCell' = true := by
  intro u hu
  simp only [rvs, List.mem_flatMap] at hu
  obtain ⟨r, _, h⟩ := hu
  simp only [List.mem_cons, List.not_mem_nil, or_false] at h
  rcases h with rfl | rfl <;> rfl
theorem rvs_at : ∀ {l : List (UInt8 × UInt8)} {i : Nat} {r : UInt8 × UInt8}, l[i]? = some r → (rvs l)[i * 2]? = some (bv r.1) ∧ (rvs l)[i * 2 + 1]? = some (bv r.2)
  | [], i, n, h => by simp at h
  | x :: l, 0, n, h => by
    simp only [List.getElem?_cons_zero, Option.some.injEq] at h
    subst h
    exact ⟨rfl, rfl⟩
  | x :: l, i + 1, n, h => by
    rw [List.getElem?_cons_succ] at h
    have := rvs_at h
    rw [rvs_cons, show (i + 1) * 2 = i * 2 + 1 + 1 by omega]
    exact this
theorem inB_take_succ {rs : List (UInt8 × UInt8)} {k : Nat} {r : UInt8 × UInt8} (h : rs[k]? = some r) (c : UInt8) : inB (rs.take (k + 1)) c = (inB (rs.take k) c || decide (r.1 ≤ c ∧ c ≤ r.2)) := by
  obtain ⟨hk, rfl⟩ := List.getElem?_eq_some_iff.1 h
  rw [List.take_succ_eq_append_getElem hk]
  unfold inB
  rw [List.any_append]
  simp
theorem inB_of_take {rs : List (UInt8 × UInt8)} {k : Nat} {c : UInt8} (h : inB (rs.take k) c = true) : inB rs c = true := by
  unfold inB at *
  rw [List.any_eq_true] at *
  obtain ⟨x, hx, hc⟩ := h
  exact ⟨x, List.mem_of_mem_take hx, hc⟩

set_option maxRecDepth 100000 in
set_option maxHeartbeats 4000000 in
theorem glob_in (x : UInt8) (gr : Nat) (a : Option Addr) (n c : Nat) (rs : List (UInt8 × UInt8)) (w : World) (hn : rs.length = n) (hr : w.cell? ⟨gr, 0, none⟩ = some (.slice a n c)) (ho : w.ownsRow 0 90 2 (.slice a n c) n (rvs rs)) (hs : n ≤ 1000000) :
    Calls Try.prog 54 #[bv x, .pointer (some ⟨gr, 0, none⟩)] w fun e w' => e = .returned (.bool (inB rs x)) ∧ Chg [] w w' := by
  obtain ⟨X, hX⟩ : ∃ X : Int, (x.toNat : Int) = X := ⟨_, rfl⟩
  have HX := Lib.hid hX
  obtain ⟨B, hB⟩ : ∃ B, inB rs x = B := ⟨_, rfl⟩
  have HB := Lib.hid hB
  rw [hB]
  clear hB
  have HN := Lib.hid hn
  have hcell : Hid (∀ wr k r, Chg [] w wr → rs[k]? = some r → ∃ g, a = some ⟨g, 0, none⟩ ∧ wr.cell? ⟨g, k * 2, none⟩ = some (bv r.1) ∧ wr.cell? ⟨g, k * 2 + 1, none⟩ = some (bv r.2)) := Lib.hid (fun wr k r C hk => by
    have hlt : k < rs.length := (List.getElem?_eq_some_iff.1 hk).1
    obtain ⟨g, rfl⟩ := ownsRow_head ho (by omega)
    obtain ⟨h1, h2⟩ := rvs_at hk
    exact ⟨g, rfl, C.cell_some (by have := ho.cells (g := g) rfl _ _ h1; rwa [addr_add0] at this) (by simp), C.cell_some (by have := ho.cells (g := g) rfl _ _ h2; rwa [addr_add0] at this) (by simp)⟩)
  unfold bv at *
  rw [hX]
  clear hX hn ho
  go_enter Try.func54, Try.ntmps54
  go_wp2_with fail
  go_loopw [8] (fun i wr => ∃ k : Nat, i = .int .i64 k ∧ k ≤ n ∧ Hid (inB (rs.take k) x = false) ∧ Chg [] w wr) (fun i _ => n - (intOf i).toNat)
  case atStart => exact ⟨0, rfl, by omega, Lib.hid rfl, Chg.refl _ _⟩
  case round =>
    obtain ⟨k, rfl, hk, hI, C⟩ := hrel
    by_cases hlt : k < n
    · have hlt' : (k : Int) < n := by omega
      have hk0 : (0 : Int) ≤ k := by omega
      obtain ⟨r, hrk⟩ : ∃ r, rs[k]? = some r := ⟨_, List.getElem?_eq_getElem (by rw [HN.out]; exact hlt)⟩
      obtain ⟨g, rfl, c0, c1⟩ := hcell.out wr k r C hrk
      have HT := Lib.hid (inB_take_succ hrk x)
      have hX := HX.out
      have hle1 : r.1 ≤ x ↔ (r.1.toNat : Int) ≤ X := by rw [UInt8.le_iff_toNat_le, ← hX]; omega
      have hle2 : x ≤ r.2 ↔ X ≤ (r.2.toNat : Int) := by rw [UInt8.le_iff_toNat_le, ← hX]; omega
      have HT2 : Hid (inB (rs.take (k + 1)) x = (inB (rs.take k) x || decide ((r.1.toNat : Int) ≤ X ∧ X ≤ r.2.toNat))) := Lib.hid (by rw [← decide_eq_decide.2 (and_congr hle1 hle2)]; exact HT.out)
      have HW := Lib.hid C
      clear HT
      clear hle1 hle2 hX hrk C
      generalize (r.1.toNat : Int) = lo at *
      generalize (r.2.toNat : Int) = hi at *
      by_cases h1 : lo ≤ X
      · by_cases h2 : X ≤ hi
        · have hres : inB rs x = true := inB_of_take (k := k + 1) (by rw [HT2.out, decide_eq_true ⟨h1, h2⟩]; simp)
          obtain rfl : B = true := by rw [← HB.out]; exact hres
          clear hres
          go_wp2_with fail
          go_ret
          exact ⟨rfl, HW.out.trans (Chg.alloc [] _ _) (by simp)⟩
        · go_wp2_with fail
          go_roundw
          case rel => exact ⟨k + 1, by go_num, by omega, Lib.hid (by rw [HT2.out, hI.out, decide_eq_false (fun h => h2 h.2)]; rfl), HW.out.trans (Chg.alloc [] _ _) (by simp)⟩
          case measure => simp [intOf]; omega
      · go_wp2_with fail
        go_roundw
        case rel => exact ⟨k + 1, by go_num, by omega, Lib.hid (by rw [HT2.out, hI.out, decide_eq_false (fun h => h1 h.1)]; rfl), HW.out.trans (Chg.alloc [] _ _) (by simp)⟩
        case measure => simp [intOf]; omega
    · have hkn : k = n := by omega
      have hres : inB rs x = false := by
        have := hI.out
        rwa [hkn, List.take_of_length_le (by rw [HN.out]; exact Nat.le_refl _)] at this
      obtain rfl : B = false := by rw [← HB.out]; exact hres
      clear hres hlt
      subst hkn
      go_wp2_with fail
      go_ret
      exact ⟨rfl, C⟩
end Go.Proofs.Ytnbeamggbehclaa
