/- What the reference's Same and the law's story of fetch do to memory. No conditions beyond those that each statement types. -/
import Derived.Test.YtcapbfhiiiggdaaFetchP
import Derived.Test.YtcapbfhiiiggdaaRowKit
namespace Go.Proofs.Ytcapbfhiiiggdaa
open Go.RowKit

theorem ivs_src_at {w : World} {ao : Option Addr} {l : List Int} (h : Src w ao (ivs l)) {k : Nat} (hk : k < l.length) : ∃ a x, ao = some a ∧ l[k]? = some x ∧ w.cell? (a.add k) = some (.int .i64 x) := by
  cases ao with
  | none => have := h.nil rfl; simp [ivs] at this; subst this; simp at hk
  | some a => exact ⟨a, l[k], rfl, by simp [hk], h.cell a rfl k _ (by simp [ivs, iv, hk])⟩

theorem ref_same (l m : List Int) (ao bo : Option Addr) (c d : Nat) (w : World) (h1 : Src w ao (ivs l)) (h2 : Src w bo (ivs m)) (hl : l.length ≤ 9223372036854775807) (_hm : m.length ≤ 9223372036854775807) :
    Calls Try.prog 25 #[.slice ao l.length c, .slice bo m.length d] w fun e w' => e = .returned (.bool (decide (l = m))) ∧ ∃ n, w' = w.drewN n := by
  by_cases hlm : l.length = m.length
  · obtain ⟨n, hn⟩ : ∃ n, l.length = n := ⟨_, rfl⟩
    have hn2 : m.length = n := by omega
    have hn' : (n : Int) ≤ 9223372036854775807 := by omega
    rw [hn, hn2]
    have HN := Lib.hid hn
    have HM := Lib.hid hn2
    clear hlm hn hn2 hl
    go_enter Try.func25, Try.ntmps25
    go_wp2_with fail
    go_loopw [5] (fun i wr => ∃ (k q : Nat), i = .int .i64 k ∧ k ≤ n ∧ (∀ j, j < k → l[j]? = m[j]?) ∧ wr = w.drewN q) (fun i _ => n - (intOf i).toNat)
    case atStart => exact ⟨0, 0, rfl, by omega, fun j hj => by omega, rfl⟩
    case round =>
      obtain ⟨k, q, rfl, hk, hall, rfl⟩ := hrel
      have HA := Lib.hid hall
      clear hall
      by_cases hlt : k < n
      · have hlt' : (k : Int) < n := by omega
        obtain ⟨a, x, rfl, hx, cx⟩ := ivs_src_at h1 (k := k) (by rw [HN.out]; exact hlt)
        obtain ⟨b, y, rfl, hy, cy⟩ := ivs_src_at h2 (k := k) (by rw [HM.out]; exact hlt)
        have HX := Lib.hid hx
        have HY := Lib.hid hy
        have cx' : (w.drewN q).cell? (a.add k) = some (.int .i64 x) := cx
        have cy' : (w.drewN q).cell? (b.add k) = some (.int .i64 y) := cy
        clear hx hy cx cy
        have hk0 : (0 : Int) ≤ k := by omega
        by_cases hxy : x = y
        · have hne : (x != y) = false := by simpa using hxy
          have HXY := Lib.hid hxy
          clear hxy
          generalize hw2 : w.drewN q = wq at *
          have HW := Lib.hid hw2
          clear hw2
          go_wp2_with fail
          go_quiet (fail)
          go_wp2_with fail
          go_roundw
          case rel => exact ⟨k + 1, q + nq, by go_num, by omega, fun j hj => by
            rcases Nat.lt_or_ge j k with h | h
            · exact HA.out j h
            · have : j = k := by omega
              subst this; rw [HX.out, HY.out, HXY.out], by rw [← HW.out, World.drewN_drewN]⟩
          case measure => simp [intOf]; omega
        · have hne : (x != y) = true := by simpa using hxy
          have hlm : l ≠ m := fun e => by
            subst e
            have := HX.out.symm.trans HY.out
            exact hxy (Option.some.inj this)
          have HL := Lib.hid (decide_eq_false hlm)
          clear hlm hxy
          generalize hw2 : w.drewN q = wq at *
          have HW := Lib.hid hw2
          clear hw2
          go_wp2_with fail
          go_quiet (fail)
          go_wp2_with fail
          go_ret
          exact ⟨by rw [HL.out]; rfl, q + nq, by rw [← HW.out, World.drewN_drewN]⟩
      · have hkn : k = n := by omega
        subst hkn
        have hlm : l = m := List.ext_getElem? fun j => by
          rcases Nat.lt_or_ge j k with h | h
          · exact HA.out j h
          · rw [List.getElem?_eq_none (by rw [HN.out]; exact h), List.getElem?_eq_none (by rw [HM.out]; exact h)]
        have HL := Lib.hid (decide_eq_true hlm)
        clear hlm
        go_wp2_with fail
        go_ret
        exact ⟨by rw [HL.out]; rfl, q, rfl⟩
  · have hlm' : l ≠ m := fun e => hlm (by rw [e])
    have HL := Lib.hid (decide_eq_false hlm')
    have hne : ¬ (l.length : Int) = m.length := by omega
    obtain ⟨n, hn⟩ : ∃ n, l.length = n := ⟨_, rfl⟩
    obtain ⟨q, hq⟩ : ∃ n, m.length = n := ⟨_, rfl⟩
    rw [hn, hq] at hne ⊢
    have hne' : ((n : Int) != q) = true := by simpa using hne
    clear hlm hlm' hn hq h1 h2 hl hne
    go_enter Try.func25, Try.ntmps25
    go_wp2_with fail
    go_ret
    exact ⟨by rw [HL.out]; rfl, 0, rfl⟩
end Go.Proofs.Ytcapbfhiiiggdaa
