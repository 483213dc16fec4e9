/- Match and what a pattern tells of itself, walked. No conditions beyond those that each statement types. -/
import Derived.Test.YtnbeamggbehclaaGlobL
import Derived.Deep.DeepCutAuto
namespace Go.Proofs.Ytnbeamggbehclaa
open Go.RowKit

theorem seg_endsE (fold : Bool) (l : List UInt8) (els : List El) (a i : Nat) (hi : i < l.length + 1) : endsE fold l els (fun k => k == a) i = (decide (a ≤ i) && mat fold els (seg l a i)) :=
  endsE_start fold l els a i (by omega)
theorem matAt_false {fold root : Bool} {els : List El} {l : List UInt8} {a N : Nat} (hN : l.length + 1 = N) (h : ∀ i, i < N → (endsE fold l els (fun k => k == a) i && endOk l i) = false) : matAt fold root els l a = false := by
  subst hN
  unfold matAt
  rw [Bool.and_eq_false_iff]
  right
  rw [List.any_eq_false]
  intro b hb
  have hb' := List.mem_range.1 hb
  have := h b hb'
  rw [seg_endsE fold l els a b hb'] at this
  rw [Bool.not_eq_true, Bool.and_left_comm, Bool.and_comm, this]
theorem matAt_true {fold root : Bool} {els : List El} {l : List UInt8} {a i N : Nat} (hN : l.length + 1 = N) (hf : fromOk root l a = true) (hi : i < N) (h1 : endsE fold l els (fun k => k == a) i = true) (h2 : endOk l i = true) : matAt fold root els l a = true := by
  subst hN
  unfold matAt
  rw [hf, Bool.true_and, List.any_eq_true]
  rw [seg_endsE fold l els a i hi, Bool.and_eq_true] at h1
  exact ⟨i, List.mem_range.2 hi, by rw [h1.1, h1.2, h2]; rfl⟩
theorem matchP_false {fold root : Bool} {els : List El} {l : List UInt8} {N : Nat} (hN : l.length + 1 = N) (h : ∀ a, a < N → matAt fold root els l a = false) : matchP fold root els l = false := by
  subst hN
  unfold matchP
  rw [Bool.and_eq_false_iff]
  right
  rw [List.any_eq_false]
  intro a ha
  rw [h a (List.mem_range.1 ha)]
  exact Bool.false_ne_true
theorem matchP_true {fold root : Bool} {els : List El} {l : List UInt8} {N a : Nat} (hN : l.length + 1 = N) (hl : l.length ≤ 160) (ha : a < N) (h : matAt fold root els l a = true) : matchP fold root els l = true := by
  subst hN
  unfold matchP
  rw [decide_eq_true hl, Bool.true_and, List.any_eq_true]
  exact ⟨a, List.mem_range.2 ha, h⟩

set_option maxRecDepth 100000 in
set_option maxHeartbeats 16000000 in
theorem glob_match (b : Nat) (tx s : ByteArray) (m : Mk) (root : Bool) (els : List El) (W : World) (hP : PatIs W b tx m root els) (hels : els.length ≤ 1000) (hne : els ≠ []) :
    Calls Try.prog 11 #[.pointer (some ⟨b, 0, none⟩), .string s] W fun e w' =>
      e = .returned (.bool (matchP m.fold root els s.data.toList)) ∧ Chg [] W w' := by
  obtain ⟨R, hR⟩ : ∃ R, matchP m.fold root els s.data.toList = R := ⟨_, rfl⟩
  rw [hR]
  have hlen : s.data.toList.length = s.size := rfl
  have HP := Lib.hid hP
  have HELS := Lib.hid hels
  obtain ⟨a, n, c, us, hpat, hown, hun, hus, hclo⟩ := hP
  have hn0 : ((n : Int) == 0) = false := beq_eq_false_iff_ne.2 (by
    intro h
    apply hne
    rw [← hus, List.length_eq_zero_iff.1 (by omega : us.length = 0)]
    rfl)
  have c5 := hpat.ev
  have cr := hpat.root
  clear hown hun hus hclo hne hels hpat
  by_cases h160 : 160 < s.size
  · have h' : (160 : Int) < s.size := by omega
    have hf : R = false := by rw [← hR]; unfold matchP; rw [decide_eq_false (by rw [hlen]; omega), Bool.false_and]
    subst hf
    clear hlen hR
    go_enter Try.func11, Try.ntmps11
    go_wp2_with fail
    go_ret
    exact ⟨rfl, Chg.refl _ _⟩
  have h' : ¬ (160 : Int) < s.size := by omega
  obtain ⟨N, hN⟩ : ∃ N, s.data.toList.length + 1 = N := ⟨_, rfl⟩
  have HN := Lib.hid hN
  have HR := Lib.hid hR
  have HS : Hid (s.size + 1 = N ∧ s.size ≤ 160) := Lib.hid ⟨hN, by omega⟩
  have C5 := Lib.hid c5
  have CR := Lib.hid cr
  clear hN hR hlen
  go_enter Try.func11, Try.ntmps11
  go_wp2_with fail
  clear c5 cr hn0
  go_loopw [5] (fun v wr => ∃ k : Nat, v = .int .i64 k ∧ k ≤ N ∧ Hid (∀ i, i < k → matAt m.fold root els s.data.toList i = false) ∧ Hid (Chg [] W wr)) (fun v _ => N - (intOf v).toNat)
  case atStart => exact ⟨0, rfl, Nat.zero_le _, Lib.hid (fun i hi => absurd hi (Nat.not_lt_zero _)), Lib.hid (Chg.refl _ _)⟩
  case round =>
    obtain ⟨k, rfl, hkN, HF, HC⟩ := hrel
    by_cases hk : k < N
    · have hks : k ≤ s.size := by have := HS.out; omega
      have hks' : (k : Int) ≤ s.size := by omega
      have hk0 : (0 : Int) ≤ k := by omega
      have cr := HC.out.cell_some CR.out (by simp)
      obtain ⟨nf, hnf⟩ : ∃ nf, (!fromOk root s.data.toList k) = nf := ⟨_, rfl⟩
      go_upto_region 6 with (fail)
      go_cut [43] (fun v w' => v = .bool nf ∧ wr = w')
      case first =>
        rcases Nat.eq_zero_or_pos k with hz | hz
        · subst hz
          have hnf' : nf = false := by rw [← hnf]; rfl
          subst hnf'
          have hgt : ¬ (0 : Int) < ((0 : Nat) : Int) := by omega
          go_wp2_with fail
          go_meet
          exact ⟨rfl, rfl⟩
        · have hgt : (0 : Int) < k := by omega
          obtain ⟨j, hj⟩ : ∃ j, k - 1 = j := ⟨_, rfl⟩
          have hw : IntKind.i64.wrap ((k : Int) - 1) = j := by rw [IntKind.wrap_i64]; omega
          have hj0 : (0 : Int) ≤ j := by omega
          have hjs : j < s.size := by omega
          have hjs' : (j : Int) < s.size := by omega
          have hfo : nf = (root || !(s[j] == 47)) := by
            rw [← hnf]
            unfold fromOk
            rw [hj, data_get hjs, beq_eq_false_iff_ne.2 (by omega : k ≠ 0), Bool.false_or, Bool.not_and, Bool.not_not]
            rfl
          clear hj hnf
          cases root with
          | true =>
            rw [Bool.true_or] at hfo
            subst hfo
            go_wp2_with fail
            go_meet
            exact ⟨rfl, rfl⟩
          | false =>
            rw [Bool.false_or] at hfo
            by_cases h47 : s[j] = 47
            · rw [beq_iff_eq.2 h47] at hfo
              subst hfo
              have hb : ((s[j].toNat : Int) != 47) = false := by rw [h47]; rfl
              clear h47
              go_wp2_with fail
              go_meet
              exact ⟨rfl, rfl⟩
            · rw [beq_eq_false_iff_ne.2 h47] at hfo
              subst hfo
              have hb : ((s[j].toNat : Int) != 47) = true := bne_iff_ne.2 (fun h => h47 (u8_eq.2 (by have : (47 : UInt8).toNat = 47 := rfl; omega)))
              clear h47
              go_wp2_with fail
              go_meet
              exact ⟨rfl, rfl⟩
      case rest =>
      obtain ⟨rfl, rfl⟩ := hcut
      cases nf with
      | true =>
        have HF2 := Lib.hid (fun i (hi : i < k + 1) => show matAt m.fold root els s.data.toList i = false from by
          rcases Nat.lt_succ_iff_lt_or_eq.1 hi with h | rfl
          · exact HF.out i h
          · unfold matAt
            have : fromOk root s.data.toList i = false := by simpa using hnf
            rw [this, Bool.false_and])
        clear hnf
        go_wp2_with fail
        go_roundw
        case rel => exact ⟨k + 1, by go_num, by omega, HF2, HC⟩
        case measure => simp [intOf]; omega
      | false =>
        have HFO : Hid (fromOk root s.data.toList k = true) := Lib.hid (by simpa using hnf)
        clear hnf
        go_wp2_with fail
        refine (glob_ends b tx s m root els k _ (HP.out.chg HC.out) (by have := HS.out; omega) hks HELS.out).mono ?_
        rintro e w2 ⟨g, rfl, HI, CE⟩
        rw [HS.out.1] at HI ⊢
        obtain ⟨ok, hok⟩ : ∃ ok, endsE m.fold s.data.toList els (fun z => z == k) = ok := ⟨_, rfl⟩
        rw [hok] at HI
        have HOK := Lib.hid hok
        have HI2 := Lib.hid HI
        have HC2 := Lib.hid (HC.out.trans CE (by simp))
        clear hok HI CE
        go_wp2_with fail
        go_loopw [49] (fun v wr => ∃ i : Nat, v = .int .i64 i ∧ i ≤ N ∧ Hid (∀ j, j < i → (ok j && endOk s.data.toList j) = false) ∧ Hid (wr.rowIs g 4 N (fun i => .bool (ok i))) ∧ Hid (Chg [] W wr)) (fun v _ => N - (intOf v).toNat)
        case atStart => exact ⟨0, rfl, Nat.zero_le _, Lib.hid (fun i hi => absurd hi (Nat.not_lt_zero _)), HI2, HC2⟩
        case round =>
          clear HI2 HC2 HC
          obtain ⟨i, rfl, hiN, HG, HI, HC⟩ := hrel
          by_cases hi : i < N
          · have hiN' : (i : Int) < N := by omega
            have hi0 : (0 : Int) ≤ i := by omega
            have cx := HI.out.cell hi
            obtain ⟨oi, hoi⟩ : ∃ oi, ok i = oi := ⟨_, rfl⟩
            rw [hoi] at cx
            obtain ⟨q, hq⟩ : ∃ q, (oi && endOk s.data.toList i) = q := ⟨_, rfl⟩
            have HOI := Lib.hid hoi
            clear hoi
            have hlen : s.data.toList.length = s.size := rfl
            have hsN := HS.out.1
            have hi160 : i ≤ 160 := by have := HS.out.2; omega
            go_upto_region 10 with (fail)
            go_cut [66] (fun v w' => v = .bool q ∧ wr = w')
            case first =>
              cases oi with
              | false =>
                rw [Bool.false_and] at hq
                subst hq
                clear hsN hlen
                go_wp2_with fail
                go_meet
                exact ⟨rfl, rfl⟩
              | true =>
                rw [Bool.true_and] at hq
                unfold endOk at hq
                rw [hlen] at hq
                by_cases his : i = s.size
                · rw [beq_iff_eq.2 his, Bool.true_or] at hq
                  subst hq
                  have hes : ((i : Int) == s.size) = true := by rw [his]; exact beq_self_eq_true _
                  clear hsN hlen his
                  go_wp2_with fail
                  go_meet
                  exact ⟨rfl, rfl⟩
                · have hes : ((i : Int) == s.size) = false := beq_eq_false_iff_ne.2 (by omega)
                  have hlt : i < s.size := by omega
                  have hlt' : (i : Int) < s.size := by omega
                  rw [beq_eq_false_iff_ne.2 his, Bool.false_or, data_get hlt] at hq
                  have hq2 : (s[i] == 47) = q := hq
                  clear hq hsN hlen his
                  by_cases h47 : s[i] = 47
                  · rw [beq_iff_eq.2 h47] at hq2
                    subst hq2
                    have hb : ((s[i].toNat : Int) == 47) = true := by rw [h47]; rfl
                    clear h47
                    go_wp2_with fail
                    go_meet
                    exact ⟨rfl, rfl⟩
                  · rw [beq_eq_false_iff_ne.2 h47] at hq2
                    subst hq2
                    have hb : ((s[i].toNat : Int) == 47) = false := beq_eq_false_iff_ne.2 (fun h => h47 (u8_eq.2 (by have : (47 : UInt8).toNat = 47 := rfl; omega)))
                    clear h47
                    go_wp2_with fail
                    go_meet
                    exact ⟨rfl, rfl⟩
            case rest =>
            obtain ⟨rfl, rfl⟩ := hcut
            cases q with
            | true =>
              have hR : R = true := by
                rw [Bool.and_eq_true] at hq
                rw [← HR.out]
                refine matchP_true HN.out (by rw [hlen]; exact HS.out.2) hk (matAt_true HN.out HFO.out hi ?_ hq.2)
                rw [HOK.out, HOI.out]
                exact hq.1
              subst hR
              clear hq hlen hsN
              go_wp2_with fail
              go_ret
              exact ⟨rfl, HC.out⟩
            | false =>
              have HG2 := Lib.hid (fun j (hj : j < i + 1) => show (ok j && endOk s.data.toList j) = false from by
                rcases Nat.lt_succ_iff_lt_or_eq.1 hj with h | rfl
                · exact HG.out j h
                · rw [HOI.out]; exact hq)
              clear hq hlen hsN
              go_wp2_with fail
              go_roundw
              case rel => exact ⟨i + 1, by go_num, by omega, HG2, HI, HC⟩
              case measure => simp [intOf]; omega
          · have hiN2 : i = N := by omega
            subst hiN2
            have hiN' : ¬ (i : Int) < i := by omega
            have HF2 := Lib.hid (fun z (hz : z < k + 1) => show matAt m.fold root els s.data.toList z = false from by
              rcases Nat.lt_succ_iff_lt_or_eq.1 hz with h | rfl
              · exact HF.out z h
              · exact matAt_false HN.out (fun j hj => by rw [HOK.out]; exact HG.out j hj))
            go_wp2_with fail
            refine ⟨⟨k + 1, by go_num, by omega, HF2, HC⟩, by simp [intOf]; omega⟩
    · have hkk : k = N := by omega
      have hkn' : ¬ (k : Int) ≤ s.size := by have := HS.out; omega
      subst hkk
      go_wp2_with fail
      go_ret
      have : R = false := by rw [← HR.out]; exact matchP_false HN.out HF.out
      subst this
      exact ⟨rfl, HC.out⟩
end Go.Proofs.Ytnbeamggbehclaa
