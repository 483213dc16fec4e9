/- Padded of the reference of sha. No conditions beyond those that each statement types. -/
import Derived.Test.YtfdhpjflkimihaaDoorBkSb
namespace Go.Proofs.YtfdhpjflkimihaaDoor
open Go.RowKit

theorem be64_take {x j : Nat} (h : j < 8) : (be64 x).take (j + 1) = (be64 x).take j ++ [UInt8.ofNat (x / 2 ^ (56 - 8 * j))] := by
  have hl := be64_length x
  rw [List.take_succ_eq_append_getElem (by omega)]
  congr 2
  simp [be64]
theorem bvs_one8 (c : UInt8) : bvs [c] = [.int .u8 c.toNat] := rfl

def padPre (l : List UInt8) (j : Nat) : List UInt8 := l ++ [128] ++ List.replicate j 0
theorem padPre_zero (l : List UInt8) : padPre l 0 = l ++ [128] := by simp [padPre]
theorem padPre_succ (l : List UInt8) (j : Nat) : padPre l (j + 1) = padPre l j ++ [0] := by
  unfold padPre
  rw [List.replicate_succ', ← List.append_assoc]

set_option maxRecDepth 100000 in
set_option maxHeartbeats 4000000 in
theorem ref_padded (l : List UInt8) (bo : Option Addr) (bc : Nat) (w : World) (hs : Src w bo (bvs l)) (hn0 : bo = none → bc = 0) (hl : l.length ≤ 1000000) :
    Calls Tryd.prog 62 #[.slice bo l.length bc] w (ListedV w 5 (bvs (l ++ padOf l.length))) := by
  obtain ⟨iu, hiu, hiuz, hius, hiub⟩ := info_parts Tryd.infoU8
  obtain ⟨N, hN⟩ : ∃ N, l.length = N := ⟨_, rfl⟩
  have HN := Lib.hid hN
  rw [hN] at hl ⊢
  obtain ⟨Z, hZ⟩ : ∃ Z, (119 - N % 64) % 64 = Z := ⟨_, rfl⟩
  have hZ64 : Z < 64 := by omega
  have HZ := Lib.hid hZ
  have hcond : ∀ j, j ≤ Z → ((N + 1 + j) % 64 = 56 ↔ j = Z) := fun j hj => by omega
  have HC := Lib.hid hcond
  have HP : Hid (padOf N = [128] ++ List.replicate Z 0 ++ be64 (N * 8)) := Lib.hid (by rw [padOf_small N (by omega), hZ])
  clear hZ hcond hN
  go_enter Tryd.func62, Tryd.ntmps62
  go_wp2_with (at_builtin; refine wpList_append_x _ rfl _ _ 25 rfl 5 iu _ 1 1 Tryd.underlying25 hiu hiuz hius hiub rfl (by decide) (.slice none 0 0) 0 [] rfl (World.ownsRow_nil _ _ _ _) bo N bc (bvs l) rfl (by rw [bvs_length, HN.out]; omega) hs hn0 (bvs_one _) (by unfold maxLen; omega) (by omega) ?_)
  intro a1 c1 w1 hown1 hgr1 hblk1
  have D1 : Chg [] w w1 := Chg.grown hgr1 (fun q hq => by cases hq)
  have hown1' : w1.ownsRow 0 5 1 (.slice a1 N c1) N (bvs l) := by simpa using hown1
  have hn1 : ∀ q, (Value.slice a1 N c1).ownBlock = some q → w.heap.size ≤ q := fun q hq => by
    have hq' : (Value.slice a1 (0 + N) c1).ownBlock = some q := by rw [Nat.zero_add]; exact hq
    rcases hblk1 with e | e
    · first
        | (rw [e] at hq'; cases hq')
        | (rw [e] at hq; cases hq)
    · have h2 : w.heap.size = q := by
        first
          | exact Option.some.inj (e.symm.trans hq')
          | exact Option.some.inj (e.symm.trans hq)
      omega
  clear hown1 hgr1 hblk1
  have hs128 : Src (w1.alloc (Obj.cells #[.int .u8 128] 5)) (some ⟨w1.heap.size, 0, none⟩) (bvs [128]) := src_one_v
  go_wp2_with (at_builtin; refine wpList_append_x _ rfl _ _ 25 rfl 5 iu _ 1 1 Tryd.underlying25 hiu hiuz hius hiub rfl (by decide) (.slice a1 N c1) N (bvs l) rfl (ownsRow_chg hown1' (Chg.alloc [] _ _) (by simp)) (some ⟨w1.heap.size, 0, none⟩) 1 1 (bvs [128]) rfl rfl hs128 (fun h => by cases h) (bvs_one _) (by unfold maxLen; omega) (by omega) ?_)
  intro a2 c2 w2 hown2 hgr2 hblk2
  have D2 : Chg [] w w2 := (D1.trans (Chg.alloc [] w1 _) (by simp)).trans (Chg.grown hgr2 (S := (Value.slice a1 N c1).ownBlock.toList) (by intro q hq; left; simp [hq])) (by intro q hq; right; exact hn1 q (by simpa using hq))
  have hn2 : ∀ q, (Value.slice a2 (N + 1) c2).ownBlock = some q → w.heap.size ≤ q := fun q hq => by
    rcases hblk2 with e | e <;> rw [e] at hq
    · exact hn1 q hq
    · have := Option.some.inj hq
      have h1 := D1.size
      (try simp at this)
      omega
  clear hgr2 hblk2 hn1 hown1' D1 hs128
  go_wp2_with fail
  go_loopw [3] (fun v wr => ∃ (j n c : Nat) (a : Option Addr), v = .slice a n c ∧ n = N + 1 + j ∧ j ≤ Z ∧ wr.ownsRow 0 5 1 (.slice a n c) n (bvs (padPre l j)) ∧ Chg [] w wr ∧ ∀ q, (Value.slice a n c).ownBlock = some q → w.heap.size ≤ q) (fun v _ => match v with | .slice _ n _ => (N + 1 + Z) - n | _ => 0)
  case atStart => exact ⟨0, N + 1, c2, a2, rfl, rfl, by omega, by rw [padPre_zero, bvs_append]; exact hown2, D2, hn2⟩
  case round =>
    clear hown2 D2 hn2
    obtain ⟨j, n, c, a, rfl, hn, hj, ho, C, hnew⟩ := hrel
    have hc := HC.out j hj
    rw [← hn] at hc
    have hn2 : n ≤ 1000100 := by omega
    obtain ⟨m, hm⟩ : ∃ m, n % 64 = m := ⟨_, rfl⟩
    rw [hm] at hc
    have hmt : (n : Int).tmod 64 = (m : Int) := by rw [Int.tmod_eq_emod_of_nonneg (by omega), ← hm]; simp
    have hme : (n : Int) % 64 = (m : Int) := by rw [← hm]; simp
    have HM := Lib.hid hm
    have HNN := Lib.hid hn
    clear hm hn
    by_cases h56 : m = 56
    · have hjZ := hc.1 h56
      subst h56
      subst hjZ
      have HJ : Hid (padOf N = [128] ++ List.replicate j 0 ++ be64 (N * 8)) := HP
      clear hc HC HP HZ
      have hmul : IntKind.u64.wrap ((N : Int) * 8) = ((N * 8 : Nat) : Int) := by rw [IntKind.wrap_u64]; omega
      have hcv : IntKind.u64.wrap (N : Int) = N := by rw [IntKind.wrap_u64]; omega
      obtain ⟨S, hS⟩ : ∃ S, N * 8 = S := ⟨_, rfl⟩
      rw [hS] at hmul HJ
      have hS2 : S ≤ 8000000 := by omega
      have HSS := Lib.hid hS
      have HO := Lib.hid ho
      clear hS ho
      go_wp2_with fail
      go_loopw [3, 5] (fun v i wr => ∃ (t n2 c : Nat) (a : Option Addr), v = .slice a n2 c ∧ i = .int .i64 (7 - (t : Int)) ∧ t ≤ 8 ∧ n2 = n + t ∧ wr.ownsRow 0 5 1 (.slice a n2 c) n2 (bvs (padPre l j ++ (be64 S).take t)) ∧ Chg [] w wr ∧ ∀ q, (Value.slice a n2 c).ownBlock = some q → w.heap.size ≤ q) (fun _ i _ => (intOf i + 1).toNat)
      case atStart => exact ⟨0, n, c, a, rfl, rfl, by omega, rfl, by rw [List.take_zero, List.append_nil]; exact HO.out, C, hnew⟩
      case round =>
        clear HO C hnew
        obtain ⟨t, n2, c, a, rfl, rfl, ht, hn2', ho, C, hnew⟩ := hrel
        have hn2b : n2 ≤ 1000200 := by omega
        have HN2 := Lib.hid hn2'
        clear hn2'
        by_cases hlt : t < 8
        · obtain ⟨b, hb⟩ : ∃ b, 7 - t = b := ⟨_, rfl⟩
          have hbi : (7 : Int) - t = b := by omega
          obtain ⟨m8, hm8⟩ : ∃ m8, 56 - 8 * t = m8 := ⟨_, rfl⟩
          have hw8 : IntKind.i64.wrap (8 * (b : Int)) = m8 := by rw [IntKind.wrap_i64]; omega
          have hw9 : IntKind.u64.wrap (m8 : Int) = m8 := by rw [IntKind.wrap_u64]; omega
          have hm64 : (m8 : Int) < 64 := by omega
          have hm0 : (0 : Int) ≤ m8 := by omega
          have hT := be64_take (x := S) hlt
          rw [hm8] at hT
          obtain ⟨y, hy⟩ : ∃ y, UInt8.ofNat (S / 2 ^ m8) = y := ⟨_, rfl⟩
          rw [hy] at hT
          have hdiv : (S : Int) / 2 ^ m8 = ((S / 2 ^ m8 : Nat) : Int) := by simp
          have hyv : IntKind.u8.wrap ((S : Int) / 2 ^ m8) = y.toNat := by
            rw [IntKind.wrap_u8, hdiv, ← hy, UInt8.toNat_ofNat']
            omega
          have hdec : IntKind.i64.wrap ((b : Int) - 1) = 7 - ((t + 1 : Nat) : Int) := by rw [IntKind.wrap_i64]; omega
          have hb0 : (0 : Int) ≤ b := by omega
          have HT := Lib.hid hT
          rw [hbi]
          have hs1 : Src (wr.alloc (Obj.cells #[.int .u8 y.toNat] 5)) (some ⟨wr.heap.size, 0, none⟩) (bvs [y]) := src_one_v
          have CA := Chg.alloc [] wr (Obj.cells #[.int .u8 y.toNat] 5)
          have hl := ownsRow_lt ho
          clear hT hy hdiv hb hm8
          go_wp2_with (at_builtin; refine wpList_append_x _ rfl _ _ 25 rfl 5 iu _ 1 1 Tryd.underlying25 hiu hiuz hius hiub rfl (by decide) (.slice a n2 c) n2 (bvs (padPre l j ++ (be64 S).take t)) rfl (ownsRow_chg ho (Chg.alloc [] _ _) (by simp)) (some ⟨wr.heap.size, 0, none⟩) 1 1 (bvs [y]) rfl rfl hs1 (fun h => by cases h) (bvs_one _) (by unfold maxLen; omega) (by omega) ?_)
          intro ao2 cc w3 hown hgr hblk
          have C1 : Chg [] w w3 := (C.trans CA (by simp)).trans (Chg.grown hgr (S := (Value.slice a n2 c).ownBlock.toList) (by intro q hq; left; simp [hq])) (by intro q hq; right; exact hnew q (by simpa using hq))
          have hnew1 : ∀ q, (Value.slice ao2 (n2 + 1) cc).ownBlock = some q → w.heap.size ≤ q := by
            intro q hq
            have h0 := C.size
            rcases hblk with h1 | h1 <;> rw [h1] at hq
            · exact hnew q hq
            · have := Option.some.inj hq; try simp only [World.size_alloc] at this
              omega
          go_wp2_with fail
          go_roundw
          case rel => exact ⟨t + 1, n2 + 1, cc, ao2, rfl, by go_num, by omega, by have := HN2.out; omega, by rw [HT.out, ← List.append_assoc, bvs_append]; exact hown, C1, hnew1⟩
          case measure => simp [intOf]; omega
        · obtain rfl : t = 8 := by omega
          have hfull : (be64 S).take 8 = be64 S := List.take_of_length_le (by rw [be64_length]; exact Nat.le_refl _)
          rw [hfull] at ho
          have hlist : l ++ padOf N = padPre l j ++ be64 S := by rw [HJ.out, padPre]; simp
          have HLI := Lib.hid hlist
          have hlen : (bvs (l ++ padOf N)).length = n2 := by
            have := ho.1
            rw [hlist]
            omega
          have HLE := Lib.hid hlen
          clear hlist hlen hfull
          rw [show (7 : Int) - ((8 : Nat) : Int) = -1 by omega]
          go_wp2_with fail
          go_ret
          exact ⟨_, rfl, by rw [HLE.out, HLI.out]; exact ho, C, hnew⟩
    · have hjZ : j < Z := by
        rcases Nat.lt_or_ge j Z with h | h
        · exact h
        · exact absurd (hc.2 (by omega)) h56
      have h56' : ((m : Int) != 56) = true := by simpa using fun h : (m : Int) = 56 => h56 (by omega)
      have h56'' : ¬ (m : Int) = 56 := by omega
      have hs0 : Src (wr.alloc (Obj.cells #[.int .u8 0] 5)) (some ⟨wr.heap.size, 0, none⟩) (bvs [0]) := src_one_v
      have CA := Chg.alloc [] wr (Obj.cells #[.int .u8 0] 5)
      have hl := ownsRow_lt ho
      clear hc
      go_wp2_with (at_builtin; refine wpList_append_x _ rfl _ _ 25 rfl 5 iu _ 1 1 Tryd.underlying25 hiu hiuz hius hiub rfl (by decide) (.slice a n c) n (bvs (padPre l j)) rfl (ownsRow_chg ho (Chg.alloc [] _ _) (by simp)) (some ⟨wr.heap.size, 0, none⟩) 1 1 (bvs [0]) rfl rfl hs0 (fun h => by cases h) (bvs_one _) (by unfold maxLen; omega) (by omega) ?_)
      intro ao2 cc w3 hown hgr hblk
      have C1 : Chg [] w w3 := (C.trans CA (by simp)).trans (Chg.grown hgr (S := (Value.slice a n c).ownBlock.toList) (by intro q hq; left; simp [hq])) (by intro q hq; right; exact hnew q (by simpa using hq))
      have hnew1 : ∀ q, (Value.slice ao2 (n + 1) cc).ownBlock = some q → w.heap.size ≤ q := by
        intro q hq
        have h0 := C.size
        rcases hblk with h1 | h1 <;> rw [h1] at hq
        · exact hnew q hq
        · have := Option.some.inj hq; try simp only [World.size_alloc] at this
          omega
      go_wp2_with fail
      go_roundw
      case rel => exact ⟨j + 1, n + 1, cc, ao2, rfl, by rw [HNN.out]; omega, by omega, by rw [padPre_succ, bvs_append]; exact hown, C1, hnew1⟩
      case measure => have := HNN.out; simp; omega
end Go.Proofs.YtfdhpjflkimihaaDoor
