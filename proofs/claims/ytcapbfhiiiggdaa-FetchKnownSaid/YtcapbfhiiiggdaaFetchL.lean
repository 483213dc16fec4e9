/- The law FetchFair. No conditions beyond those that each statement types. -/
import Derived.Test.YtcapbfhiiiggdaaFetchJ
import Derived.Test.YtcapbfhiiiggdaaFetchK
namespace Go.Proofs.Ytcapbfhiiiggdaa
open Go.RowKit

/-- Numbers whose bits stand in a number, as they are used. -/
structure Bits (l : List Int) (lo hi : Int) : Prop where
  up : l.Pairwise (· < ·)
  bd : ∀ x ∈ l, lo ≤ x ∧ x ≤ hi
  rs : rises l lo hi = true
  len : l.length ≤ 32

theorem bits_ones (x F N : Nat) (hi : Int) (hN : N ≤ 32) (h : hi = (F : Int) + N - 1) : Bits (ones x F N) F hi :=
  ⟨ones_pairwise x F N, fun y hy => by have := mem_ones hy; omega, rises_of _ _ _ (ones_pairwise x F N) (fun y hy => by have := mem_ones hy; omega), by have := ones_le x F N; omega⟩

/-- What some leaves. -/
def Somed (w : World) (lo hi : Int) (r : Ending) (w' : World) : Prop :=
  ∃ l ao c, r = .returned (.slice ao l.length c) ∧ Bits l lo hi ∧ Src w' ao (ivs l) ∧ Chg [] w w' ∧ ∀ a, ao = some a → a.block < w'.heap.size

theorem some_blocks (x : Nat) (hx : x < 4294967296) (w : World) : Calls Try.prog 8 #[.int .u32 x, .int .i64 0, .int .i64 31] w (Somed w 0 31) :=
  (law_some x 0 32 31 rfl (by omega) (by omega) hx w).mono fun r w' ⟨v, hr, o, C, _⟩ => by
    obtain ⟨ao, c, rfl, _, _⟩ := ownsRow_slice o
    exact ⟨ones x 0 32, ao, c, hr, bits_ones x 0 32 31 (by omega) (by omega), ownsRow_src o, C, fun a ha => ownsRow_lt o _ (by rw [ha]; rfl)⟩
theorem some_peers (x : Nat) (hx : x < 4294967296) (w : World) : Calls Try.prog 8 #[.int .u32 x, .int .i64 1, .int .i64 16] w (Somed w 1 16) :=
  (law_some x 1 16 16 rfl (by omega) (by omega) hx w).mono fun r w' ⟨v, hr, o, C, _⟩ => by
    obtain ⟨ao, c, rfl, _, _⟩ := ownsRow_slice o
    exact ⟨ones x 1 16, ao, c, hr, bits_ones x 1 16 16 (by omega) (by omega), ownsRow_src o, C, fun a ha => ownsRow_lt o _ (by rw [ha]; rfl)⟩

set_option maxRecDepth 100000 in
set_option maxHeartbeats 1000000 in
theorem fetch_fair (x y z : Nat) (hx : x < 4294967296) (hy : y < 65536) (hz : z < 256) (w : World) :
    Calls Try.prog 3 #[.int .u32 x, .int .u16 y, .int .u8 z] w (Holds w) := by
  go_enter Try.func3, Try.ntmps3
  go_wp2_with fail
  refine (some_blocks x hx w).mono ?_
  rintro r w1 ⟨bs, ao, ca, rfl, B1, S1, C1, N1⟩
  go_wp2_with fail
  refine (some_peers y (by omega) w1).mono ?_
  rintro r w2 ⟨ps, po, cp, rfl, B2, S2, C2, N2⟩
  go_wp2_with fail
  refine (fetch_new bs ps ao po ca cp w2 (S1.chg C2 (by simp)) S2 B1.rs B2.rs (by have := B1.len; omega) (by have := B2.len; omega)).mono ?_
  rintro r w3 ⟨b, rfl, hb, h0, C3⟩
  have D3 := (C1.trans C2 (by simp)).trans C3 (by simp)
  have T1 := (S1.chg C2 (by simp)).chg C3 (by simp)
  have T2 := S2.chg C3 (by simp)
  have hbw : w.heap.size ≤ b := by have := C1.size; have := C2.size; omega
  have M1 : ∀ a, ao = some a → a.block ∉ [b] := fun a ha => by have := N1 a ha; have := C2.size; simp; omega
  have M2 : ∀ a, po = some a → a.block ∉ [b] := fun a ha => by have := N2 a ha; simp; omega
  clear S1 S2 N1 N2 C1 C2 C3 hb
  have I0 := FInv.start bs ps
  generalize FS.made bs ps = s0 at *
  go_wp2_with fail
  go_loopw [11, 12] (fun m i wr => ∃ (k q j : Nat) (s : FS), m = .int .i64 k ∧ i = .int .i64 k ∧ k ≤ z ∧ FInv bs ps s k q j ∧ FetchAt wr b s ∧ Chg [b] w3 wr) (fun _ i _ => z - (intOf i).toNat)
  case atStart => exact ⟨0, 0, 0, s0, rfl, rfl, by omega, I0, h0, Chg.refl _ _⟩
  case round =>
    obtain ⟨k, q, j, s, rfl, rfl, hk, I, h, C⟩ := hrel
    have hkb := I.kb
    have hBl := B1.len
    have k1 := fetch_ask b s wr h
    have k8 := I.k8.1
    by_cases hlt : k < z
    · rcases I.step B2.up B2.bd B1.up B1.bd with ⟨e1, e2, e3⟩ | ⟨n, d, e0, e1, q', j', I'⟩
      · rw [e1, e2] at k1
        have HE := Lib.hid e3
        clear e1 e2 e3 I0 h0
        go_wp2_with fail
        refine k1.mono ?_
        clear k1
        rintro r wk ⟨rfl, hk1, Ck⟩
        have Dk := C.trans Ck (by simp)
        clear C Ck h
        have hmin : (k : Int) = min (z : Int) (min (bs.length : Int) (8 * (ps.length : Int))) := by have := HE.out; have := I.k8.1; have := I.kb; omega
        have HMIN := Lib.hid hmin
        clear hmin HE
        go_wp2_with fail
        clear hkb hBl k8
        have HP := B2.len
        have IH := Lib.hid I
        clear I
        go_loopw [16, 17, 18] (fun lo hi i wr' => ∃ (n : Nat) (lo' hi' : Int), lo = .int .i64 lo' ∧ hi = .int .i64 hi' ∧ i = .int .i64 n ∧ n ≤ ps.length ∧ ((n = 0 ∧ lo' = 100 ∧ hi' = 0) ∨ (0 < n ∧ (q : Int) ≤ lo' ∧ lo' ≤ hi' ∧ hi' ≤ q + 1 ∧ hi' ≤ 8)) ∧ FetchAt wr' b s ∧ Chg [b] w3 wr') (fun _ _ i _ => ps.length - (intOf i).toNat)
        case atStart => exact ⟨0, 100, 0, rfl, rfl, rfl, by omega, .inl ⟨rfl, rfl, rfl⟩, hk1, Dk⟩
        case round =>
          obtain ⟨n, lo, hi, rfl, rfl, rfl, hn, hlh, hF, CF⟩ := hrel
          clear hk1 Dk
          by_cases hnl : n < ps.length
          · obtain ⟨p, d, rfl, hp, cp⟩ := ivs_src_at (T2.chg CF M2) hnl
            have hb2 := B2.bd d (List.mem_of_getElem? hp)
            obtain ⟨d, rfl⟩ : ∃ e : Nat, d = e := ⟨d.toNat, by omega⟩
            have hld := IH.out.ld n d hp
            have hq8 := IH.out.q8
            have k1 := fetch_asked b s d wr hF
            obtain ⟨A, hA⟩ : ∃ A, s.asked d = A := ⟨_, rfl⟩
            have hA0 : q ≤ A ∧ A ≤ q + 1 ∧ A ≤ 8 := by
              have hq0 := IH.out.q0
              rw [hA] at hld
              split at hld <;> omega
            rw [hA] at k1
            clear hp hld hA hq8
            go_wp2_with fail
            refine k1.mono ?_
            clear k1
            rintro r wq ⟨rfl, CQ⟩
            have DQ := CF.trans CQ (by simp)
            have hFQ := hF.chg CQ (by simp)
            clear CF CQ hF
            have HLH := Lib.hid hlh
            clear hlh
            go_wp2_with fail
            go_roundw
            case rel => exact ⟨n + 1, _, _, rfl, rfl, by go_num, by omega, .inr ⟨by omega, by have := HLH.out; split <;> omega, by have := HLH.out; (repeat' split) <;> omega, by have := HLH.out; split <;> omega, by have := HLH.out; split <;> omega⟩, hFQ, DQ⟩
            case measure => simp [intOf]; omega
          · have hnP : n = ps.length := by omega
            subst hnP
            have hne : ((k : Int) != if 8 * (ps.length : Int) < (if bs.length < z then (bs.length : Int) else (z : Int)) then 8 * (ps.length : Int) else if bs.length < z then (bs.length : Int) else (z : Int)) = false := by
              have := HMIN.out
              rw [bne_eq_false_iff_eq]
              (repeat' split) <;> omega
            rcases hlh with ⟨h0, rfl, rfl⟩ | ⟨h0, h1, h2, h3, h4⟩
            · have h0' : ¬ 0 < ps.length := by omega
              have H0 := Lib.hid h0
              clear h0
              go_wp2_with fail
              all_goals
                refine (fetch_works _).mono ?_
                rintro r w6 ⟨rfl, S6⟩
                go_wp2_with fail
                go_ret
                exact ⟨rfl, (D3.trans CF (fun k hk => by simp at hk; subst hk; exact .inr hbw)).trans S6 (by simp)⟩
            · have h5 : hi ≤ lo + 1 := by omega
              go_wp2_with fail
              all_goals
                refine (fetch_works _).mono ?_
                rintro r w6 ⟨rfl, S6⟩
                go_wp2_with fail
                go_ret
                exact ⟨rfl, (D3.trans CF (fun k hk => by simp at hk; subst hk; exact .inr hbw)).trans S6 (by simp)⟩
      · rw [e1] at k1
        have E0 := Lib.hid e0
        obtain ⟨a, rfl⟩ : ∃ a, ao = some a := by
          cases ao with
          | none => have := T1.nil rfl; simp [ivs] at this; subst this; simp at e0
          | some a => exact ⟨a, rfl⟩
        have hkl : k < bs.length := (List.getElem?_eq_some_iff.1 e0).1
        clear e0 e1 I0 h0 I
        go_wp2_with fail
        refine k1.mono ?_
        clear k1
        rintro r wk ⟨rfl, hk1, Ck⟩
        have Dk := C.trans Ck (by simp)
        have cx : wk.cell? (a.add k) = some (.int .i64 n) := (T1.chg Dk M1).cell a rfl k _ (by simp [ivs, iv, E0.out])
        clear C Ck h
        go_wp2_with fail
        go_roundw
        case rel => exact ⟨k + 1, q', j', s.ask, by go_num, by go_num, by omega, I', hk1, Dk⟩
        case measure => simp [intOf]; omega
    · have hmin : (k : Int) = min (z : Int) (min (bs.length : Int) (8 * (ps.length : Int))) := by have := I.k8.1; have := I.kb; omega
      have HMIN := Lib.hid hmin
      have hk1 := h
      have Dk := C
      clear hmin k1 h C I0 h0
      go_wp2_with fail
      clear hkb hBl k8
      have HP := B2.len
      have IH := Lib.hid I
      clear I
      go_loopw [16, 17, 18] (fun lo hi i wr' => ∃ (n : Nat) (lo' hi' : Int), lo = .int .i64 lo' ∧ hi = .int .i64 hi' ∧ i = .int .i64 n ∧ n ≤ ps.length ∧ ((n = 0 ∧ lo' = 100 ∧ hi' = 0) ∨ (0 < n ∧ (q : Int) ≤ lo' ∧ lo' ≤ hi' ∧ hi' ≤ q + 1 ∧ hi' ≤ 8)) ∧ FetchAt wr' b s ∧ Chg [b] w3 wr') (fun _ _ i _ => ps.length - (intOf i).toNat)
      case atStart => exact ⟨0, 100, 0, rfl, rfl, rfl, by omega, .inl ⟨rfl, rfl, rfl⟩, hk1, Dk⟩
      case round =>
        obtain ⟨n, lo, hi, rfl, rfl, rfl, hn, hlh, hF, CF⟩ := hrel
        clear hk1 Dk
        by_cases hnl : n < ps.length
        · obtain ⟨p, d, rfl, hp, cp⟩ := ivs_src_at (T2.chg CF M2) hnl
          have hb2 := B2.bd d (List.mem_of_getElem? hp)
          obtain ⟨d, rfl⟩ : ∃ e : Nat, d = e := ⟨d.toNat, by omega⟩
          have hld := IH.out.ld n d hp
          have hq8 := IH.out.q8
          have k1 := fetch_asked b s d wr hF
          obtain ⟨A, hA⟩ : ∃ A, s.asked d = A := ⟨_, rfl⟩
          have hA0 : q ≤ A ∧ A ≤ q + 1 ∧ A ≤ 8 := by
            have hq0 := IH.out.q0
            rw [hA] at hld
            split at hld <;> omega
          rw [hA] at k1
          clear hp hld hA hq8
          go_wp2_with fail
          refine k1.mono ?_
          clear k1
          rintro r wq ⟨rfl, CQ⟩
          have DQ := CF.trans CQ (by simp)
          have hFQ := hF.chg CQ (by simp)
          clear CF CQ hF
          have HLH := Lib.hid hlh
          clear hlh
          go_wp2_with fail
          go_roundw
          case rel => exact ⟨n + 1, _, _, rfl, rfl, by go_num, by omega, .inr ⟨by omega, by have := HLH.out; split <;> omega, by have := HLH.out; (repeat' split) <;> omega, by have := HLH.out; split <;> omega, by have := HLH.out; split <;> omega⟩, hFQ, DQ⟩
          case measure => simp [intOf]; omega
        · have hnP : n = ps.length := by omega
          subst hnP
          have hne : ((k : Int) != if 8 * (ps.length : Int) < (if bs.length < z then (bs.length : Int) else (z : Int)) then 8 * (ps.length : Int) else if bs.length < z then (bs.length : Int) else (z : Int)) = false := by
            have := HMIN.out
            rw [bne_eq_false_iff_eq]
            (repeat' split) <;> omega
          rcases hlh with ⟨h0, rfl, rfl⟩ | ⟨h0, h1, h2, h3, h4⟩
          · have h0' : ¬ 0 < ps.length := by omega
            have H0 := Lib.hid h0
            clear h0
            go_wp2_with fail
            all_goals
              refine (fetch_works _).mono ?_
              rintro r w6 ⟨rfl, S6⟩
              go_wp2_with fail
              go_ret
              exact ⟨rfl, (D3.trans CF (fun k hk => by simp at hk; subst hk; exact .inr hbw)).trans S6 (by simp)⟩
          · have h5 : hi ≤ lo + 1 := by omega
            go_wp2_with fail
            all_goals
              refine (fetch_works _).mono ?_
              rintro r w6 ⟨rfl, S6⟩
              go_wp2_with fail
              go_ret
              exact ⟨rfl, (D3.trans CF (fun k hk => by simp at hk; subst hk; exact .inr hbw)).trans S6 (by simp)⟩

theorem fetch_fair_row (n0 : Int) (h0 : 0 ≤ n0 ∧ n0 ≤ 4294967295) (n1 : Int) (h1 : 0 ≤ n1 ∧ n1 ≤ 65535) (n2 : Int) (h2 : 0 ≤ n2 ∧ n2 ≤ 255) (w : World) :
    Calls Try.prog 3 #[.int .u32 n0, .int .u16 n1, .int .u8 n2] w (Holds w) := by
  have := fetch_fair n0.toNat n1.toNat n2.toNat (by omega) (by omega) (by omega) w
  rwa [show ((n0.toNat : Nat) : Int) = n0 by omega, show ((n1.toNat : Nat) : Int) = n1 by omega, show ((n2.toNat : Nat) : Int) = n2 by omega] at this
end Go.Proofs.Ytcapbfhiiiggdaa
