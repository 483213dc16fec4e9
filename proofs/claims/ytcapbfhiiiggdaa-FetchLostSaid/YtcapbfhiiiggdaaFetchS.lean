/- The law FetchLost. No conditions beyond those that each statement types. -/
import Derived.Test.YtcapbfhiiiggdaaFetchL
import Derived.Test.YtcapbfhiiiggdaaFetchR
namespace Go.Proofs.Ytcapbfhiiiggdaa
open Go.RowKit

set_option maxRecDepth 100000 in
set_option maxHeartbeats 2000000 in
theorem fetch_lost_law (x y z : Nat) (hx : x < 4294967296) (hy : y < 256) (hz : z < 256) (w : World) :
    Calls Try.prog 6 #[.int .u32 x, .int .u8 y, .int .u8 z] w (Holds w) := by
  go_enter Try.func6, Try.ntmps6
  go_wp2_with fail
  refine (some_blocks x hx w).mono ?_
  rintro r w1 ⟨bs, ao, ca, rfl, B1, S1, C1, N1⟩
  obtain ⟨one, hone⟩ : ∃ one, 1 + y % 16 = one := ⟨_, rfl⟩
  have ho1 : 1 ≤ one := by omega
  have ho17 : one < 17 := by omega
  have ho1' : (1 : Int) + (y : Int) % 16 = (one : Int) := by omega
  clear hone
  go_wp2_with fail
  have n1 := heap_alloc_new w1 (Obj.cells #[.int .i64 one] 3)
  have CA := Chg.alloc [] w1 (Obj.cells #[.int .i64 one] 3)
  have S2 := lit_src (l := [(one : Int)]) n1 rfl
  have hr2 : rises [(one : Int)] 1 16 = true := rises_of _ _ _ (by simp) (by simp; omega)
  refine (fetch_new bs [(one : Int)] ao _ ca 1 _ (S1.chg CA (by simp)) S2 B1.rs hr2 (by have := B1.len; omega) (by simp)).mono ?_
  rintro r w3 ⟨b, rfl, hb, h0, C3⟩
  have D3 := (C1.trans CA (by simp)).trans C3 (by simp)
  have T1 := (S1.chg CA (by simp)).chg C3 (by simp)
  have hbw : w.heap.size ≤ b := by have := C1.size; have := CA.size; omega
  have M1 : ∀ a, ao = some a → a.block ∉ [b] := fun a ha => by have := N1 a ha; have := CA.size; simp; omega
  have hBl := B1.len
  have I0 := LInv.start bs one
  obtain ⟨B, hB⟩ : ∃ B, bs.length = B := ⟨_, rfl⟩
  rw [hB] at hBl ⊢
  have HB := Lib.hid hB
  clear S1 S2 N1 C1 CA C3 hb n1 hr2 hB
  generalize FS.made bs [(one : Int)] = s0 at *
  go_wp2_with fail
  go_loopw [11] (fun i wr => ∃ (k : Nat) (s : FS), i = .int .i64 k ∧ LInv bs one s k ∧ FetchAt wr b s ∧ Chg [b] w3 wr) (fun i _ => 40 - (intOf i).toNat)
  case atStart => exact ⟨0, s0, rfl, I0, h0, Chg.refl _ _⟩
  case round =>
    obtain ⟨k, s, rfl, I, h, C⟩ := hrel
    have hk := I.kb
    rw [HB.out] at hk
    have hk40 : (k : Int) < 40 := by omega
    have k1 := fetch_ask b s wr h
    rcases I.step ho1 ho17 B1.up B1.bd with ⟨e1, e2, e3⟩ | ⟨hkl, n, e1, hok, hc, I2⟩
    · rw [e1, e2] at k1
      subst e3
      obtain ⟨two, htwo⟩ : ∃ two, 1 + z % 16 = two := ⟨_, rfl⟩
      have ht1 : 1 ≤ two := by omega
      have ht17 : two < 17 := by omega
      have ht1' : (1 : Int) + (z : Int) % 16 = (two : Int) := by omega
      obtain ⟨s1, s2, E⟩ := I.ends two ho1 ho17 ht1 ht17 B1.up B1.bd
      clear e1 e2 I I0 h0 htwo
      go_wp2_with fail
      refine k1.mono ?_
      clear k1
      rintro r w4 ⟨rfl, hF, C4⟩
      have D := C.trans C4 (by simp)
      clear C C4 h
      go_wp2_with fail
      have k1 := fetch_stuck b s w4 hF
      refine k1.mono ?_
      clear k1
      rintro r w5 ⟨v5, rfl, o5, C5, _⟩
      rw [E.st0, HB.out] at o5
      obtain ⟨a5, c5, rfl, _, _⟩ := ownsRow_slice o5
      have hF5 := hF.chg C5 (by simp)
      have D5 := D.trans C5 (by simp)
      clear D C5 hF o5
      have hbb : ((B : Int) != B) = false := by simp
      go_wp2_with fail
      have k1 := fetch_lost b s one w5 hF5
      rw [E.c0, E.e0] at k1
      refine k1.mono ?_
      clear k1
      rintro r w6 ⟨rfl, hF6, C6⟩
      have D6 := D5.trans C6 (by simp)
      clear D5 C6 hF5
      go_wp2_with fail
      have k1 := fetch_lost b s1 one w6 hF6
      rw [E.c1, E.e1] at k1
      refine k1.mono ?_
      clear k1
      rintro r w7 ⟨rfl, hF7, C7⟩
      have D7 := D6.trans C7 (by simp)
      clear D6 C7 hF6
      go_wp2_with fail
      have k1 := fetch_asked b s1 one w7 hF7
      rw [E.a1] at k1
      refine k1.mono ?_
      clear k1
      rintro r w8 ⟨rfl, C8⟩
      have hF8 := hF7.chg C8 (by simp)
      have D8 := D7.trans C8 (by simp)
      clear D7 C8 hF7
      go_wp2_with fail
      have k1 := fetch_stuck b s1 w8 hF8
      refine k1.mono ?_
      clear k1
      rintro r w9 ⟨v9, rfl, o9, C9, _⟩
      rw [E.st1, HB.out] at o9
      obtain ⟨a9, c9, rfl, _, _⟩ := ownsRow_slice o9
      have hF9 := hF8.chg C9 (by simp)
      have D9 := D8.trans C9 (by simp)
      clear D8 C9 hF8 o9
      go_wp2_with fail
      have k1 := fetch_found b s1 two w9 hF9
      rw [E.c2, E.e2] at k1
      refine k1.mono ?_
      clear k1
      rintro r w10 ⟨rfl, hF10, C10⟩
      have D10 := D9.trans C10 (by simp)
      clear D9 C10 hF9
      go_wp2_with fail
      have k1 := fetch_found b s2 two w10 hF10
      rw [E.c3, E.e3] at k1
      refine k1.mono ?_
      clear k1
      rintro r w11 ⟨rfl, hF11, C11⟩
      have D11 := D10.trans C11 (by simp)
      clear D10 C11 hF10
      go_wp2_with fail
      have k1 := fetch_stuck b s2 w11 hF11
      refine k1.mono ?_
      clear k1
      rintro r w12 ⟨v12, rfl, o12, C12, _⟩
      rw [E.st2] at o12
      obtain ⟨a12, c12, rfl, _, _⟩ := ownsRow_slice o12
      have hF12 := hF11.chg C12 (by simp)
      have D12 := D11.trans C12 (by simp)
      clear D11 C12 hF11 o12
      go_wp2_with fail
      have k1 := fetch_ask b s2 w12 hF12
      rcases E.ask with ⟨hb0, a1, a2⟩ | ⟨hb0, n, hn, a1, s4, a2, a3, a4, a5, a6⟩
      · rw [a1, a2] at k1
        have hB0 : (B : Int) = 0 := by have := HB.out; rw [hb0] at this; simp at this; omega
        have HB0 := Lib.hid hB0
        have hB0' : ((B : Int) == 0) = true := by simpa using hB0
        clear hB0 a1 a2 hb0 E
        refine k1.mono ?_
        clear k1
        rintro r w13 ⟨rfl, hF13, C13⟩
        have D13 := D12.trans C13 (by simp)
        clear D12 C13 hF12
        go_wp2_with fail
        refine (fetch_works _).mono ?_
        rintro r w14 ⟨rfl, C14⟩
        go_wp2_with fail
        go_ret
        exact ⟨rfl, (D3.trans D13 (fun k hk => by simp at hk; subst hk; exact .inr hbw)).trans C14 (by simp)⟩
      · rw [a1] at k1
        obtain ⟨s3, hs3⟩ : ∃ s3, s2.ask = s3 := ⟨_, rfl⟩
        rw [hs3] at k1 a2 a3
        have hB0 : ¬ (B : Int) = 0 := by
          have := HB.out
          have := (List.getElem?_eq_some_iff.1 hn).1
          omega
        have hBp : 0 < B := by omega
        have hB0' : ((B : Int) == 0) = false := by simpa using hB0
        have A2 := Lib.hid a2
        have A3 := Lib.hid a3
        have A4 := Lib.hid a4
        have A5 := Lib.hid a5
        have A6 := Lib.hid (a6.trans HB.out)
        have T12 := T1.chg D12 M1
        obtain ⟨aa, rfl⟩ : ∃ a, ao = some a := by
          cases ao with
          | none => have := T1.nil rfl; simp [ivs] at this; exact absurd this hb0
          | some a => exact ⟨a, rfl⟩
        have HN := Lib.hid hn
        clear a1 a2 a3 a4 a5 a6 hb0 hn hs3 E
        refine k1.mono ?_
        clear k1
        rintro r w13 ⟨rfl, hF13, C13⟩
        have cx : w13.cell? aa = some (.int .i64 n) := by
          have := (T12.chg C13 M1).cell aa rfl 0 (.int .i64 n) (by rw [ivs, List.getElem?_map, HN.out]; rfl)
          exact this
        have D13 := D12.trans C13 (by simp)
        clear D12 C13 hF12 T12
        go_wp2_with fail
        have k1 := fetch_lost b s3 two w13 hF13
        rw [A2.out, A3.out] at k1
        refine k1.mono ?_
        clear k1 cx
        rintro r w14 ⟨rfl, hF14, C14⟩
        have D14 := D13.trans C14 (by simp)
        clear D13 C14 hF13
        go_wp2_with fail
        have k1 := fetch_done b s4 n two w14 hF14
        rw [A4.out, A5.out] at k1
        refine k1.mono ?_
        clear k1
        rintro r w15 ⟨rfl, hF15, C15⟩
        have D15 := D14.trans C15 (by simp)
        clear D14 C15 hF14
        go_wp2_with fail
        have k1 := fetch_left b s4 w15 hF15
        refine k1.mono ?_
        clear k1
        rintro r w16 ⟨v16, rfl, o16, C16, _⟩
        rw [A6.out] at o16
        obtain ⟨a16, c16, rfl, _, _⟩ := ownsRow_slice o16
        have D16 := D15.trans C16 (by simp)
        clear D15 C16 hF15 o16
        have hbe : ((B : Int) == B) = true := by simp
        go_wp2_with fail
        refine (fetch_works _).mono ?_
        rintro r w17 ⟨rfl, C17⟩
        go_wp2_with fail
        go_ret
        exact ⟨rfl, (D3.trans D16 (fun k hk => by simp at hk; subst hk; exact .inr hbw)).trans C17 (by simp)⟩
    · rw [e1] at k1
      have HC := Lib.hid hc
      clear e1 I I0 h0 hkl hc
      go_wp2_with fail
      refine k1.mono ?_
      clear k1
      rintro r w4 ⟨rfl, hF, C4⟩
      have D := C.trans C4 (by simp)
      clear C C4 h
      go_wp2_with fail
      have k1 := fetch_failed b s.ask n one w4 hF hok
      rw [HC.out] at k1
      refine k1.mono ?_
      clear k1
      rintro r w5 ⟨rfl, hF5, C5⟩
      have D5 := D.trans C5 (by simp)
      clear D C5 hF
      go_wp2_with fail
      go_roundw
      case rel => exact ⟨k + 1, _, by go_num, I2, hF5, D5⟩
      case measure => simp [intOf]; omega

theorem fetch_lost_row (n0 : Int) (h0 : 0 ≤ n0 ∧ n0 ≤ 4294967295) (n1 : Int) (h1 : 0 ≤ n1 ∧ n1 ≤ 255) (n2 : Int) (h2 : 0 ≤ n2 ∧ n2 ≤ 255) (w : World) :
    Calls Try.prog 6 #[.int .u32 n0, .int .u8 n1, .int .u8 n2] w (Holds w) := by
  have := fetch_lost_law n0.toNat n1.toNat n2.toNat (by omega) (by omega) (by omega) w
  rwa [show ((n0.toNat : Nat) : Int) = n0 by omega, show ((n1.toNat : Nat) : Int) = n1 by omega, show ((n2.toNat : Nat) : Int) = n2 by omega] at this
end Go.Proofs.Ytcapbfhiiiggdaa
