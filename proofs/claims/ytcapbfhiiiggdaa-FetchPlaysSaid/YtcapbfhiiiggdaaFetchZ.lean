/- What Ask of the reference's fetch does to memory. No conditions beyond those that each statement types. -/
import Derived.Test.YtcapbfhiiiggdaaFetchY
namespace Go.Proofs.Ytcapbfhiiiggdaa
open Go.RowKit

def RS.cand (R : RS) (x : RB) (d : Nat) : Bool := decide ((d : Int) ∈ R.ps) && !decide ((d : Int) ∈ x.tr) && decide (R.asked d < 8)
def RS.bestTo (R : RS) (x : RB) : Nat → Nat
  | 0 => 0
  | k + 1 => if R.cand x (k + 1) && (R.bestTo x k == 0 || decide (R.asked ((k + 1 : Nat) : Int) < R.asked (R.bestTo x k))) then k + 1 else R.bestTo x k
theorem RS.bestTo_step (R : RS) (x : RB) (e : Nat) (h : 1 ≤ e) : R.bestTo x e = if R.cand x e && (R.bestTo x (e - 1) == 0 || decide (R.asked (e : Int) < R.asked (R.bestTo x (e - 1)))) then e else R.bestTo x (e - 1) := by
  obtain ⟨k, rfl⟩ : ∃ k, e = k + 1 := ⟨e - 1, by omega⟩
  rfl
theorem RS.bestTo_le (R : RS) (x : RB) : ∀ k, R.bestTo x k ≤ k
  | 0 => Nat.le_refl _
  | k + 1 => by
    have := R.bestTo_le x k
    unfold RS.bestTo
    split <;> omega
def RS.best (R : RS) (x : RB) : Nat := R.bestTo x 16
def RS.want (R : RS) (x : RB) : Bool := !x.had && x.of == 0 && R.best x != 0
def RS.next (R : RS) : Option Nat := R.bs.findIdx? R.want
def RS.ask (R : RS) : RS := match R.next with | some i => (match R.bs[i]? with | some x => R.upd i { x with of := R.best x } | none => R) | none => R
def RS.askV (R : RS) : Value := match R.next with | some i => (match R.bs[i]? with | some x => .tuple #[.int .i64 x.n, .int .i64 (R.best x), .bool true] | none => .nilIface) | none => .tuple #[.int .i64 0, .int .i64 0, .bool false]

set_option maxRecDepth 100000 in
set_option maxHeartbeats 8000000 in
theorem ref_ask (Ad : Nat → Prop) (q : Nat) (R : RS) (m : RM) (w : World) (h : RefAt w Ad q R m) (hps : R.ps.length ≤ 1000000) (htr : ∀ (i : Nat) (x : RB), R.bs[i]? = some x → x.tr.length ≤ 1000000) :
    Calls Try.prog 18 #[.pointer (some ⟨q, 0, none⟩)] w (RDone Ad q R.ask R.askV w) := by
  have hf := h.few
  obtain ⟨N, hN⟩ : ∃ n, R.bs.length = n := ⟨_, rfl⟩
  obtain ⟨M, hM⟩ : ∃ n, R.ps.length = n := ⟨_, rfl⟩
  rw [hN] at hf
  rw [hM] at hps
  obtain ⟨a0, c0', hbv, hac⟩ := m.bv_len N
  obtain ⟨pa, pc, hpv, _, _⟩ := ownsRow_slice h.prs
  rw [hM] at hpv
  have hc0 : ∀ wr, Chg [] w wr → wr.cell? ⟨q, 0, none⟩ = some (.slice a0 N c0') ∧ wr.cell? ⟨q, 1, none⟩ = some (.slice pa M pc) := fun wr C => by
    have hk := h.keep C (by simp)
    have h0 := hk.c0
    have h1 := hk.c1
    rw [hN, hbv] at h0
    rw [hpv] at h1
    exact ⟨h0, h1⟩
  have HASP : Hid (∀ (y : Int) (w1 : World), Chg [] w w1 → Calls Try.prog 37 #[.slice pa M pc, .int .i64 y] w1 fun e w' => e = .returned (.bool (decide (y ∈ R.ps))) ∧ w1 = w') := Lib.hid (fun y w1 C => by
    have h2 := (h.keep C (by simp)).prs
    rw [hpv, hM] at h2
    have := ref_has R.ps pa pc y w1 (ownsRow_src h2) (by omega)
    rw [hM] at this
    exact this)
  have ASK : Hid (∀ (y : Int) (w1 : World), Chg [] w w1 → Calls Try.prog 28 #[.pointer (some ⟨q, 0, none⟩), .int .i64 y] w1 fun e w' => e = .returned (.int .i64 (R.asked y)) ∧ w1 = w') := Lib.hid (fun y w1 C =>
    ref_asked Ad q R m y w1 (h.keep C (by simp)))
  have HN := Lib.hid hN
  have HC := Lib.hid hc0
  have c00 := (hc0 w (Chg.refl _ _)).1
  clear hN hbv hc0 hpv hM
  go_enter Try.func18, Try.ntmps18
  go_wp2_with fail
  go_loopw [5] (fun i wr => ∃ (k : Nat), i = .int .i64 k ∧ k ≤ N ∧ Hid (∀ j x, j < k → R.bs[j]? = some x → R.want x = false) ∧ Chg [] w wr) (fun i _ => N - (intOf i).toNat)
  case atStart => exact ⟨0, rfl, by omega, Lib.hid (fun j x hj => by omega), Chg.refl _ _⟩
  case round =>
    obtain ⟨k, rfl, hk, HA, C⟩ := hrel
    have cr := (HC.out wr C).1
    clear c00
    by_cases hlt : k < N
    · have hlt' : (k : Int) < N := by omega
      obtain ⟨rfl, rfl⟩ := hac k hlt
      have hr := h.keep C (by simp)
      obtain ⟨x, hx⟩ : ∃ x, R.bs[k]? = some x := ⟨_, List.getElem?_eq_getElem (by rw [HN.out]; exact hlt)⟩
      have HX := Lib.hid hx
      have hb := hr.blk k x hx
      have c1 := hb.n
      have c2 := hb.had
      have c3 := hb.of
      have c4 := hb.tried
      have hown := hb.own
      have hxl := htr k x hx
      obtain ⟨ta, tc, htv, _, _⟩ := ownsRow_slice hown
      rw [htv] at c4 hown
      have hk0 : (0 : Int) ≤ k := by omega
      have HTRY : Hid (∀ (y : Int) (w1 : World), Chg [] wr w1 → Calls Try.prog 37 #[.slice ta x.tr.length tc, .int .i64 y] w1 fun e w' => e = .returned (.bool (decide (y ∈ x.tr))) ∧ w1 = w') := Lib.hid (fun y w1 C1 =>
        ref_has x.tr ta tc y w1 ((ownsRow_src hown).chg C1 (by simp)) (by omega))
      have hwd : R.want x = (!x.had && x.of == 0 && R.best x != 0) := rfl
      have hno : R.want x = false → Hid (∀ j x, j < k + 1 → R.bs[j]? = some x → R.want x = false) := fun hw => Lib.hid (fun j u hj hu => by
        rcases Nat.lt_or_ge j k with h1 | h1
        · exact HA.out j u h1 hu
        · obtain rfl : j = k := by omega
          rw [HX.out] at hu
          cases hu
          exact hw)
      have NO := Lib.hid hno
      have hne : R.bs ≠ [] := fun e => by rw [e] at hx; simp at hx
      have HLG := Lib.hid (h.hg hne).1
      have HRX := Lib.hid hr
      obtain ⟨b, hbb⟩ : ∃ b, x.had = b := ⟨_, rfl⟩
      obtain ⟨y, hy⟩ : ∃ b, x.n = b := ⟨_, rfl⟩
      obtain ⟨o, hoo⟩ : ∃ b, x.of = b := ⟨_, rfl⟩
      obtain ⟨L, hLL⟩ : ∃ b, x.tr.length = b := ⟨_, rfl⟩
      rw [hbb] at c2 hwd
      rw [hy] at c1
      rw [hoo] at c3 hwd
      rw [hLL] at c4 HTRY
      have HWD := Lib.hid hwd
      have HY := Lib.hid hy
      have HO := Lib.hid hoo
      have HB := Lib.hid hbb
      clear hbb hy hx hr hb hoo hLL htv hown hwd hno hne
      go_upto_region 5 with (fail)
      have CA := Chg.alloc [] wr (Obj.cells #[.int .i64 y, .bool b, .int .i64 o, .slice ta L tc] 75)
      have hnx := heap_alloc_new wr (Obj.cells #[.int .i64 y, .bool b, .int .i64 o, .slice ta L tc] 75)
      have C2 := C.trans CA (by simp)
      generalize wr.alloc (Obj.cells #[.int .i64 y, .bool b, .int .i64 o, .slice ta L tc] 75) = w2 at *
      obtain ⟨e, he⟩ : ∃ e, wr.heap.size = e := ⟨_, rfl⟩
      rw [he] at hnx ⊢
      have b0 : w2.cell? ⟨e, 0, none⟩ = some (.int .i64 y) := by rw [cell_of_row _ _ 0 _ _ _ hnx]; rfl
      have b1 : w2.cell? ⟨e, 1, none⟩ = some (.bool b) := by rw [cell_of_row _ _ 1 _ _ _ hnx]; rfl
      have b2 : w2.cell? ⟨e, 2, none⟩ = some (.int .i64 o) := by rw [cell_of_row _ _ 2 _ _ _ hnx]; rfl
      have b3 : w2.cell? ⟨e, 3, none⟩ = some (.slice ta L tc) := by rw [cell_of_row _ _ 3 _ _ _ hnx]; rfl
      obtain ⟨p0, p1⟩ := HC.out w2 C2
      have HCA := Lib.hid CA
      have HE := Lib.hid he
      clear c1 c2 c3 c4 hnx he cr CA
      cases b with
      | true =>
        have HWN := NO.out (by rw [HWD.out]; rfl)
        go_wp2_with fail
        go_roundw
        case rel => exact ⟨k + 1, by go_num, by omega, HWN, C2⟩
        case measure => simp [intOf]; omega
      | false =>
        by_cases ho0 : o = 0
        · subst ho0
          have HWD0 : Hid (R.want x = (R.best x != 0)) := Lib.hid (by rw [HWD.out]; rfl)
          go_wp2_with fail
          go_loopw [7, 8] (fun u i wz => ∃ (d : Nat), i = .int .i64 d ∧ 1 ≤ d ∧ d ≤ 17 ∧ u = .int .i64 (R.bestTo x (d - 1)) ∧ w2 = wz) (fun _ i _ => 17 - (intOf i).toNat)
          case atStart => exact ⟨1, rfl, by omega, by omega, rfl, rfl⟩
          case round =>
            obtain ⟨d, rfl, hd1, hd2, rfl, rfl⟩ := hrel
            by_cases hd : d ≤ 16
            · have hd' : (d : Int) ≤ 16 := by omega
              have hs := R.bestTo_step x d hd1
              have hcd : R.cand x d = (decide ((d : Int) ∈ R.ps) && !decide ((d : Int) ∈ x.tr) && decide (R.asked d < 8)) := rfl
              have hBle := R.bestTo_le x (d - 1)
              obtain ⟨B, hB⟩ : ∃ B, R.bestTo x (d - 1) = B := ⟨_, rfl⟩
              rw [hB] at hs hBle ⊢
              have k1 := HASP.out d w2 C2
              have k2 := HTRY.out d w2 HCA.out
              have k3 := ASK.out d w2 C2
              have k4 := ASK.out B w2 C2
              have hA := R.askedTo_le (d : Int) R.bs.length
              have hAB := R.askedTo_le (B : Int) R.bs.length
              rw [HN.out] at hA hAB
              have hA2 : R.asked (d : Int) ≤ N := by unfold RS.asked; rw [HN.out]; exact hA
              have hAB2 : R.asked (B : Int) ≤ N := by unfold RS.asked; rw [HN.out]; exact hAB
              rw [hcd] at hs
              generalize R.asked (d : Int) = A at *
              generalize R.asked (B : Int) = AB at *
              generalize decide ((d : Int) ∈ R.ps) = u1 at *
              generalize decide ((d : Int) ∈ x.tr) = u2 at *
              clear hcd hB hA hAB
              cases u1 with
              | false =>
                have HS := Lib.hid (hs.trans (by simp : _ = B))
                clear hs k2 k3 k4
                go_wp2_with fail
                refine k1.mono ?_
                rintro r w' ⟨rfl, rfl⟩
                go_wp2_with fail
                go_roundw
                case rel => exact ⟨d + 1, by go_num, by omega, by omega, by rw [Nat.add_sub_cancel, HS.out], by trivial⟩
                case measure => simp [intOf]; omega
              | true =>
                cases u2 with
                | true =>
                  have HS := Lib.hid (hs.trans (by simp : _ = B))
                  clear hs k3 k4
                  go_wp2_with fail
                  refine k1.mono ?_
                  rintro r w' ⟨rfl, rfl⟩
                  go_wp2_with fail
                  refine k2.mono ?_
                  rintro r w' ⟨rfl, rfl⟩
                  go_wp2_with fail
                  go_roundw
                  case rel => exact ⟨d + 1, by go_num, by omega, by omega, by rw [Nat.add_sub_cancel, HS.out], by trivial⟩
                  case measure => simp [intOf]; omega
                | false =>
                  by_cases h8 : 8 ≤ A
                  · have HS := Lib.hid (hs.trans (by have : ¬ A < 8 := by omega
                                                     simp [this] : _ = B))
                    have h8' : (8 : Int) ≤ A := by omega
                    clear hs k4
                    go_wp2_with fail
                    refine k1.mono ?_
                    rintro r w' ⟨rfl, rfl⟩
                    go_wp2_with fail
                    refine k2.mono ?_
                    rintro r w' ⟨rfl, rfl⟩
                    go_wp2_with fail
                    refine k3.mono ?_
                    rintro r w' ⟨rfl, rfl⟩
                    go_wp2_with fail
                    go_roundw
                    case rel => exact ⟨d + 1, by go_num, by omega, by omega, by rw [Nat.add_sub_cancel, HS.out], by trivial⟩
                    case measure => simp [intOf]; omega
                  · have h8' : ¬ (8 : Int) ≤ A := by omega
                    have h8'' : A < 8 := by omega
                    by_cases hB0 : B = 0
                    · subst hB0
                      have HS := Lib.hid (hs.trans (by simp [h8''] : _ = d))
                      clear hs k4
                      go_wp2_with fail
                      refine k1.mono ?_
                      rintro r w' ⟨rfl, rfl⟩
                      go_wp2_with fail
                      refine k2.mono ?_
                      rintro r w' ⟨rfl, rfl⟩
                      go_wp2_with fail
                      refine k3.mono ?_
                      rintro r w' ⟨rfl, rfl⟩
                      go_wp2_with fail
                      go_roundw
                      case rel => exact ⟨d + 1, by go_num, by omega, by omega, by rw [Nat.add_sub_cancel, HS.out], by trivial⟩
                      case measure => simp [intOf]; omega
                    · have eB : ((B : Int) == 0) = false := by simpa using hB0
                      have eB2 : (B == 0) = false := by simpa using hB0
                      by_cases hlt2 : A < AB
                      · have HS := Lib.hid (hs.trans (by simp [h8'', hlt2] : _ = d))
                        have hlt3 : (A : Int) < AB := by omega
                        clear hs hB0
                        go_wp2_with fail
                        refine k1.mono ?_
                        rintro r w' ⟨rfl, rfl⟩
                        go_wp2_with fail
                        refine k2.mono ?_
                        rintro r w' ⟨rfl, rfl⟩
                        go_wp2_with fail
                        refine k3.mono ?_
                        rintro r w' ⟨rfl, rfl⟩
                        go_wp2_with fail
                        refine k3.mono ?_
                        rintro r w' ⟨rfl, rfl⟩
                        go_wp2_with fail
                        refine k4.mono ?_
                        rintro r w' ⟨rfl, rfl⟩
                        go_wp2_with fail
                        go_roundw
                        case rel => exact ⟨d + 1, by go_num, by omega, by omega, by rw [Nat.add_sub_cancel, HS.out], by trivial⟩
                        case measure => simp [intOf]; omega
                      · have HS := Lib.hid (hs.trans (by simp [hlt2, eB2] : _ = B))
                        have hlt3 : ¬ (A : Int) < AB := by omega
                        clear hs hB0
                        go_wp2_with fail
                        refine k1.mono ?_
                        rintro r w' ⟨rfl, rfl⟩
                        go_wp2_with fail
                        refine k2.mono ?_
                        rintro r w' ⟨rfl, rfl⟩
                        go_wp2_with fail
                        refine k3.mono ?_
                        rintro r w' ⟨rfl, rfl⟩
                        go_wp2_with fail
                        refine k3.mono ?_
                        rintro r w' ⟨rfl, rfl⟩
                        go_wp2_with fail
                        refine k4.mono ?_
                        rintro r w' ⟨rfl, rfl⟩
                        go_wp2_with fail
                        go_roundw
                        case rel => exact ⟨d + 1, by go_num, by omega, by omega, by rw [Nat.add_sub_cancel, HS.out], by trivial⟩
                        case measure => simp [intOf]; omega
            · have hd17 : d = 17 := by omega
              subst hd17
              have hbe : R.bestTo x (17 - 1) = R.best x := rfl
              have hbl : R.best x ≤ 16 := R.bestTo_le x 16
              rw [hbe]
              clear hbe hd
              rw [show ((17 : Nat) : Int) = 17 from rfl]
              by_cases hb0 : R.best x = 0
              · have HWN := NO.out (by rw [HWD0.out, hb0]; rfl)
                have eb : ((R.best x : Int) != 0) = false := by rw [hb0]; rfl
                obtain ⟨BB, hBB⟩ : ∃ BB, R.best x = BB := ⟨_, rfl⟩
                rw [hBB] at eb hbl ⊢
                clear hb0 hd1 hd2 hBB
                go_wp2_with fail
                go_roundw
                case rel => exact ⟨k + 1, by go_num, by omega, HWN, C2⟩
                case measure => simp [intOf]; omega
              · have hr2 := h.keep C2 (by simp)
                have hne : R.bs ≠ [] := fun e => by have h1 := HX.out; rw [e] at h1; simp at h1
                have hwant : R.want x = true := by rw [HWD0.out]; simpa using hb0
                have hnx : R.next = some k := List.findIdx?_eq_some_iff_getElem.2 ⟨(List.getElem?_eq_some_iff.1 HX.out).1, by rw [(List.getElem?_eq_some_iff.1 HX.out).2]; exact hwant, fun j hj => by
                  have hj2 : j < R.bs.length := by rw [HN.out]; omega
                  have := HA.out j R.bs[j] hj (List.getElem?_eq_getElem hj2)
                  simp [this]⟩
                have e1 : R.ask = R.upd k { x with of := R.best x } := by unfold RS.ask; rw [hnx]; simp only [HX.out]
                have e2 : R.askV = .tuple #[.int .i64 x.n, .int .i64 (R.best x), .bool true] := by unfold RS.askV; rw [hnx]; simp only [HX.out]
                have c3 := (hr2.blk k x HX.out).of
                obtain ⟨m', hm', _⟩ := hr2.setOf HX.out (R.best x)
                have HM := Lib.hid hm'
                have hfz := hr2.fg hne (k * 4 + 2)
                rw [HO.out] at c3
                rw [HY.out] at e2
                have E1 := Lib.hid e1
                have E2 := Lib.hid e2
                have eb : ((R.best x : Int) != 0) = true := by simpa using hb0
                have hge : m.g ≠ e := by
                  have := HE.out
                  have h2 := (HRX.out).row hne
                  obtain ⟨D, hD⟩ := h2
                  have := lt_of_block hD
                  omega
                obtain ⟨BB, hBB⟩ : ∃ BB, R.best x = BB := ⟨_, rfl⟩
                rw [hBB] at E1 E2 HM eb hbl ⊢
                have cb0 : (w2.setCell ⟨m.g, k * 4 + 2, none⟩ (.int .i64 BB)).cell? ⟨e, 0, none⟩ = some (.int .i64 y) := (World.cell?_setCell_far _ _ _ _ hge).trans b0
                have CF := Lib.hid ((ChgFrom.of (Ad := Ad) C2 (by simp)).trans (ChgFrom.of (Chg.setCell (S := [m.g]) w2 ⟨m.g, k * 4 + 2, none⟩ (.int .i64 BB) (.inl (by simp))) (by simp; exact HLG.out)))
                clear hr2 hne hwant hnx e1 e2 hb0 hm' hge hBB hd1 hd2
                go_wp2_with fail
                go_ret3
                exact ⟨m', by rw [E2.out]; rfl, by rw [E1.out]; exact HM.out, CF.out⟩
        · have eo : (o != 0) = true := by simpa using ho0
          have HWN := NO.out (by rw [HWD.out]; simp [ho0])
          clear ho0
          go_wp2_with fail
          go_roundw
          case rel => exact ⟨k + 1, by go_num, by omega, HWN, C2⟩
          case measure => simp [intOf]; omega
    · have hkn : k = N := by omega
      subst hkn
      have hnx : R.next = none := List.findIdx?_eq_none_iff.2 fun x hx => by
        obtain ⟨j, hj⟩ := List.mem_iff_getElem?.1 hx
        have h1 := (List.getElem?_eq_some_iff.1 hj).1
        exact HA.out j x (by rw [← HN.out]; exact h1) hj
      have e1 : R.ask = R := by unfold RS.ask; rw [hnx]
      have e2 : R.askV = .tuple #[.int .i64 0, .int .i64 0, .bool false] := by unfold RS.askV; rw [hnx]
      have E1 := Lib.hid e1
      have E2 := Lib.hid e2
      clear e1 e2 hnx
      go_wp2_with fail
      go_ret3
      exact ⟨m, by rw [E2.out]; rfl, by rw [E1.out]; exact h.keep C (by simp), ChgFrom.of C (by simp)⟩
end Go.Proofs.Ytcapbfhiiiggdaa
