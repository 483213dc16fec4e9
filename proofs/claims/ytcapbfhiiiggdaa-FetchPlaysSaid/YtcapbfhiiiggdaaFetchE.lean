/- What Lost of the package fetch does to memory. No conditions beyond those that each statement types. -/
import Derived.Test.YtcapbfhiiiggdaaFetchD
namespace Go.Proofs.Ytcapbfhiiiggdaa
open Go.RowKit

/-- Behind k blocks of Lost's loop. -/
def FS.lostTo (s : FS) (d : Nat) (k : Nat) : FS :=
  { is := fun n => if n < k ∧ s.is n = 2 ∧ s.of n = d then 1 else s.is n
    of := s.of
    tr := fun n e => if n < k ∧ e = d then false else s.tr n e
    pe := fun e => if e = d then false else s.pe e }
def FS.lost (s : FS) (dev : Int) : FS := if isDev dev && s.pe dev.toNat then s.lostTo dev.toNat 32 else s
def FS.lostCode (s : FS) (dev : Int) : Int := if isDev dev && s.pe dev.toNat then 0 else 5

theorem FS.lostTo_zero (s : FS) (d : Nat) : s.lostTo d 0 = s.putPe d false := by
  simp [FS.lostTo, FS.putPe]
theorem FS.lostTo_yes (s : FS) (d k : Nat) (h1 : s.is k = 2) (h2 : s.of k = d) : s.lostTo d (k + 1) = ((s.lostTo d k).putIs k 1).putTr k d false := by
  simp only [FS.lostTo, FS.putIs, FS.putTr, FS.mk.injEq, true_and, and_true]
  refine ⟨funext fun n => ?_, funext fun n => funext fun e => ?_⟩
  · by_cases hn : n = k
    · subst hn; simp [h1, h2]
    · have : n < k + 1 ↔ n < k := by omega
      simp [hn, this]
  · by_cases hn : n = k
    · subst hn; simp
    · have : n < k + 1 ↔ n < k := by omega
      simp [hn, this]
theorem FS.lostTo_no (s : FS) (d k : Nat) (h : ¬ (s.is k = 2 ∧ s.of k = d)) : s.lostTo d (k + 1) = (s.lostTo d k).putTr k d false := by
  simp only [FS.lostTo, FS.putTr, FS.mk.injEq, true_and, and_true]
  refine ⟨funext fun n => ?_, funext fun n => funext fun e => ?_⟩
  · by_cases hn : n = k
    · subst hn; simp [h]
    · have : n < k + 1 ↔ n < k := by omega
      simp [this]
  · by_cases hn : n = k
    · subst hn; simp
    · have : n < k + 1 ↔ n < k := by omega
      simp [hn, this]

set_option maxHeartbeats 400000 in
theorem fetch_lost_loop (b : Nat) (s : FS) (d : Nat) (w : World) (h : FetchAt w b s) (hd1 : 1 ≤ d) (hd2 : d ≤ 16) (hp : s.pe d = true) :
    Calls Try.prog 21 #[.pointer (some ⟨b, 0, none⟩), .int .i64 d] w fun e w' => e = .returned (.int .i64 0) ∧ FetchAt w' b (s.lostTo d 32) ∧ Chg [b] w w' := by
  have hd : isDev d = true := (isDev_iff _).2 ⟨d, rfl, hd1, hd2⟩
  have hdl : d < 17 := by omega
  have hdl' : (d : Int) < 17 := by omega
  have cp := h.peAt d hdl
  have fp := h.frozen (608 + d)
  rw [hp] at cp
  go_enter Try.func21, Try.ntmps21
  go_wp2_with fail
  refine (fetch_is b s _ h).mono ?_
  rintro r w' ⟨rfl, rfl⟩
  go_wp2_with fail
  refine (fetch_device d _).mono ?_
  rintro r w' ⟨rfl, rfl⟩
  rw [hd]
  go_wp2_with fail
  go_loopw [27] (fun i wr => ∃ k : Nat, i = .int .i64 k ∧ k ≤ 32 ∧ FetchAt wr b (s.lostTo d k) ∧ Chg [b] w wr) (fun i _ => 32 - (intOf i).toNat)
  case atStart => exact ⟨0, rfl, by omega, by rw [s.lostTo_zero]; exact h.putPe d hdl false, Chg.setCell (S := [b]) _ _ _ (.inl (by simp))⟩
  case round =>
    obtain ⟨k, rfl, hk, hr, C⟩ := hrel
    by_cases hlt : k < 32
    · have hlt' : (k : Int) < 32 := by omega
      have ci := hr.isAt k hlt
      have co := hr.ofAt k hlt
      have ei : (s.lostTo d k).is k = s.is k := by simp [FS.lostTo]
      have eo : (s.lostTo d k).of k = s.of k := rfl
      rw [ei] at ci
      rw [eo] at co
      clear cp fp hp h hd ei eo
      by_cases hq : s.is k = 2 ∧ s.of k = d
      · have hs := Lib.hid (s.lostTo_yes d k hq.1 hq.2)
        rw [hq.1] at ci
        rw [hq.2] at co
        clear hq
        have fi := hr.frozen (k * 19)
        have hr2 := hr.putIs k hlt 1
        have ct := hr2.trAt k d hlt hdl
        have ft := hr2.frozen (k * 19 + 2 + d)
        have C2 := ((C.trans (Chg.setCell (S := [b]) wr ⟨b, k * 19, none⟩ (.int .i64 1) (.inl (by simp))) (by simp)).trans (Chg.setCell (S := [b]) _ ⟨b, k * 19 + 2 + d, none⟩ (.bool false) (.inl (by simp))) (by simp))
        have hr3 := hr2.putTr k d hlt hdl false
        rw [← hs.out] at hr3
        clear hr hr2 hs
        go_wp2_with fail
        go_roundw
        case rel => exact ⟨k + 1, rfl, by omega, hr3, C2⟩
        case measure => simp [intOf]; omega
      · have hs := Lib.hid (s.lostTo_no d k hq)
        have ct := hr.trAt k d hlt hdl
        have ft := hr.frozen (k * 19 + 2 + d)
        have C2 := (C.trans (Chg.setCell (S := [b]) wr ⟨b, k * 19 + 2 + d, none⟩ (.bool false) (.inl (by simp))) (by simp))
        have hr3 := hr.putTr k d hlt hdl false
        rw [← hs.out] at hr3
        clear hr hs
        by_cases h1 : s.is k = 2
        · have h2 : ¬ s.of k = d := fun h2 => hq ⟨h1, h2⟩
          have h2' : (s.of k == (d : Int)) = false := by simpa using h2
          rw [h1] at ci
          clear hq h1
          go_wp2_with fail
          go_roundw
          case rel => exact ⟨k + 1, rfl, by omega, hr3, C2⟩
          case measure => simp [intOf]; omega
        · have h1' : (s.is k == 2) = false := by simpa using h1
          clear hq
          go_wp2_with fail
          go_roundw
          case rel => exact ⟨k + 1, rfl, by omega, hr3, C2⟩
          case measure => simp [intOf]; omega
    · have hk32 : k = 32 := by omega
      subst hk32
      go_wp2_with fail
      go_ret
      exact ⟨rfl, hr, C⟩

theorem fetch_lost (b : Nat) (s : FS) (dev : Int) (w : World) (h : FetchAt w b s) :
    Calls Try.prog 21 #[.pointer (some ⟨b, 0, none⟩), .int .i64 dev] w fun e w' => e = .returned (.int .i64 (s.lostCode dev)) ∧ FetchAt w' b (s.lost dev) ∧ Chg [b] w w' := by
  cases hd : isDev dev with
  | false =>
    have e1 : s.lostCode dev = 5 := by simp [FS.lostCode, hd]
    have e2 : s.lost dev = s := by simp [FS.lost, hd]
    rw [e1, e2]
    go_enter Try.func21, Try.ntmps21
    go_wp2_with fail
    refine (fetch_is b s _ h).mono ?_
    rintro r w' ⟨rfl, rfl⟩
    go_wp2_with fail
    refine (fetch_device dev _).mono ?_
    rintro r w' ⟨rfl, rfl⟩
    rw [hd]
    go_wp2_with fail
    go_ret
    exact ⟨rfl, h, Chg.refl _ _⟩
  | true =>
    obtain ⟨d, rfl, hd1, hd2⟩ := (isDev_iff _).1 hd
    have hdl : d < 17 := by omega
    have hdl' : (d : Int) < 17 := by omega
    cases hp : s.pe d with
    | true =>
      have e1 : s.lostCode d = 0 := by simp [FS.lostCode, hd, hp]
      have e2 : s.lost d = s.lostTo d 32 := by simp [FS.lost, hd, hp]
      rw [e1, e2]
      exact fetch_lost_loop b s d w h hd1 hd2 hp
    | false =>
      have e1 : s.lostCode d = 5 := by simp [FS.lostCode, hp]
      have e2 : s.lost d = s := by simp [FS.lost, hp]
      rw [e1, e2]
      have cp := h.peAt d hdl
      rw [hp] at cp
      go_enter Try.func21, Try.ntmps21
      go_wp2_with fail
      refine (fetch_is b s _ h).mono ?_
      rintro r w' ⟨rfl, rfl⟩
      go_wp2_with fail
      refine (fetch_device d _).mono ?_
      rintro r w' ⟨rfl, rfl⟩
      rw [hd]
      go_wp2_with fail
      go_ret
      exact ⟨rfl, h, Chg.refl _ _⟩

theorem fetch_lost_nil (dev : Int) (w : World) :
    Calls Try.prog 21 #[.pointer none, .int .i64 dev] w fun e w' => e = .returned (.int .i64 1) ∧ w = w' := by
  go_enter Try.func21, Try.ntmps21
  go_wp2_with fail
  refine (fetch_is_nil _).mono ?_
  rintro r w' ⟨rfl, rfl⟩
  go_wp2_with fail
  go_ret
  exact ⟨rfl, rfl⟩
end Go.Proofs.Ytcapbfhiiiggdaa
