/- What Done, Failed, Lost and Found of the package fetch do to memory. No conditions beyond those that each statement types. -/
import Derived.Test.YtcapbfhiiiggdaaFetchC
namespace Go.Proofs.Ytcapbfhiiiggdaa
open Go.RowKit

instance (s : FS) (n dev : Int) : Decidable (s.isAsked n dev) := by unfold FS.isAsked; infer_instance

/-- What is asked is asked of a device. -/
def FS.Ok (s : FS) : Prop := ∀ n, n < 32 → s.is n = 2 → 1 ≤ s.of n ∧ s.of n ≤ 16

def FS.code (s : FS) (n dev : Int) : Int := if s.isAsked n dev then 0 else 5
def FS.done (s : FS) (n dev : Int) : FS := if s.isAsked n dev then s.putIs n.toNat 3 else s
def FS.failed (s : FS) (n dev : Int) : FS := if s.isAsked n dev then (s.putIs n.toNat 1).putTr n.toNat dev.toNat true else s

theorem fetch_done (b : Nat) (s : FS) (n dev : Int) (w : World) (h : FetchAt w b s) :
    Calls Try.prog 13 #[.pointer (some ⟨b, 0, none⟩), .int .i64 n, .int .i64 dev] w fun e w' => e = .returned (.int .i64 (s.code n dev)) ∧ FetchAt w' b (s.done n dev) ∧ Chg [b] w w' := by
  by_cases ha : s.isAsked n dev
  · have e1 : s.code n dev = 0 := by simp [FS.code, ha]
    have e2 : s.done n dev = s.putIs n.toNat 3 := by simp [FS.done, ha]
    obtain ⟨h0, h1, h2, h3⟩ := ha
    obtain ⟨m, rfl⟩ : ∃ m : Nat, n = m := ⟨n.toNat, by omega⟩
    rw [Int.toNat_natCast] at h2 h3 e2
    rw [e1, e2]
    have hm : m < 32 := by omega
    have ci := h.isAt m hm
    have fr := h.frozen (m * 19)
    go_enter Try.func13, Try.ntmps13
    go_wp2_with fail
    refine (fetch_answered_yes b s m dev _ h hm h2 h3).mono ?_
    rintro r w' ⟨rfl, rfl⟩
    go_wp2_with fail
    go_ret
    exact ⟨rfl, h.putIs m hm 3, Chg.setCell (S := [b]) _ _ _ (.inl (by simp))⟩
  · have e1 : s.code n dev = 5 := by simp [FS.code, ha]
    have e2 : s.done n dev = s := by simp [FS.done, ha]
    rw [e1, e2]
    go_enter Try.func13, Try.ntmps13
    go_wp2_with fail
    refine (fetch_answered_no b s n dev _ h ha).mono ?_
    rintro r w' ⟨rfl, rfl⟩
    go_wp2_with fail
    go_ret
    exact ⟨rfl, h, Chg.refl _ _⟩

theorem fetch_done_nil (n dev : Int) (w : World) :
    Calls Try.prog 13 #[.pointer none, .int .i64 n, .int .i64 dev] w fun e w' => e = .returned (.int .i64 1) ∧ w = w' := by
  go_enter Try.func13, Try.ntmps13
  go_wp2_with fail
  refine (fetch_answered_nil n dev _).mono ?_
  rintro r w' ⟨rfl, rfl⟩
  go_wp2_with fail
  go_ret
  exact ⟨rfl, rfl⟩

theorem fetch_failed (b : Nat) (s : FS) (n dev : Int) (w : World) (h : FetchAt w b s) (hok : s.Ok) :
    Calls Try.prog 14 #[.pointer (some ⟨b, 0, none⟩), .int .i64 n, .int .i64 dev] w fun e w' => e = .returned (.int .i64 (s.code n dev)) ∧ FetchAt w' b (s.failed n dev) ∧ Chg [b] w w' := by
  by_cases ha : s.isAsked n dev
  · have e1 : s.code n dev = 0 := by simp [FS.code, ha]
    have e2 : s.failed n dev = (s.putIs n.toNat 1).putTr n.toNat dev.toNat true := by simp [FS.failed, ha]
    obtain ⟨h0, h1, h2, h3⟩ := ha
    obtain ⟨m, rfl⟩ : ∃ m : Nat, n = m := ⟨n.toNat, by omega⟩
    rw [Int.toNat_natCast] at h2 h3 e2
    have hm : m < 32 := by omega
    have hd := hok m hm h2
    rw [h3] at hd
    obtain ⟨d, rfl⟩ : ∃ d : Nat, dev = d := ⟨dev.toNat, by omega⟩
    rw [Int.toNat_natCast] at e2
    rw [e1, e2]
    have hdl : d < 17 := by omega
    have hdl' : (d : Int) < 17 := by omega
    have ci := h.isAt m hm
    have fr := h.frozen (m * 19)
    have hp := h.putIs m hm 1
    have ct := hp.trAt m d hm hdl
    have fr2 := hp.frozen (m * 19 + 2 + d)
    go_enter Try.func14, Try.ntmps14
    go_wp2_with fail
    refine (fetch_answered_yes b s m d _ h hm h2 h3).mono ?_
    rintro r w' ⟨rfl, rfl⟩
    go_wp2_with fail
    go_ret
    exact ⟨rfl, hp.putTr m d hm hdl true, (Chg.setCell (S := [b]) _ _ _ (.inl (by simp))).trans (Chg.setCell (S := [b]) _ _ _ (.inl (by simp))) (by simp)⟩
  · have e1 : s.code n dev = 5 := by simp [FS.code, ha]
    have e2 : s.failed n dev = s := by simp [FS.failed, ha]
    rw [e1, e2]
    go_enter Try.func14, Try.ntmps14
    go_wp2_with fail
    refine (fetch_answered_no b s n dev _ h ha).mono ?_
    rintro r w' ⟨rfl, rfl⟩
    go_wp2_with fail
    go_ret
    exact ⟨rfl, h, Chg.refl _ _⟩

theorem fetch_device (n : Int) (w : World) :
    Calls Try.prog 39 #[.int .i64 n] w fun e w' => e = .returned (.bool (isDev n)) ∧ w = w' := by
  by_cases h : 1 ≤ n
  · go_enter Try.func39, Try.ntmps39
    go_wp2_with fail
    go_ret
    exact ⟨by simp [isDev, h], rfl⟩
  · go_enter Try.func39, Try.ntmps39
    go_wp2_with fail
    go_ret
    exact ⟨by simp [isDev]; omega, rfl⟩

theorem isDev_iff (n : Int) : isDev n = true ↔ ∃ d : Nat, n = d ∧ 1 ≤ d ∧ d ≤ 16 := by
  simp only [isDev, Bool.and_eq_true, decide_eq_true_eq]
  constructor
  · intro ⟨h1, h2⟩; exact ⟨n.toNat, by omega, by omega, by omega⟩
  · rintro ⟨d, rfl, h1, h2⟩; omega

def FS.foundCode (s : FS) (dev : Int) : Int := if isDev dev then (if s.pe dev.toNat then 6 else 0) else 2
def FS.found (s : FS) (dev : Int) : FS := if isDev dev && !s.pe dev.toNat then s.putPe dev.toNat true else s

theorem fetch_found (b : Nat) (s : FS) (dev : Int) (w : World) (h : FetchAt w b s) :
    Calls Try.prog 23 #[.pointer (some ⟨b, 0, none⟩), .int .i64 dev] w fun e w' => e = .returned (.int .i64 (s.foundCode dev)) ∧ FetchAt w' b (s.found dev) ∧ Chg [b] w w' := by
  cases hd : isDev dev with
  | false =>
    have e1 : s.foundCode dev = 2 := by simp [FS.foundCode, hd]
    have e2 : s.found dev = s := by simp [FS.found, hd]
    rw [e1, e2]
    go_enter Try.func23, Try.ntmps23
    go_wp2_with fail
    refine (fetch_is b s _ h).mono ?_
    rintro r w' ⟨rfl, rfl⟩
    go_wp2_with fail
    refine (fetch_device dev _).mono ?_
    rintro r w' ⟨rfl, rfl⟩
    rw [hd]
    go_wp2_with fail
    go_ret
    exact ⟨rfl, h, Chg.refl _ _⟩
  | true =>
    obtain ⟨d, rfl, hd1, hd2⟩ := (isDev_iff _).1 hd
    have hdl : d < 17 := by omega
    have hdl' : (d : Int) < 17 := by omega
    have cp := h.peAt d hdl
    have fp := h.frozen (608 + d)
    cases hp : s.pe d with
    | true =>
      have e1 : s.foundCode d = 6 := by simp [FS.foundCode, hd, hp]
      have e2 : s.found d = s := by simp [FS.found, hp]
      rw [e1, e2]
      rw [hp] at cp
      go_enter Try.func23, Try.ntmps23
      go_wp2_with fail
      refine (fetch_is b s _ h).mono ?_
      rintro r w' ⟨rfl, rfl⟩
      go_wp2_with fail
      refine (fetch_device d _).mono ?_
      rintro r w' ⟨rfl, rfl⟩
      rw [hd]
      go_wp2_with fail
      go_ret
      exact ⟨rfl, h, Chg.refl _ _⟩
    | false =>
      have e1 : s.foundCode d = 0 := by simp [FS.foundCode, hd, hp]
      have e2 : s.found d = s.putPe d true := by simp [FS.found, hd, hp]
      rw [e1, e2]
      rw [hp] at cp
      go_enter Try.func23, Try.ntmps23
      go_wp2_with fail
      refine (fetch_is b s _ h).mono ?_
      rintro r w' ⟨rfl, rfl⟩
      go_wp2_with fail
      refine (fetch_device d _).mono ?_
      rintro r w' ⟨rfl, rfl⟩
      rw [hd]
      go_wp2_with fail
      go_ret
      exact ⟨rfl, h.putPe d hdl true, Chg.setCell (S := [b]) _ _ _ (.inl (by simp))⟩

theorem fetch_found_nil (dev : Int) (w : World) :
    Calls Try.prog 23 #[.pointer none, .int .i64 dev] w fun e w' => e = .returned (.int .i64 1) ∧ w = w' := by
  go_enter Try.func23, Try.ntmps23
  go_wp2_with fail
  refine (fetch_is_nil _).mono ?_
  rintro r w' ⟨rfl, rfl⟩
  go_wp2_with fail
  go_ret
  exact ⟨rfl, rfl⟩
end Go.Proofs.Ytcapbfhiiiggdaa
