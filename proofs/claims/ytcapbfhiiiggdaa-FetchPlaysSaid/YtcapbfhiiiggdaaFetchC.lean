/- What peer, Ask, answered, Done, Failed, Lost and Found of the package fetch do to memory. No conditions beyond those that each statement types. -/
import Derived.Test.YtcapbfhiiiggdaaFetchB
namespace Go.Proofs.Ytcapbfhiiiggdaa
open Go.RowKit

def FS.peerTo (s : FS) (n : Nat) : Nat → Int × Int
  | 0 => (0, 8)
  | k + 1 => if s.pe k && !s.tr n k && decide ((s.asked k : Int) < (s.peerTo n k).2) then ((k : Int), (s.asked k : Int)) else s.peerTo n k
def FS.peer (s : FS) (n : Nat) : Int := (s.peerTo n 17).1

set_option maxHeartbeats 400000 in
theorem fetch_peer (b : Nat) (s : FS) (n : Nat) (hn : n < 32) (w : World) (h : FetchAt w b s) :
    Calls Try.prog 31 #[.pointer (some ⟨b, 0, none⟩), .pointer (some ⟨b, n * 19, none⟩)] w fun e w' => e = .returned (.int .i64 (s.peer n)) ∧ Chg [] w w' := by
  obtain ⟨V, hV⟩ := peersV s
  go_enter Try.func31, Try.ntmps31
  go_wp2_with (refine wpList_load_x _ rfl 58 _ rfl (.agg V) (hV.load _ _ h) ?_)
  go_loopw [5, 6, 14] (fun v l i wr => ∃ k : Nat, v = .int .i64 (s.peerTo n k).1 ∧ l = .int .i64 (s.peerTo n k).2 ∧ i = .int .i64 k ∧ k ≤ 17 ∧ Chg [] w wr) (fun _ _ i _ => 17 - (intOf i).toNat)
  case atStart => exact ⟨0, rfl, rfl, rfl, by omega, Chg.refl _ _⟩
  case round =>
    obtain ⟨k, rfl, rfl, rfl, hk, C⟩ := hrel
    by_cases hlt : k < 17
    · have hix := hV.part k hlt
      have hlt' : (k : Int) < 17 := by omega
      have hr := h.chg C (by simp)
      have ct := hr.trAt n k hn hlt
      have hstep : s.peerTo n (k + 1) = if s.pe k && !s.tr n k && decide ((s.asked k : Int) < (s.peerTo n k).2) then ((k : Int), (s.asked k : Int)) else s.peerTo n k := rfl
      clear hV
      obtain ⟨⟨best, least⟩, hP⟩ : ∃ p, s.peerTo n k = p := ⟨_, rfl⟩
      rw [hP] at hstep ⊢
      clear hP
      dsimp only at *
      cases hp : s.pe k with
      | false =>
        rw [hp] at hstep hix
        have hs' : s.peerTo n (k + 1) = (best, least) := by rw [hstep]; simp
        clear hstep
        go_wp2_with (refine wpList_index_x _ rfl 58 _ _ rfl _ (hix _) ?_)
        go_roundw
        case rel => exact ⟨k + 1, by rw [hs'], by rw [hs'], rfl, by omega, C⟩
        case measure => simp [intOf]; omega
      | true =>
        rw [hp] at hstep hix
        cases ht : s.tr n k with
        | true =>
          rw [ht] at hstep ct
          have hs' : s.peerTo n (k + 1) = (best, least) := by rw [hstep]; simp
          clear hstep
          go_wp2_with (refine wpList_index_x _ rfl 58 _ _ rfl _ (hix _) ?_)
          go_roundw
          case rel => exact ⟨k + 1, by rw [hs'], by rw [hs'], rfl, by omega, C⟩
          case measure => simp [intOf]; omega
        | false =>
          rw [ht] at hstep ct
          have hcall := fetch_asked b s k wr hr
          obtain ⟨A, hA⟩ : ∃ A, s.asked k = A := ⟨_, rfl⟩
          rw [hA] at hstep hcall
          by_cases hlt2 : (A : Int) < least
          · have hs' : s.peerTo n (k + 1) = ((k : Int), (A : Int)) := by rw [hstep]; simp [hlt2]
            clear hstep
            go_wp2_with (refine wpList_index_x _ rfl 58 _ _ rfl _ (hix _) ?_)
            refine hcall.mono ?_
            rintro r w2 ⟨rfl, C2⟩
            have C3 := C.trans C2 (by simp)
            go_wp2_with fail
            go_roundw
            case rel => exact ⟨k + 1, by rw [hs'], by rw [hs'], rfl, by omega, C3⟩
            case measure => simp [intOf]; omega
          · have hs' : s.peerTo n (k + 1) = (best, least) := by rw [hstep]; simp [hlt2]
            clear hstep
            go_wp2_with (refine wpList_index_x _ rfl 58 _ _ rfl _ (hix _) ?_)
            refine hcall.mono ?_
            rintro r w2 ⟨rfl, C2⟩
            have C3 := C.trans C2 (by simp)
            go_wp2_with fail
            go_roundw
            case rel => exact ⟨k + 1, by rw [hs'], by rw [hs'], rfl, by omega, C3⟩
            case measure => simp [intOf]; omega
    · have hk17 : k = 17 := by omega
      subst hk17
      go_wp2_with fail
      go_ret
      exact ⟨rfl, C⟩

/-- The block that is asked next. -/
def FS.free (s : FS) (n : Nat) : Bool := s.is n == 1 && decide (0 < s.peer n)
def FS.next (s : FS) : Option Nat := (List.range 32).find? s.free
def FS.putAsk (s : FS) (n : Nat) (dev : Int) : FS := (s.putIs n 2).putOf n dev
def FS.ask (s : FS) : FS := match s.next with
  | some n => s.putAsk n (s.peer n)
  | none => s
def FS.asksN (s : FS) : Value := match s.next with
  | some n => .tuple #[.int .i64 n, .int .i64 (s.peer n), .bool true]
  | none => .tuple #[.int .i64 0, .int .i64 0, .bool false]

theorem FS.next_none {s : FS} (h : ∀ n, n < 32 → s.free n = false) : s.next = none := by
  rw [FS.next, List.find?_range_eq_none]
  exact fun i hi => by rw [h i hi]; rfl
theorem FS.next_some {s : FS} {k : Nat} (h : ∀ n, n < k → s.free n = false) (hk : k < 32) (hf : s.free k = true) : s.next = some k := by
  rw [FS.next, List.find?_range_eq_some]
  exact ⟨hf, List.mem_range.2 hk, fun j hj => by rw [h j hj]; rfl⟩

set_option maxHeartbeats 400000 in
theorem fetch_ask (b : Nat) (s : FS) (w : World) (h : FetchAt w b s) :
    Calls Try.prog 10 #[.pointer (some ⟨b, 0, none⟩)] w fun e w' => e = .returned s.asksN ∧ FetchAt w' b s.ask ∧ Chg [b] w w' := by
  go_enter Try.func10, Try.ntmps10
  go_wp2_with fail
  refine (fetch_is b s _ h).mono ?_
  rintro r w' ⟨rfl, rfl⟩
  go_wp2_with fail
  go_loopw [11] (fun i wr => ∃ k : Nat, i = .int .i64 k ∧ k ≤ 32 ∧ (∀ n, n < k → s.free n = false) ∧ Chg [] w wr) (fun i _ => 32 - (intOf i).toNat)
  case atStart => exact ⟨0, rfl, by omega, fun n hn => by omega, Chg.refl _ _⟩
  case round =>
    obtain ⟨k, rfl, hk, hno, C⟩ := hrel
    by_cases hlt : k < 32
    · have hlt' : (k : Int) < 32 := by omega
      have hr := h.chg C (by simp)
      have ci := hr.isAt k hlt
      by_cases h1 : s.is k = 1
      · have h1' : (s.is k == 1) = true := by simpa using h1
        have hcall := fetch_peer b s k hlt wr hr
        have hfree : s.free k = decide (0 < s.peer k) := by simp [FS.free, h1']
        have hask : s.free k = true → s.ask = s.putAsk k (s.peer k) ∧ s.asksN = .tuple #[.int .i64 k, .int .i64 (s.peer k), .bool true] := fun hf => by
          have := FS.next_some hno hlt hf
          simp [FS.ask, FS.asksN, this]
        obtain ⟨d, hd⟩ : ∃ d, s.peer k = d := ⟨_, rfl⟩
        rw [hd] at hcall hfree hask
        by_cases hpos : 0 < d
        · obtain ⟨e1, e2⟩ := hask (by rw [hfree]; simpa using hpos)
          have E1 := Lib.hid e1
          have E2 := Lib.hid e2
          clear hask hfree hd e1 e2 hno
          go_wp2_with fail
          refine hcall.mono ?_
          rintro r w2 ⟨rfl, C2⟩
          have C3 := C.trans C2 (by simp)
          have h3 := h.chg C3 (by simp)
          have q0 := h3.isAt k hlt
          have q1 := (h3.putIs k hlt 2).ofAt k hlt
          have f0 := h3.frozen (k * 19)
          have f1 := (h3.putIs k hlt 2).frozen (k * 19 + 1)
          go_wp2_with fail
          go_ret3
          refine ⟨by rw [E2.out]; rfl, by rw [E1.out]; exact (h3.putIs k hlt 2).putOf k hlt d, ?_⟩
          exact ((C3.mono (by simp)).trans (Chg.setCell (S := [b]) _ _ _ (.inl (by simp))) (by simp)).trans (Chg.setCell (S := [b]) _ _ _ (.inl (by simp))) (by simp)
        · have hno' : ∀ n, n < k + 1 → s.free n = false := fun n hn => by
            rcases Nat.lt_or_ge n k with h2 | h2
            · exact hno n h2
            · have : n = k := by omega
              subst this; rw [hfree]; simpa using hpos
          clear hask hfree hd hno
          go_wp2_with fail
          refine hcall.mono ?_
          rintro r w2 ⟨rfl, C2⟩
          have C3 := C.trans C2 (by simp)
          go_wp2_with fail
          go_roundw
          case rel => exact ⟨k + 1, rfl, by omega, hno', C3⟩
          case measure => simp [intOf]; omega
      · have hno' : ∀ n, n < k + 1 → s.free n = false := fun n hn => by
          rcases Nat.lt_or_ge n k with h2 | h2
          · exact hno n h2
          · have : n = k := by omega
            subst this; simp [FS.free, h1]
        have h1' : (s.is k == 1) = false := by simpa using h1
        clear hno
        go_wp2_with fail
        go_roundw
        case rel => exact ⟨k + 1, rfl, by omega, hno', C⟩
        case measure => simp [intOf]; omega
    · have hk32 : k = 32 := by omega
      subst hk32
      have hn := FS.next_none hno
      go_wp2_with fail
      go_ret3
      refine ⟨by simp [FS.asksN, hn], ?_, C.mono (by simp)⟩
      rw [show s.ask = s from by simp [FS.ask, hn]]
      exact h.chg C (by simp)

theorem fetch_answered_yes (b : Nat) (s : FS) (n : Nat) (dev : Int) (w : World) (h : FetchAt w b s) (hn : n < 32) (h1 : s.is n = 2) (h2 : s.of n = dev) :
    Calls Try.prog 32 #[.pointer (some ⟨b, 0, none⟩), .int .i64 n, .int .i64 dev] w fun e w' => e = .returned (.tuple #[.pointer (some ⟨b, n * 19, none⟩), .int .i64 0]) ∧ w = w' := by
  have hlt' : (n : Int) < 32 := by omega
  have h0' : ¬ (n : Int) < 0 := by omega
  have c0 := h.isAt n hn
  have c1 := h.ofAt n hn
  rw [h1] at c0
  rw [h2] at c1
  go_enter Try.func32, Try.ntmps32
  go_wp2_with fail
  refine (fetch_is b s _ h).mono ?_
  rintro r w' ⟨rfl, rfl⟩
  go_wp2_with fail
  go_ret2
  exact ⟨rfl, rfl⟩

def FS.isAsked (s : FS) (n dev : Int) : Prop := 0 ≤ n ∧ n < 32 ∧ s.is n.toNat = 2 ∧ s.of n.toNat = dev

theorem fetch_answered_no (b : Nat) (s : FS) (n : Int) (dev : Int) (w : World) (h : FetchAt w b s) (hno : ¬ s.isAsked n dev) :
    Calls Try.prog 32 #[.pointer (some ⟨b, 0, none⟩), .int .i64 n, .int .i64 dev] w fun e w' => e = .returned (.tuple #[.pointer none, .int .i64 5]) ∧ w = w' := by
  by_cases ha : n < 0
  · go_enter Try.func32, Try.ntmps32
    go_wp2_with fail
    refine (fetch_is b s _ h).mono ?_
    rintro r w' ⟨rfl, rfl⟩
    go_wp2_with fail
    go_ret2
    exact ⟨rfl, rfl⟩
  by_cases hb : 32 ≤ n
  · go_enter Try.func32, Try.ntmps32
    go_wp2_with fail
    refine (fetch_is b s _ h).mono ?_
    rintro r w' ⟨rfl, rfl⟩
    go_wp2_with fail
    go_ret2
    exact ⟨rfl, rfl⟩
  obtain ⟨m, rfl⟩ : ∃ m : Nat, n = m := ⟨n.toNat, by omega⟩
  have hm : m < 32 := by omega
  have hlt' : (m : Int) < 32 := by omega
  have h0' : ¬ (m : Int) < 0 := by omega
  have c0 := h.isAt m hm
  have c1 := h.ofAt m hm
  by_cases h1 : s.is m = 2
  · have h2 : ¬ s.of m = dev := fun h2 => hno ⟨by omega, by omega, h1, h2⟩
    have h2' : (s.of m != dev) = true := by simpa using h2
    rw [h1] at c0
    clear hno h1 ha hb
    go_enter Try.func32, Try.ntmps32
    go_wp2_with fail
    refine (fetch_is b s _ h).mono ?_
    rintro r w' ⟨rfl, rfl⟩
    go_wp2_with fail
    go_ret2
    exact ⟨rfl, rfl⟩
  · have h1' : (s.is m != 2) = true := by simpa using h1
    clear hno ha hb
    go_enter Try.func32, Try.ntmps32
    go_wp2_with fail
    refine (fetch_is b s _ h).mono ?_
    rintro r w' ⟨rfl, rfl⟩
    go_wp2_with fail
    go_ret2
    exact ⟨rfl, rfl⟩

theorem fetch_answered_nil (n dev : Int) (w : World) :
    Calls Try.prog 32 #[.pointer none, .int .i64 n, .int .i64 dev] w fun e w' => e = .returned (.tuple #[.pointer none, .int .i64 1]) ∧ w = w' := by
  go_enter Try.func32, Try.ntmps32
  go_wp2_with fail
  refine (fetch_is_nil _).mono ?_
  rintro r w' ⟨rfl, rfl⟩
  go_wp2_with fail
  go_ret2
  exact ⟨rfl, rfl⟩

end Go.Proofs.Ytcapbfhiiiggdaa
