/- What Left and Stuck of the package fetch do to memory. No conditions beyond those that each statement types. -/
import Derived.Test.YtcapbfhiiiggdaaFetchF
namespace Go.Proofs.Ytcapbfhiiiggdaa
open Go.RowKit

theorem Try.infoInt : (Try.prog.info? 3).map (fun i => (i.zero, i.size, i.bytes)) = some (some (.int .i64 0), 1, 8) := by kernel_rfl

def FS.leftB (s : FS) (n : Nat) : Bool := s.is n == 1 || s.is n == 2
def FS.stuckB (s : FS) (n : Nat) : Bool := s.is n == 1 && (List.range 17).all (fun d => !s.pe d || s.tr n d)

theorem fetch_leftB (b : Nat) (s : FS) (n : Nat) (hn : n < 32) (w : World) (h : FetchAt w b s) :
    Calls Try.prog 34 #[.pointer (some ⟨b, n * 19, none⟩)] w fun e w' => e = .returned (.bool (s.leftB n)) ∧ w = w' := by
  have ci := h.isAt n hn
  by_cases h1 : s.is n = 1
  · have e : s.leftB n = true := by simp [FS.leftB, h1]
    rw [e]
    rw [h1] at ci
    clear h1 e
    go_enter Try.func34, Try.ntmps34
    go_wp2_with fail
    go_ret
    exact ⟨rfl, rfl⟩
  · have h1' : (s.is n == 1) = false := by simpa using h1
    have e : s.leftB n = (s.is n == 2) := by simp [FS.leftB, h1']
    rw [e]
    clear h1 e
    go_enter Try.func34, Try.ntmps34
    go_wp2_with fail
    go_ret
    exact ⟨rfl, rfl⟩

theorem FS.stuck_no {s : FS} {n d : Nat} (hd : d < 17) (h1 : s.pe d = true) (h2 : s.tr n d = false) : s.stuckB n = false := by
  simp only [FS.stuckB, Bool.and_eq_false_iff]
  right
  rw [Bool.eq_false_iff]
  intro ha
  have := List.all_eq_true.1 ha d (List.mem_range.2 hd)
  simp [h1, h2] at this
theorem FS.stuck_yes {s : FS} {n : Nat} (hi : s.is n = 1) (h : ∀ d, d < 17 → s.pe d = true → s.tr n d = true) : s.stuckB n = true := by
  simp only [FS.stuckB, Bool.and_eq_true, hi]
  refine ⟨rfl, List.all_eq_true.2 fun d hd => ?_⟩
  have := h d (List.mem_range.1 hd)
  cases hp : s.pe d <;> simp_all

set_option maxHeartbeats 400000 in
theorem fetch_stuckB (b g : Nat) (s : FS) (n : Nat) (hn : n < 32) (w : World) (h : FetchAt w b s) (hg : w.cell? ⟨g, 0, none⟩ = some (.pointer (some ⟨b, 0, none⟩))) :
    Calls Try.prog 35 #[.pointer (some ⟨b, n * 19, none⟩), .pointer (some ⟨g, 0, none⟩)] w fun e w' => e = .returned (.bool (s.stuckB n)) ∧ w = w' := by
  have ci := h.isAt n hn
  obtain ⟨V, hV⟩ := peersV s
  by_cases h1 : s.is n = 1
  · rw [h1] at ci
    have hl := hV.load _ _ h
    go_enter Try.func35, Try.ntmps35
    go_wp2_with (refine wpList_load_x _ rfl 58 _ rfl (.agg V) hl ?_)
    go_loopw [15] (fun i wr => ∃ k : Nat, i = .int .i64 k ∧ k ≤ 17 ∧ (∀ d, d < k → s.pe d = true → s.tr n d = true) ∧ w = wr) (fun i _ => 17 - (intOf i).toNat)
    case atStart => exact ⟨0, rfl, by omega, fun d hd => by omega, rfl⟩
    case round =>
      obtain ⟨k, rfl, hk, hall, rfl⟩ := hrel
      by_cases hlt : k < 17
      · have hix := hV.part k hlt
        have hlt' : (k : Int) < 17 := by omega
        have ct := h.trAt n k hn hlt
        have hall' : (s.pe k = true → s.tr n k = true) → ∀ d, d < k + 1 → s.pe d = true → s.tr n d = true := fun hq d hd => by
          rcases Nat.lt_or_ge d k with h2 | h2
          · exact hall d h2
          · have : d = k := by omega
            subst this; exact hq
        have hno : s.pe k = true → s.tr n k = false → s.stuckB n = false := FS.stuck_no hlt
        clear hV hall hl h1
        cases hp : s.pe k with
        | false =>
          rw [hp] at hix
          have ha := Lib.hid (hall' (fun h => by rw [hp] at h; cases h))
          clear hall' hno hp
          go_wp2_with (refine wpList_index_x _ rfl 58 _ _ rfl _ (hix _) ?_)
          go_roundw
          case rel => exact ⟨k + 1, rfl, by omega, ha.out, by trivial⟩
          case measure => simp [intOf]; omega
        | true =>
          rw [hp] at hix
          cases ht : s.tr n k with
          | true =>
            rw [ht] at ct
            have ha := Lib.hid (hall' (fun _ => ht))
            clear hall' hno hp ht
            go_wp2_with (refine wpList_index_x _ rfl 58 _ _ rfl _ (hix _) ?_)
            go_roundw
            case rel => exact ⟨k + 1, rfl, by omega, ha.out, by trivial⟩
            case measure => simp [intOf]; omega
          | false =>
            rw [ht] at ct
            have ha := Lib.hid (hno hp ht)
            clear hall' hno hp ht
            go_wp2_with (refine wpList_index_x _ rfl 58 _ _ rfl _ (hix _) ?_)
            go_ret
            exact ⟨by rw [ha.out]; rfl, rfl⟩
      · have hk17 : k = 17 := by omega
        subst hk17
        have hs := Lib.hid (FS.stuck_yes h1 hall)
        clear hall h1
        go_wp2_with fail
        go_ret
        exact ⟨by rw [hs.out]; rfl, rfl⟩
  · have e : s.stuckB n = false := by simp [FS.stuckB, h1]
    rw [e]
    have h1' : (s.is n != 1) = true := by simpa using h1
    clear e
    go_enter Try.func35, Try.ntmps35
    go_wp2_with fail
    go_ret
    exact ⟨rfl, rfl⟩

/-- A list of numbers, in new memory. -/
def Listed (w : World) (l : List Int) (r : Ending) (w' : World) : Prop :=
  ∃ v, r = .returned v ∧ w'.ownsRow 0 3 1 v l.length (ivs l) ∧ Chg [] w w' ∧ ∀ k, v.ownBlock = some k → w.heap.size ≤ k

def nums (p : Nat → Bool) (k : Nat) : List Int := List.map (fun n : Nat => (n : Int)) (List.filter p (List.range k))
theorem nums_yes (p : Nat → Bool) (k : Nat) (h : p k = true) : nums p (k + 1) = nums p k ++ [(k : Int)] := by
  simp [nums, List.range_succ, h]
theorem nums_no (p : Nat → Bool) (k : Nat) (h : p k = false) : nums p (k + 1) = nums p k := by
  simp [nums, List.range_succ, h]
theorem nums_le (p : Nat → Bool) (k : Nat) : (nums p k).length ≤ k := by
  have := List.length_filter_le p (List.range k)
  simpa [nums] using this
theorem ivs_append (a b : List Int) : ivs (a ++ b) = ivs a ++ ivs b := by simp [ivs]
theorem ivs_one (d : List Int) : ∀ u ∈ ivs d, u.oneCell' = true := by
  intro u hu
  obtain ⟨_, _, rfl⟩ := List.mem_map.1 hu
  rfl

set_option maxHeartbeats 1000000 in
theorem fetch_list_left (b : Nat) (s : FS) (w : World) (h : FetchAt w b s) :
    Calls Try.prog 33 #[.pointer (some ⟨b, 0, none⟩), .func (.func 34) #[] #[]] w (Listed w (nums s.leftB 32)) := by
  obtain ⟨i0, hi, hz0, hz1, hz2⟩ := info_parts Try.infoInt
  go_enter Try.func33, Try.ntmps33
  go_wp2_with fail
  refine (fetch_is b s _ h).mono ?_
  rintro r w' ⟨rfl, rfl⟩
  go_wp2_with fail
  go_loopw [5, 10] (fun v i wr => ∃ (k n c : Nat) (a : Option Addr), v = .slice a n c ∧ i = .int .i64 k ∧ k ≤ 32 ∧ (nums s.leftB k).length = n ∧ wr.ownsRow 0 3 1 (.slice a n c) n (ivs (nums s.leftB k)) ∧ Chg [] w wr ∧ ∀ q, (Value.slice a n c).ownBlock = some q → w.heap.size ≤ q) (fun _ i _ => 32 - (intOf i).toNat)
  case atStart => exact ⟨0, 0, 0, none, rfl, rfl, by omega, rfl, World.ownsRow_nil _ _ _ _, Chg.refl _ _, fun q hq => by cases hq⟩
  case round =>
    obtain ⟨k, n, c, a, rfl, rfl, hk, hn, ho, C, hnew⟩ := hrel
    by_cases hlt : k < 32
    · have hlt' : (k : Int) < 32 := by omega
      have hcall := fetch_leftB b s k hlt wr (h.chg C (by simp))
      have hle := nums_le s.leftB k
      have hl := ownsRow_lt ho
      cases hp : s.leftB k with
      | false =>
        rw [hp] at hcall
        have hs := Lib.hid (nums_no s.leftB k hp)
        have HN := Lib.hid hn
        clear hn hp
        go_wp2_with fail
        refine hcall.mono ?_
        rintro r w' ⟨rfl, rfl⟩
        go_wp2_with fail
        go_roundw
        case rel => exact ⟨k + 1, n, c, a, rfl, rfl, by omega, by rw [hs.out]; exact HN.out, by rw [hs.out]; exact ho, C, hnew⟩
        case measure => simp [intOf]; omega
      | true =>
        rw [hp] at hcall
        have hs := Lib.hid (nums_yes s.leftB k hp)
        rw [hn] at hle
        have HN := Lib.hid hn
        clear hn hp
        go_wp2_with fail
        refine hcall.mono ?_
        rintro r w' ⟨rfl, rfl⟩
        have CA := Chg.alloc [] wr (Obj.cells #[.int .i64 k] 3)
        have hnx := heap_alloc_new wr (Obj.cells #[.int .i64 k] 3)
        have hsrc : Src (wr.alloc (Obj.cells #[.int .i64 k] 3)) (some ⟨wr.heap.size, 0, none⟩) (ivs [(k : Int)]) := by
          refine ⟨fun h => by (cases h), fun q hq j u hu => ?_⟩
          cases hq
          have hj : j = 0 := by
            have := (List.getElem?_eq_some_iff.1 hu).1
            simp [ivs] at this; omega
          subst hj
          rw [show (⟨wr.heap.size, 0, none⟩ : Addr).add 0 = ⟨wr.heap.size, 0, none⟩ from rfl, cell_of_row _ _ 0 _ _ _ hnx]
          simpa [ivs, iv] using hu
        go_wp2_with (at_builtin; refine wpList_append_x _ rfl _ _ 24 rfl 3 i0 _ 1 8 Try.underlying24 hi hz0 hz1 hz2 rfl (by decide) (.slice a n c) n (ivs (nums s.leftB k)) rfl (ownsRow_chg ho CA (by simp)) (some ⟨wr.heap.size, 0, none⟩) 1 1 (ivs [(k : Int)]) rfl rfl hsrc (fun h => by cases h) (ivs_one _) (by unfold maxLen; omega) (by omega) ?_)
        intro ao' c' w1 hown hgr hblk
        have C1 : Chg [] w w1 := (C.trans CA (by simp)).trans (Chg.grown hgr (S := (Value.slice a n c).ownBlock.toList) (by intro q hq; left; simp [hq])) (by intro q hq; right; exact hnew q (by simpa using hq))
        have hnew1 : ∀ q, (Value.slice ao' (n + 1) c').ownBlock = some q → w.heap.size ≤ q := by
          intro q hq
          have h0 := C.size
          rcases hblk with h1 | h1 <;> rw [h1] at hq
          · exact hnew q hq
          · have := Option.some.inj hq; try simp only [World.size_alloc] at this
            omega
        go_wp2_with fail
        go_roundw
        case rel => exact ⟨k + 1, n + 1, c', ao', rfl, rfl, by omega, by rw [hs.out, List.length_append, HN.out]; rfl, by rw [hs.out, ivs_append]; exact hown, C1, hnew1⟩
        case measure => simp [intOf]; omega
    · have hk32 : k = 32 := by omega
      subst hk32
      go_wp2_with fail
      go_ret
      exact ⟨_, rfl, by rw [hn]; exact ho, C, hnew⟩

set_option maxHeartbeats 1000000 in
theorem fetch_list_stuck (b g : Nat) (s : FS) (w : World) (h : FetchAt w b s) (hg : w.cell? ⟨g, 0, none⟩ = some (.pointer (some ⟨b, 0, none⟩))) :
    Calls Try.prog 33 #[.pointer (some ⟨b, 0, none⟩), .func (.func 35) #[] #[.pointer (some ⟨g, 0, none⟩)]] w (Listed w (nums s.stuckB 32)) := by
  obtain ⟨i0, hi, hz0, hz1, hz2⟩ := info_parts Try.infoInt
  go_enter Try.func33, Try.ntmps33
  go_wp2_with fail
  refine (fetch_is b s _ h).mono ?_
  rintro r w' ⟨rfl, rfl⟩
  go_wp2_with fail
  go_loopw [5, 10] (fun v i wr => ∃ (k n c : Nat) (a : Option Addr), v = .slice a n c ∧ i = .int .i64 k ∧ k ≤ 32 ∧ (nums s.stuckB k).length = n ∧ wr.ownsRow 0 3 1 (.slice a n c) n (ivs (nums s.stuckB k)) ∧ Chg [] w wr ∧ ∀ q, (Value.slice a n c).ownBlock = some q → w.heap.size ≤ q) (fun _ i _ => 32 - (intOf i).toNat)
  case atStart => exact ⟨0, 0, 0, none, rfl, rfl, by omega, rfl, World.ownsRow_nil _ _ _ _, Chg.refl _ _, fun q hq => by cases hq⟩
  case round =>
    obtain ⟨k, n, c, a, rfl, rfl, hk, hn, ho, C, hnew⟩ := hrel
    by_cases hlt : k < 32
    · have hlt' : (k : Int) < 32 := by omega
      have hcall := fetch_stuckB b g s k hlt wr (h.chg C (by simp)) (C.cell_some hg (by simp))
      have hle := nums_le s.stuckB k
      have hl := ownsRow_lt ho
      cases hp : s.stuckB k with
      | false =>
        rw [hp] at hcall
        have hs := Lib.hid (nums_no s.stuckB k hp)
        have HN := Lib.hid hn
        clear hn hp
        go_wp2_with fail
        refine hcall.mono ?_
        rintro r w' ⟨rfl, rfl⟩
        go_wp2_with fail
        go_roundw
        case rel => exact ⟨k + 1, n, c, a, rfl, rfl, by omega, by rw [hs.out]; exact HN.out, by rw [hs.out]; exact ho, C, hnew⟩
        case measure => simp [intOf]; omega
      | true =>
        rw [hp] at hcall
        have hs := Lib.hid (nums_yes s.stuckB k hp)
        rw [hn] at hle
        have HN := Lib.hid hn
        clear hn hp
        go_wp2_with fail
        refine hcall.mono ?_
        rintro r w' ⟨rfl, rfl⟩
        have CA := Chg.alloc [] wr (Obj.cells #[.int .i64 k] 3)
        have hnx := heap_alloc_new wr (Obj.cells #[.int .i64 k] 3)
        have hsrc : Src (wr.alloc (Obj.cells #[.int .i64 k] 3)) (some ⟨wr.heap.size, 0, none⟩) (ivs [(k : Int)]) := by
          refine ⟨fun h => by (cases h), fun q hq j u hu => ?_⟩
          cases hq
          have hj : j = 0 := by
            have := (List.getElem?_eq_some_iff.1 hu).1
            simp [ivs] at this; omega
          subst hj
          rw [show (⟨wr.heap.size, 0, none⟩ : Addr).add 0 = ⟨wr.heap.size, 0, none⟩ from rfl, cell_of_row _ _ 0 _ _ _ hnx]
          simpa [ivs, iv] using hu
        go_wp2_with (at_builtin; refine wpList_append_x _ rfl _ _ 24 rfl 3 i0 _ 1 8 Try.underlying24 hi hz0 hz1 hz2 rfl (by decide) (.slice a n c) n (ivs (nums s.stuckB k)) rfl (ownsRow_chg ho CA (by simp)) (some ⟨wr.heap.size, 0, none⟩) 1 1 (ivs [(k : Int)]) rfl rfl hsrc (fun h => by cases h) (ivs_one _) (by unfold maxLen; omega) (by omega) ?_)
        intro ao' c' w1 hown hgr hblk
        have C1 : Chg [] w w1 := (C.trans CA (by simp)).trans (Chg.grown hgr (S := (Value.slice a n c).ownBlock.toList) (by intro q hq; left; simp [hq])) (by intro q hq; right; exact hnew q (by simpa using hq))
        have hnew1 : ∀ q, (Value.slice ao' (n + 1) c').ownBlock = some q → w.heap.size ≤ q := by
          intro q hq
          have h0 := C.size
          rcases hblk with h1 | h1 <;> rw [h1] at hq
          · exact hnew q hq
          · have := Option.some.inj hq; try simp only [World.size_alloc] at this
            omega
        go_wp2_with fail
        go_roundw
        case rel => exact ⟨k + 1, n + 1, c', ao', rfl, rfl, by omega, by rw [hs.out, List.length_append, HN.out]; rfl, by rw [hs.out, ivs_append]; exact hown, C1, hnew1⟩
        case measure => simp [intOf]; omega
    · have hk32 : k = 32 := by omega
      subst hk32
      go_wp2_with fail
      go_ret
      exact ⟨_, rfl, by rw [hn]; exact ho, C, hnew⟩

theorem fetch_left (b : Nat) (s : FS) (w : World) (h : FetchAt w b s) :
    Calls Try.prog 15 #[.pointer (some ⟨b, 0, none⟩)] w (Listed w (nums s.leftB 32)) := by
  go_enter Try.func15, Try.ntmps15
  go_wp2_with fail
  refine (fetch_list_left b s w h).mono ?_
  rintro r w' ⟨v, rfl, o, C, hn⟩
  go_wp2_with fail
  go_ret
  exact ⟨v, rfl, o, C, hn⟩

theorem fetch_stuck (b : Nat) (s : FS) (w : World) (h : FetchAt w b s) :
    Calls Try.prog 16 #[.pointer (some ⟨b, 0, none⟩)] w (Listed w (nums s.stuckB 32)) := by
  have CA := Chg.alloc [] w (Obj.cells #[.pointer (some ⟨b, 0, none⟩)] 26)
  have hnx := heap_alloc_new w (Obj.cells #[.pointer (some ⟨b, 0, none⟩)] 26)
  have x0 : (w.alloc (Obj.cells #[.pointer (some ⟨b, 0, none⟩)] 26)).cell? ⟨w.heap.size, 0, none⟩ = some (.pointer (some ⟨b, 0, none⟩)) := by rw [cell_of_row _ _ 0 _ _ _ hnx]; rfl
  go_enter Try.func16, Try.ntmps16
  go_wp2_with fail
  refine (fetch_list_stuck b w.heap.size s _ (h.chg CA (by simp)) x0).mono ?_
  rintro r w' ⟨v, rfl, o, C, hn⟩
  go_wp2_with fail
  go_ret
  exact ⟨v, rfl, o, CA.trans C (by simp), fun k hk => Nat.le_trans CA.size (hn k hk)⟩

end Go.Proofs.Ytcapbfhiiiggdaa
