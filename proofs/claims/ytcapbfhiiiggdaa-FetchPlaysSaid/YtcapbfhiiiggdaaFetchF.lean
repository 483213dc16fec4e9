/- What rises and New of the package fetch do to memory. No conditions beyond those that each statement types. -/
import Derived.Test.YtcapbfhiiiggdaaFetchE
namespace Go.Proofs.Ytcapbfhiiiggdaa
open Go.RowKit

def iv (n : Int) : Value := .int .i64 n
def ivs (l : List Int) : List Value := l.map iv
theorem ivs_length (l : List Int) : (ivs l).length = l.length := by simp [ivs]

def rises : List Int → Int → Int → Bool
  | [], _, _ => true
  | n :: l, least, most => if n < least ∨ most < n then false else rises l (n + 1) most

theorem rises_cons (n : Int) (l : List Int) (least most : Int) : rises (n :: l) least most = if n < least ∨ most < n then false else rises l (n + 1) most := rfl

set_option maxHeartbeats 400000 in
theorem fetch_rises (l : List Int) (ao : Option Addr) (c : Nat) (least most : Int) (w : World) (hsrc : Src w ao (ivs l)) (hleast : 0 ≤ least) (hmost : most ≤ 1000) (hlen : l.length ≤ 9223372036854775807) :
    Calls Try.prog 29 #[.slice ao l.length c, .int .i64 least, .int .i64 most] w fun e w' => e = .returned (.bool (rises l least most)) ∧ w = w' := by
  obtain ⟨n, hn⟩ : ∃ n, l.length = n := ⟨_, rfl⟩
  have hlen' : (n : Int) ≤ 9223372036854775807 := by omega
  rw [hn]
  have HN := Lib.hid hn
  clear hn hlen
  go_enter Try.func29, Try.ntmps29
  go_wp2_with fail
  go_loopw [1, 11] (fun le i wr => ∃ (k : Nat) (lst : Int), le = .int .i64 lst ∧ i = .int .i64 k ∧ k ≤ n ∧ rises l least most = rises (l.drop k) lst most ∧ 0 ≤ lst ∧ w = wr) (fun _ i _ => n - (intOf i).toNat)
  case atStart => exact ⟨0, least, rfl, rfl, by omega, rfl, hleast, rfl⟩
  case round =>
    obtain ⟨k, lst, rfl, rfl, hk, hrr, hl0, rfl⟩ := hrel
    have HR := Lib.hid hrr
    clear hrr
    by_cases hlt : k < n
    · have hlt' : (k : Int) < n := by omega
      have hkl : k < l.length := by rw [HN.out]; exact hlt
      obtain ⟨x, hx⟩ : ∃ x, l[k] = x := ⟨_, rfl⟩
      have hd : l.drop k = x :: l.drop (k + 1) := by rw [← hx]; exact List.drop_eq_getElem_cons hkl
      have HR2 := Lib.hid (HR.out.trans (by rw [hd, rises_cons]))
      obtain ⟨a, rfl⟩ : ∃ a, ao = some a := by
        cases ao with
        | none => have := hsrc.nil rfl; simp [ivs] at this; subst this; simp at hkl
        | some a => exact ⟨a, rfl⟩
      have hc : w.cell? (a.add k) = some (.int .i64 x) := hsrc.cell a rfl k _ (by simp [ivs, iv, hkl, hx])
      clear hkl hx hd HR hsrc
      by_cases h1 : x < lst
      · go_wp2_with fail
        go_ret
        exact ⟨by rw [HR2.out]; simp [h1], rfl⟩
      · by_cases h2 : most < x
        · go_wp2_with fail
          go_ret
          exact ⟨by rw [HR2.out]; simp [h2], rfl⟩
        · have hw : IntKind.i64.wrap (x + 1) = x + 1 := by rw [IntKind.wrap_i64]; omega
          go_wp2_with fail
          go_roundw
          case rel => exact ⟨k + 1, x + 1, rfl, rfl, by omega, by rw [HR2.out]; simp [h1, h2], by omega, by trivial⟩
          case measure => simp [intOf]; omega
    · have hkn : k = n := by omega
      subst hkn
      go_wp2_with fail
      go_ret
      exact ⟨by rw [HR.out, List.drop_of_length_le (by rw [HN.out]; exact Nat.le_refl _)]; rfl, rfl⟩

/-- A fetch that is just made: of the blocks and peers so far. -/
def FS.made (bs ps : List Int) : FS := { is := fun n => if (n : Int) ∈ bs then 1 else 0, of := fun _ => 0, tr := fun _ _ => false, pe := fun d => decide ((d : Int) ∈ ps) }

theorem Try.zero63 : ∃ Z : Array Value, (∀ w, (zeroValue 63).run Try.prog w = .ok (.agg Z) w) ∧ Z.size = 626 ∧ Z.setIfInBounds 625 (.bool true) = (FS.made [] []).cells ∧ Z[625]? = some (.bool false) := by
  refine ⟨((List.range 626).map fun i => (if i < 608 then (if i % 19 = 0 then .int .i64 0 else if i % 19 = 1 then .int .i64 0 else .bool false) else .bool false)).toArray, fun _ => by kernel_rfl, by simp, by kernel_rfl, by kernel_rfl⟩

theorem rises_mem : ∀ (l : List Int) (least most : Int), rises l least most = true → ∀ x ∈ l, least ≤ x ∧ x ≤ most
  | [], _, _, _, x, hx => by simp at hx
  | n :: l, least, most, h, x, hx => by
    rw [rises_cons] at h
    split at h
    · cases h
    · rename_i hn
      rcases List.mem_cons.1 hx with rfl | hx
      · omega
      · have := rises_mem l (n + 1) most h x hx
        omega

theorem FS.made_block (bs : List Int) (k m : Nat) (hk : k < bs.length) (hm : bs[k] = m) : FS.made (bs.take (k + 1)) [] = (FS.made (bs.take k) []).putIs m 1 := by
  simp only [FS.made, FS.putIs, FS.mk.injEq, and_true]
  funext n
  rw [List.take_succ_eq_append_getElem hk, hm]
  by_cases hn : n = m
  · subst hn; simp
  · have : ¬ (n : Int) = m := by omega
    simp [hn, this]
theorem FS.made_peer (bs ps : List Int) (k m : Nat) (hk : k < ps.length) (hm : ps[k] = m) : FS.made bs (ps.take (k + 1)) = (FS.made bs (ps.take k)).putPe m true := by
  simp only [FS.made, FS.putPe, FS.mk.injEq, true_and]
  funext n
  rw [List.take_succ_eq_append_getElem hk, hm]
  by_cases hn : n = m
  · subst hn; simp
  · have : ¬ (n : Int) = m := by omega
    simp [hn, this]

/-- What New leaves. -/
def Newed (w : World) (bs ps : List Int) (r : Ending) (w' : World) : Prop :=
  ∃ b, r = .returned (.tuple #[.pointer (some ⟨b, 0, none⟩), .int .i64 0]) ∧ w.heap.size ≤ b ∧ FetchAt w' b (FS.made bs ps) ∧ Chg [] w w'

set_option maxRecDepth 100000 in
set_option maxHeartbeats 1000000 in
theorem fetch_new (bs ps : List Int) (ao po : Option Addr) (c d : Nat) (w : World) (hs1 : Src w ao (ivs bs)) (hs2 : Src w po (ivs ps)) (hr1 : rises bs 0 31 = true) (hr2 : rises ps 1 16 = true)
    (hl1 : bs.length ≤ 9223372036854775807) (hl2 : ps.length ≤ 9223372036854775807) :
    Calls Try.prog 9 #[.slice ao bs.length c, .slice po ps.length d] w (Newed w bs ps) := by
  have k1 := fetch_rises bs ao c 0 31 w hs1 (by omega) (by omega) hl1
  have k2 := fetch_rises ps po d 1 16 w hs2 (by omega) (by omega) hl2
  rw [hr1] at k1
  rw [hr2] at k2
  have m1 := rises_mem bs 0 31 hr1
  have m2 := rises_mem ps 1 16 hr2
  obtain ⟨n, hn⟩ : ∃ n, bs.length = n := ⟨_, rfl⟩
  obtain ⟨m, hm⟩ : ∃ m, ps.length = m := ⟨_, rfl⟩
  have hn' : (n : Int) ≤ 9223372036854775807 := by omega
  have hm' : (m : Int) ≤ 9223372036854775807 := by omega
  rw [hn] at k1 ⊢
  rw [hm] at k2 ⊢
  have HN := Lib.hid hn
  have HM := Lib.hid hm
  clear hn hm hl1 hl2 hr1 hr2
  go_enter Try.func9, Try.ntmps9
  go_wp2_with fail
  refine k1.mono ?_
  rintro r w' ⟨rfl, rfl⟩
  go_wp2_with fail
  refine k2.mono ?_
  rintro r w' ⟨rfl, rfl⟩
  obtain ⟨Z, hz, hzs, hset, _⟩ := Try.zero63
  have hzl : ¬ Z.size < 626 := by omega
  have HS := Lib.hid hset
  clear hset
  have h0 : FetchAt (w.alloc (.cells (Z.setIfInBounds 625 (.bool true)) 63)) w.heap.size (FS.made [] []) := by rw [HS.out]; exact heap_alloc_new w _
  have C0 := Chg.alloc [] w (.cells (Z.setIfInBounds 625 (.bool true)) 63)
  go_wp2_with fail
  clear hz
  generalize w.alloc (.cells (Z.setIfInBounds 625 (.bool true)) 63) = w0 at *
  go_loopw [23] (fun i wr => ∃ k : Nat, i = .int .i64 k ∧ k ≤ n ∧ FetchAt wr w.heap.size (FS.made (bs.take k) []) ∧ Chg [] w wr) (fun i _ => n - (intOf i).toNat)
  case atStart => exact ⟨0, rfl, by omega, by simpa using h0, C0⟩
  case round =>
    obtain ⟨k, rfl, hk, hr, C⟩ := hrel
    by_cases hlt : k < n
    · have hlt' : (k : Int) < n := by omega
      have hkl : k < bs.length := by rw [HN.out]; exact hlt
      obtain ⟨x, hx⟩ : ∃ x : Nat, bs[k] = x := ⟨bs[k].toNat, by have := m1 _ (List.getElem_mem hkl); omega⟩
      have hxb := m1 _ (List.getElem_mem hkl)
      rw [hx] at hxb
      have hx32 : x < 32 := by omega
      have hx32' : (x : Int) < 32 := by omega
      obtain ⟨a, rfl⟩ : ∃ a, ao = some a := by
        cases ao with
        | none => have := hs1.nil rfl; simp [ivs] at this; subst this; simp at hkl
        | some a => exact ⟨a, rfl⟩
      have hc : wr.cell? (a.add k) = some (.int .i64 x) := (hs1.chg C (by simp)).cell a rfl k _ (by simp [ivs, iv, hkl, hx])
      have hm := Lib.hid (FS.made_block bs k x hkl hx)
      have ci := hr.isAt x hx32
      have fi := hr.frozen (x * 19)
      have hr2 := hr.putIs x hx32 1
      rw [← hm.out] at hr2
      have C2 : Chg [] w _ := C.trans (Chg.setCell (S := [w.heap.size]) wr ⟨w.heap.size, x * 19, none⟩ (.int .i64 1) (.inl (by simp))) (by simp)
      clear hkl hx hr hm hxb
      go_wp2_with fail
      go_roundw
      case rel => exact ⟨k + 1, rfl, by omega, hr2, C2⟩
      case measure => simp [intOf]; omega
    · have hkn : k = n := by omega
      subst hkn
      have hn : bs.take k = bs := List.take_of_length_le (by rw [HN.out]; exact Nat.le_refl _)
      rw [hn] at hr
      have h0 := hr
      have C0 := C
      clear hr C
      go_wp2_with fail
      clear hlt
      go_loopw [36] (fun i wr => ∃ k : Nat, i = .int .i64 k ∧ k ≤ m ∧ FetchAt wr w.heap.size (FS.made bs (ps.take k)) ∧ Chg [] w wr) (fun i _ => m - (intOf i).toNat)
      case atStart => exact ⟨0, rfl, by omega, by simpa using h0, C0⟩
      case round =>
        obtain ⟨k, rfl, hk, hr, C⟩ := hrel
        by_cases hlt : k < m
        · have hlt' : (k : Int) < m := by omega
          have hkl : k < ps.length := by rw [HM.out]; exact hlt
          obtain ⟨x, hx⟩ : ∃ x : Nat, ps[k] = x := ⟨ps[k].toNat, by have := m2 _ (List.getElem_mem hkl); omega⟩
          have hxb := m2 _ (List.getElem_mem hkl)
          rw [hx] at hxb
          have hx32 : x < 17 := by omega
          have hx32' : (x : Int) < 17 := by omega
          obtain ⟨a, rfl⟩ : ∃ a, po = some a := by
            cases po with
            | none => have := hs2.nil rfl; simp [ivs] at this; subst this; simp at hkl
            | some a => exact ⟨a, rfl⟩
          have hc : wr.cell? (a.add k) = some (.int .i64 x) := (hs2.chg C (by simp)).cell a rfl k _ (by simp [ivs, iv, hkl, hx])
          have hm := Lib.hid (FS.made_peer bs ps k x hkl hx)
          have ci := hr.peAt x hx32
          have fi := hr.frozen (608 + x)
          have hr2 := hr.putPe x hx32 true
          rw [← hm.out] at hr2
          have C2 : Chg [] w _ := C.trans (Chg.setCell (S := [w.heap.size]) wr ⟨w.heap.size, 608 + x, none⟩ (.bool true) (.inl (by simp))) (by simp)
          clear hkl hx hr hm hxb
          go_wp2_with fail
          go_roundw
          case rel => exact ⟨k + 1, rfl, by omega, hr2, C2⟩
          case measure => simp [intOf]; omega
        · have hkm : k = m := by omega
          subst hkm
          have hm : ps.take k = ps := List.take_of_length_le (by rw [HM.out]; exact Nat.le_refl _)
          rw [hm] at hr
          go_wp2_with fail
          go_ret2
          exact ⟨_, rfl, Nat.le_refl _, hr, C⟩

theorem fetch_new_bad (bs ps : List Int) (ao po : Option Addr) (c d : Nat) (w : World) (hs1 : Src w ao (ivs bs)) (hs2 : Src w po (ivs ps)) (hr : (rises bs 0 31 && rises ps 1 16) = false)
    (hl1 : bs.length ≤ 9223372036854775807) (hl2 : ps.length ≤ 9223372036854775807) :
    Calls Try.prog 9 #[.slice ao bs.length c, .slice po ps.length d] w fun e w' => e = .returned (.tuple #[.pointer none, .int .i64 2]) ∧ w = w' := by
  have k1 := fetch_rises bs ao c 0 31 w hs1 (by omega) (by omega) hl1
  have k2 := fetch_rises ps po d 1 16 w hs2 (by omega) (by omega) hl2
  cases h1 : rises bs 0 31 with
  | false =>
    rw [h1] at k1
    clear k2 hr h1
    go_enter Try.func9, Try.ntmps9
    go_wp2_with fail
    refine k1.mono ?_
    rintro r w' ⟨rfl, rfl⟩
    go_wp2_with fail
    go_ret2
    exact ⟨rfl, rfl⟩
  | true =>
    have h2 : rises ps 1 16 = false := by simpa [h1] using hr
    rw [h1] at k1
    rw [h2] at k2
    clear hr h1 h2
    go_enter Try.func9, Try.ntmps9
    go_wp2_with fail
    refine k1.mono ?_
    rintro r w' ⟨rfl, rfl⟩
    go_wp2_with fail
    refine k2.mono ?_
    rintro r w' ⟨rfl, rfl⟩
    go_wp2_with fail
    go_ret2
    exact ⟨rfl, rfl⟩
end Go.Proofs.Ytcapbfhiiiggdaa
