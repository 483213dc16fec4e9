/- Blocks of files as plain lists: sizes, counts, parts. No program here. No conditions beyond those that each statement types. -/
import Derived.Test.YtfdhpjflkimihaaDoorBase
import Derived.Test.YtfdhpjflkimihaaDoorAgg
import Derived.Test.YtfdhpjflkimihaaDoorProg
namespace Go.Proofs.YtfdhpjflkimihaaDoor

def bszN (n : Nat) : Nat := if n ≤ 512 then 16 else if n ≤ 1024 then 32 else if n ≤ 2048 then 64 else if n ≤ 4096 then 128 else 0
def cntN (n : Nat) : Nat := if bszN n = 0 then 0 else (n + bszN n - 1) / bszN n
def bszZ (n : Int) : Nat := if n < 0 then 0 else bszN n.toNat
def cntZ (n : Int) : Nat := if n < 0 then 0 else cntN n.toNat
theorem bszN_big {n : Nat} (h : 4096 < n) : bszN n = 0 := by
  unfold bszN
  rw [if_neg (by omega), if_neg (by omega), if_neg (by omega), if_neg (by omega)]
theorem bszN_cases {n : Nat} (h : n ≤ 4096) : (bszN n = 16 ∧ n ≤ 512) ∨ (bszN n = 32 ∧ n ≤ 1024) ∨ (bszN n = 64 ∧ n ≤ 2048) ∨ bszN n = 128 := by
  unfold bszN
  by_cases h1 : n ≤ 512
  · rw [if_pos h1]; omega
  · rw [if_neg h1]
    by_cases h2 : n ≤ 1024
    · rw [if_pos h2]; omega
    · rw [if_neg h2]
      by_cases h3 : n ≤ 2048
      · rw [if_pos h3]; omega
      · rw [if_neg h3, if_pos h]; omega
theorem bszN_pos {n : Nat} (h : n ≤ 4096) : 0 < bszN n ∧ bszN n ≤ 128 ∧ n ≤ 32 * bszN n := by
  rcases bszN_cases h with h1 | h1 | h1 | h1 <;> omega
theorem bszN_le (n : Nat) : bszN n ≤ 128 := by
  rcases Nat.lt_or_ge 4096 n with h | h
  · rw [bszN_big h]; omega
  · exact (bszN_pos h).2.1
theorem cntN_big {n : Nat} (h : 4096 < n) : cntN n = 0 := by unfold cntN; rw [if_pos (bszN_big h)]
theorem cntN_eq {n : Nat} (h : n ≤ 4096) : cntN n = (n + bszN n - 1) / bszN n := by unfold cntN; rw [if_neg (by have := bszN_pos h; omega)]
/-- A block is a file's where it begins within the file. -/
theorem cntN_lt {n : Nat} (h : n ≤ 4096) (i : Nat) : i < cntN n ↔ i * bszN n < n := by
  rw [cntN_eq h]
  have hp := (bszN_pos h).1
  generalize bszN n = s at *
  rw [← Nat.succ_le_iff, Nat.le_div_iff_mul_le hp, Nat.succ_eq_add_one, Nat.add_mul, Nat.one_mul]
  omega
theorem cntN_le (n : Nat) : cntN n ≤ 32 := by
  rcases Nat.lt_or_ge 4096 n with h | h
  · rw [cntN_big h]; omega
  · obtain ⟨hp, _, hn⟩ := bszN_pos h
    rcases Nat.lt_or_ge 32 (cntN n) with h1 | h1
    · have := (cntN_lt h 32).1 h1
      omega
    · exact h1
/-- A block of a file. -/
def partL (l : List UInt8) (i : Nat) : List UInt8 := (l.drop (i * bszN l.length)).take (bszN l.length)
def partsL (l : List UInt8) : List (List UInt8) := (List.range (cntN l.length)).map (partL l)
theorem partL_length (l : List UInt8) (i : Nat) : (partL l i).length = min (bszN l.length) (l.length - i * bszN l.length) := by
  unfold partL
  rw [List.length_take, List.length_drop]
theorem partsL_length (l : List UInt8) : (partsL l).length = cntN l.length := by simp [partsL]
theorem partsL_get {l : List UInt8} {i : Nat} (h : i < cntN l.length) : (partsL l)[i]? = some (partL l i) := by simp [partsL, h]
theorem parts_to (l : List UInt8) : ∀ k, ((List.range k).map (partL l)).flatten = l.take (k * bszN l.length)
  | 0 => by simp
  | k + 1 => by
    rw [List.range_succ, List.map_append, List.flatten_append, parts_to l k]
    simp only [List.map_cons, List.map_nil, List.flatten_cons, List.flatten_nil, List.append_nil]
    unfold partL
    rw [Nat.add_mul, Nat.one_mul, List.take_add]
theorem parts_join {l : List UInt8} (h : l.length ≤ 4096) : (partsL l).flatten = l := by
  unfold partsL
  rw [parts_to]
  refine List.take_of_length_le ?_
  have := cntN_lt h (cntN l.length)
  omega
end Go.Proofs.YtfdhpjflkimihaaDoor
/- block.Size, Count, part, Clone and Part, walked. No conditions beyond those that each statement types. -/
namespace Go.Proofs.YtfdhpjflkimihaaDoor
open Go.RowKit

theorem blk_size (n : Int) (w : World) : Calls Tryd.prog 15 #[.int .i64 n] w fun e w' => e = .returned (.int .i64 (bszZ n)) ∧ w = w' := by
  by_cases h0 : n < 0
  · have hr : bszZ n = 0 := by unfold bszZ; rw [if_pos h0]
    rw [hr]
    clear hr
    go_enter Tryd.func15, Tryd.ntmps15
    go_wp2_with fail
    go_ret
    exact ⟨rfl, rfl⟩
  · by_cases h1 : 4096 < n
    · have hr : bszZ n = 0 := by unfold bszZ; rw [if_neg h0, bszN_big (by omega)]
      rw [hr]
      clear hr
      go_enter Tryd.func15, Tryd.ntmps15
      go_wp2_with fail
      go_ret
      exact ⟨rfl, rfl⟩
    · obtain ⟨R, hR⟩ : ∃ R : Nat, bszZ n = R := ⟨_, rfl⟩
      have HR : Hid (∀ s : Nat, (s = 16 ∧ n ≤ 512) ∨ (s = 32 ∧ 512 < n ∧ n ≤ 1024) ∨ (s = 64 ∧ 1024 < n ∧ n ≤ 2048) ∨ (s = 128 ∧ 2048 < n) → s = R) := Lib.hid (fun s hs => by
        rw [← hR]
        unfold bszZ bszN
        rw [if_neg h0]
        rcases hs with ⟨rfl, h⟩ | ⟨rfl, h, h'⟩ | ⟨rfl, h, h'⟩ | ⟨rfl, h⟩
        · rw [if_pos (by omega)]
        · rw [if_neg (by omega), if_pos (by omega)]
        · rw [if_neg (by omega), if_neg (by omega), if_pos (by omega)]
        · rw [if_neg (by omega), if_neg (by omega), if_neg (by omega), if_pos (by omega)])
      rw [hR]
      clear hR
      go_enter Tryd.func15, Tryd.ntmps15
      go_wp2_with fail
      go_loop [3] (fun v => ∃ s : Nat, v = .int .i64 s ∧ Hid (s = 16 ∨ (s = 32 ∧ 512 < n) ∨ (s = 64 ∧ 1024 < n) ∨ (s = 128 ∧ 2048 < n))) (fun v => (128 - intOf v).toNat)
      case atStart => exact ⟨16, rfl, Lib.hid (.inl rfl)⟩
      case round =>
        obtain ⟨s, rfl, hs⟩ := hrel
        have hb : s ≤ 128 ∧ 16 ≤ s := by have := hs.out; omega
        obtain ⟨hb1, hb2⟩ := hb
        by_cases hlt : (s : Int) * 32 < n
        · have HN : Hid (s * 2 = 16 ∨ (s * 2 = 32 ∧ 512 < n) ∨ (s * 2 = 64 ∧ 1024 < n) ∨ (s * 2 = 128 ∧ 2048 < n)) := Lib.hid (by have := hs.out; omega)
          have HM : Hid (s * 2 ≤ 128) := Lib.hid (by have := hs.out; omega)
          have hw1 : IntKind.i64.wrap ((s : Int) * 32) = s * 32 := by rw [IntKind.wrap_i64]; omega
          have hw2 : IntKind.i64.wrap ((s : Int) * 2) = ((s * 2 : Nat) : Int) := by rw [IntKind.wrap_i64]; omega
          go_wp2_with fail
          go_round
          case rel => exact ⟨s * 2, by first | rfl | go_num, HN⟩
          case measure => simp [intOf] <;> (have := HM.out; omega)
        · have HE := Lib.hid (HR.out s (by have := hs.out; omega))
          have hw1 : IntKind.i64.wrap ((s : Int) * 32) = s * 32 := by rw [IntKind.wrap_i64]; omega
          go_wp2_with fail
          go_ret
          exact ⟨by rw [← HE.out]; rfl, rfl⟩

theorem blk_count (n : Int) (w : World) : Calls Tryd.prog 17 #[.int .i64 n] w fun e w' => e = .returned (.int .i64 (cntZ n)) ∧ w = w' := by
  have K := Lib.hid (blk_size n w)
  by_cases h0 : bszZ n = 0
  · have hr : cntZ n = 0 := by
      unfold cntZ
      split
      · rfl
      · rename_i h
        unfold bszZ at h0
        rw [if_neg h] at h0
        unfold cntN
        rw [if_pos h0]
    rw [hr]
    rw [h0] at K
    clear hr h0
    go_enter Tryd.func17, Tryd.ntmps17
    go_wp2_with fail
    refine K.out.mono ?_
    rintro e w' ⟨rfl, rfl⟩
    go_wp2_with fail
    go_ret
    exact ⟨rfl, rfl⟩
  · have hn0 : ¬ n < 0 := fun h => h0 (by unfold bszZ; rw [if_pos h])
    have hn1 : n ≤ 4096 := by
      rcases Int.lt_or_le 4096 n with h | h
      · exact absurd (by unfold bszZ; rw [if_neg hn0, bszN_big (by omega)]) h0
      · exact h
    obtain ⟨N, rfl⟩ : ∃ N : Nat, n = N := ⟨n.toNat, by omega⟩
    have hz : bszZ N = bszN N := by unfold bszZ; rw [if_neg hn0]; rfl
    have hc : cntZ N = (N + bszN N - 1) / bszN N := by unfold cntZ; rw [if_neg hn0]; exact cntN_eq (by omega)
    obtain ⟨hp, hle, _⟩ := bszN_pos (n := N) (by omega)
    rw [hz] at K
    generalize bszN N = S at *
    rw [hc]
    have hs0 : ((S : Int) == 0) = false := beq_eq_false_iff_ne.2 (by omega)
    have hw1 : IntKind.i64.wrap ((N : Int) + S) = N + S := by rw [IntKind.wrap_i64]; omega
    have hw2 : IntKind.i64.wrap ((N : Int) + S - 1) = N + S - 1 := by rw [IntKind.wrap_i64]; omega
    have hge : (0 : Int) ≤ (N : Int) + S - 1 := by omega
    have hge1 : (1 : Int) ≤ S := by omega
    have HV : Hid (((N : Int) + S - 1) / S = (((N + S - 1) / S : Nat) : Int)) := Lib.hid (by
      rw [show (N : Int) + S - 1 = ((N + S - 1 : Nat) : Int) by omega]
      rfl)
    clear hc hz h0
    go_enter Tryd.func17, Tryd.ntmps17
    go_wp2_with fail
    refine K.out.mono ?_
    rintro e w' ⟨rfl, rfl⟩
    go_wp2_with fail
    go_ret
    exact ⟨by rw [← HV.out]; rfl, rfl⟩

/-- A block of a file that has it, as it stands there. -/
theorem blk_part (l : List UInt8) (a : Addr) (c i : Nat) (hl : l.length ≤ 4096) (hi : i < cntN l.length) (hlc : l.length ≤ c) (w : World) :
    Calls Tryd.prog 56 #[.slice (some a) l.length c, .int .i64 i] w fun e w' => e = .returned (.slice (some (a.add (i * bszN l.length))) (partL l i).length (c - i * bszN l.length)) ∧ w = w' := by
  have K := Lib.hid (blk_size l.length w)
  have hz : bszZ l.length = bszN l.length := by unfold bszZ; rw [if_neg (by omega)]; rfl
  have hlt := (cntN_lt hl i).1 hi
  have hcl := cntN_le l.length
  obtain ⟨hp, hle, _⟩ := bszN_pos hl
  have hpl := partL_length l i
  rw [hz] at K
  generalize bszN l.length = S at *
  generalize l.length = n at *
  rw [hpl]
  obtain ⟨A, hA⟩ : ∃ A, i * S = A := ⟨_, rfl⟩
  obtain ⟨B, hB⟩ : ∃ B, (i + 1) * S = B := ⟨_, rfl⟩
  have hAB : B = A + S := by rw [← hA, ← hB, Nat.add_mul, Nat.one_mul]
  have hA' : (i : Int) * S = A := by rw [← hA]; simp
  have hB' : ((i : Int) + 1) * S = B := by rw [← hB]; simp
  rw [hA] at hlt ⊢
  have hw1 : IntKind.i64.wrap ((i : Int) * S) = A := by rw [IntKind.wrap_i64, hA']; omega
  have hw2 : IntKind.i64.wrap ((i : Int) + 1) = (i : Int) + 1 := by rw [IntKind.wrap_i64]; omega
  have hw3 : IntKind.i64.wrap (((i : Int) + 1) * S) = B := by rw [IntKind.wrap_i64, hB']; omega
  clear hz hA hB hpl hi
  go_enter Tryd.func56, Tryd.ntmps56
  go_wp2_with fail
  refine K.out.mono ?_
  rintro e w' ⟨rfl, rfl⟩
  rcases Nat.lt_or_ge B n with hnB | hnB
  · have hm : (B : Int) < n := by omega
    have hm1 : min S (n - A) = S := by omega
    have hi1 : (A : Int) ≤ B := by omega
    have hi2 : (B : Int) ≤ c := by omega
    go_wp2_with fail
    go_ret
    exact ⟨by
      rw [hm1]
      show Ending.returned (.slice _ (A + S - A) _) = _
      rw [Nat.add_sub_cancel_left], rfl⟩
  · have hm : ¬ (B : Int) < n := by omega
    have hm1 : min S (n - A) = n - A := by omega
    go_wp2_with fail
    go_ret
    exact ⟨by rw [hm1]; rfl, rfl⟩

theorem Tryd.infoU8' : (Tryd.prog.info? 5).map (fun i => (i.zero, i.size, i.bytes)) = some (some (.int .u8 0), 1, 1) := by kernel_rfl
/-- Bytes in new memory, handed back. -/
def MadeB (w : World) (xs : List UInt8) (e : Ending) (w' : World) : Prop :=
  ∃ ao c, e = .returned (.slice ao xs.length c) ∧ w'.ownsRow 0 5 1 (.slice ao xs.length c) xs.length (bvs xs) ∧ (∀ k, (Value.slice ao xs.length c).ownBlock = some k → w.heap.size ≤ k) ∧ Chg [] w w'

set_option maxRecDepth 100000 in
theorem blk_clone (xs : List UInt8) (ao : Option Addr) (c : Nat) (w : World) (hs : Src w ao (bvs xs)) (hc : ao = none → c = 0) (hl : xs.length ≤ 1000000) :
    Calls Tryd.prog 58 #[.slice ao xs.length c] w (MadeB w xs) := by
  cases ao with
  | none =>
    have hx : xs = [] := by have := hs.nil rfl; simpa [bvs] using this
    subst hx
    have := hc rfl
    subst this
    have hn0 : (([] : List UInt8).length) = 0 := rfl
    rw [hn0]
    have he : ∀ w, (binOp .eql 25 (.slice none 0 0) (.slice none 0 0)).run Tryd.prog w = .ok (.bool true) w := fun _ => by kernel_rfl
    go_enter Tryd.func58, Tryd.ntmps58
    go_wp2_with fail
    go_ret
    exact ⟨none, 0, rfl, World.ownsRow_nil _ _ _ _, fun k hk => (by cases hk), Chg.refl _ _⟩
  | some a =>
    obtain ⟨i0, hi, hz0, hz1, hz2⟩ := info_parts Tryd.infoU8'
    obtain ⟨n, hn⟩ : ∃ n, xs.length = n := ⟨_, rfl⟩
    have HN := Lib.hid hn
    have CA := Chg.alloc [] w (.cells #[] 5)
    have hsA := hs.chg CA (by simp)
    have hown := World.ownsRow_made w #[] 0 (Nat.zero_le _) (Nat.zero_le _) (e := 5) (size := 1) (base := 0) rfl
    have hbl : (bvs xs).length = n * 1 := by rw [bvs_length, hn, Nat.mul_one]
    rw [hn] at hl ⊢
    clear hn
    have hq : ∀ w, (binOp .eql 25 (.slice (some a) n c) (.slice none 0 0)).run Tryd.prog w = .ok (.bool false) w := fun w => Lib.run_eql_slice_nil w _ _ (some a) n c 0 0 Tryd.underlying25
    go_enter Tryd.func58, Tryd.ntmps58
    go_upto_region 3 with (fail)
    go_wp2_with (at_builtin; refine wpList_append_x _ rfl _ _ 25 rfl 5 i0 _ 1 1 Tryd.underlying25 hi hz0 hz1 hz2 rfl (by decide) (.slice (some ⟨w.heap.size, 0, none⟩) 0 0) 0 [] rfl hown (some a) n c (bvs xs) rfl hbl hsA (fun h => by cases h) (bvs_one _) (by unfold maxLen; omega) (by omega) ?_)
    intro ao' c' w' hown' hgr hblk
    have CG := CA.trans (Chg.grown hgr (S := [w.heap.size]) (fun k hk => .inl (by simpa [Value.ownBlock] using hk.symm))) (fun k hk => by simp at hk; right; omega)
    have HN2 : Hid (∀ k, (Value.slice ao' n c').ownBlock = some k → w.heap.size ≤ k) := Lib.hid (fun k hk => by
      rcases hblk with h | h <;> rw [h] at hk
      · simp [Value.ownBlock] at hk; omega
      · simp at hk; omega)
    have HO : Hid (w'.ownsRow 0 5 1 (.slice ao' n c') n (bvs xs)) := Lib.hid (by simpa using hown')
    clear hown' hgr hblk hsA hown CA
    go_wp2_with fail
    go_ret
    exact ⟨ao', c', by rw [HN.out]; rfl, by rw [HN.out]; exact HO.out, by rw [HN.out]; exact HN2.out, CG⟩
end Go.Proofs.YtfdhpjflkimihaaDoor
/- block.Part, walked. No conditions beyond those that each statement types. -/
namespace Go.Proofs.YtfdhpjflkimihaaDoor
open Go.RowKit

def partZ (l : List UInt8) (i : Int) : List UInt8 := if 0 ≤ i ∧ i.toNat < cntN l.length then partL l i.toNat else []
theorem made_nil (w : World) : MadeB w [] (.returned (.slice none 0 0)) w := ⟨none, 0, rfl, World.ownsRow_nil _ _ _ _, fun k hk => (by cases hk), Chg.refl _ _⟩
theorem part_src {l : List UInt8} {a : Addr} {w : World} (hs : Src w (some a) (bvs l)) (i : Nat) : Src w (some (a.add (i * bszN l.length))) (bvs (partL l i)) := by
  have := (hs.drop (i * bszN l.length)).take (bszN l.length)
  rw [← bvs_drop, ← bvs_take] at this
  exact this
set_option maxRecDepth 100000 in
theorem blk_Part (l : List UInt8) (ao : Option Addr) (c : Nat) (i : Int) (w : World) (hs : Src w ao (bvs l)) (hlc : l.length ≤ c) :
    Calls Tryd.prog 22 #[.slice ao l.length c, .int .i64 i] w (MadeB w (partZ l i)) := by
  by_cases h0 : i < 0
  · have hp : partZ l i = [] := by unfold partZ; rw [if_neg (by omega)]
    rw [hp]
    clear hp
    go_enter Tryd.func22, Tryd.ntmps22
    go_wp2_with fail
    go_ret
    exact made_nil w
  · obtain ⟨N, rfl⟩ : ∃ N : Nat, i = N := ⟨i.toNat, by omega⟩
    have K := blk_count l.length w
    have hz : cntZ l.length = cntN l.length := by unfold cntZ; rw [if_neg (by omega)]; rfl
    rw [hz] at K
    by_cases hN : N < cntN l.length
    · have hp : partZ l N = partL l N := by unfold partZ; rw [if_pos ⟨by omega, by simpa using hN⟩]; rfl
      have hl : l.length ≤ 4096 := by
        rcases Nat.lt_or_ge 4096 l.length with h | h
        · rw [cntN_big h] at hN; omega
        · exact h
      have hlt := (cntN_lt hl N).1 hN
      obtain ⟨a, rfl, _⟩ := hs.lt (by rw [bvs_length]; omega)
      have KP := Lib.hid (blk_part l a c N hl hN hlc w)
      have KC := Lib.hid (blk_clone (partL l N) (some (a.add (N * bszN l.length))) (c - N * bszN l.length) w (part_src hs N) (fun h => by cases h) (by have := partL_length l N; have := bszN_le l.length; omega))
      rw [hp]
      have HK := Lib.hid K
      have hN' : ¬ ((N : Int) ≥ (cntN l.length : Nat)) := by omega
      have hN2 : (N : Int) < (cntN l.length : Nat) := by omega
      have h0' : (0 : Int) ≤ N := by omega
      clear K hz hp hlt h0 hl
      generalize cntN l.length = C at *
      generalize N * bszN l.length = O at *
      obtain ⟨X, hX⟩ : ∃ X, (partL l N).length = X := ⟨_, rfl⟩
      rw [hX] at KP KC
      clear hX hN hlc hs
      go_enter Tryd.func22, Tryd.ntmps22
      go_wp2_with fail
      refine HK.out.mono ?_
      rintro e w' ⟨rfl, rfl⟩
      go_wp2_with fail
      refine KP.out.mono ?_
      rintro e w' ⟨rfl, rfl⟩
      go_wp2_with fail
      refine KC.out.mono ?_
      rintro e w' ⟨ao', c', rfl, h1, h2, h3⟩
      go_wp2_with fail
      go_ret
      exact ⟨ao', c', rfl, h1, h2, h3⟩
    · have hp : partZ l N = [] := by unfold partZ; rw [if_neg (by simp; omega)]
      rw [hp]
      have HK := Lib.hid K
      have hN2 : ¬ (N : Int) < (cntN l.length : Nat) := by omega
      have h0' : (0 : Int) ≤ N := by omega
      clear K hz hp h0
      generalize cntN l.length = C at *
      go_enter Tryd.func22, Tryd.ntmps22
      go_wp2_with fail
      refine HK.out.mono ?_
      rintro e w' ⟨rfl, rfl⟩
      go_wp2_with fail
      go_ret
      exact made_nil w
end Go.Proofs.YtfdhpjflkimihaaDoor
