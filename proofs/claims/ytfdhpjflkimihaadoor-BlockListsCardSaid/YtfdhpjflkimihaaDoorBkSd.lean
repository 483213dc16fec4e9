/- Words of the reference of sha. No conditions beyond those that each statement types. -/
import Derived.Test.YtfdhpjflkimihaaDoorBkSc
namespace Go.Proofs.YtfdhpjflkimihaaDoor
open Go.RowKit

theorem Tryd.infoU32 : (Tryd.prog.info? 73).map (fun i => (i.zero, i.size, i.bytes)) = some (some (.int .u32 0), 1, 4) := by kernel_rfl
def wvs (f : Nat → UInt32) (n : Nat) : List Value := (List.range n).map fun t => wv (f t)
theorem wvs_succ (f : Nat → UInt32) (n : Nat) : wvs f (n + 1) = wvs f n ++ [wv (f n)] := by simp [wvs, List.range_succ]
theorem wvs_length (f : Nat → UInt32) (n : Nat) : (wvs f n).length = n := by simp [wvs]
theorem wvs_at (f : Nat → UInt32) {n i : Nat} (h : i < n) : (wvs f n)[i]? = some (wv (f i)) := by simp [wvs, h]
theorem wvs_one (f : Nat → UInt32) (n : Nat) : ∀ u ∈ wvs f n, u.oneCell' = true := by
  intro u hu
  obtain ⟨_, _, rfl⟩ := List.mem_map.1 hu
  rfl
/-- The first k bytes of a word. -/
def part (p : Nat → UInt8) (t : Nat) : Nat → Nat
  | 0 => 0
  | k + 1 => 256 * part p t k + (p (4 * t + k)).toNat
theorem part_lt (p : Nat → UInt8) (t : Nat) : ∀ k, part p t k < 256 ^ k
  | 0 => by simp [part]
  | k + 1 => by
    have h1 := part_lt p t k
    have h2 := (p (4 * t + k)).toNat_lt
    show 256 * part p t k + (p (4 * t + k)).toNat < 256 ^ (k + 1)
    rw [Nat.pow_succ]
    omega
theorem part_four (p : Nat → UInt8) (t : Nat) (ht : t < 16) : (part p t 4 : Int) = ((sched p t).toNat : Int) := by
  rw [sched_small p t ht]
  have h := part_lt p t 4
  have e : part p t 4 = (p (4 * t)).toNat * 16777216 + (p (4 * t + 1)).toNat * 65536 + (p (4 * t + 2)).toNat * 256 + (p (4 * t + 3)).toNat := by
    simp only [part, Nat.add_zero]
    omega
  have h2 : part p t 4 < 4294967296 := by simpa using h
  unfold be4
  rw [UInt32.toNat_ofNat', ← e, Nat.mod_eq_of_lt h2]

set_option maxRecDepth 100000 in
set_option maxHeartbeats 8000000 in
theorem ref_words (M : List UInt8) (bo : Option Addr) (bc : Nat) (w : World) (hs : Src w bo (bvs M)) (hM : M.length = 64) :
    Calls Tryd.prog 63 #[.slice bo 64 bc] w (ListedV w 73 (wvs (sched (fun i => M.getD i 0)) 64)) := by
  obtain ⟨iu, hiu, hiuz, hius, hiub⟩ := info_parts Tryd.infoU32
  obtain ⟨p, hp⟩ : ∃ p : Nat → UInt8, (fun i => M.getD i 0) = p := ⟨_, rfl⟩
  rw [hp]
  have CELL : Hid (∀ wr, Chg [] w wr → ∀ i, i < 64 → ∃ a, bo = some a ∧ wr.cell? (a.add i) = some (bv (p i))) := Lib.hid (fun wr C i hi => by
    cases hb : bo with
    | none =>
      have := hs.nil hb
      rw [bvs, List.map_eq_nil_iff] at this
      rw [this] at hM
      simp at hM
    | some a =>
      refine ⟨a, rfl, C.cell_some (hs.cell a hb i (bv (p i)) ?_) (by simp)⟩
      rw [← hp]
      simp [bvs, hM, hi, List.getD_eq_getElem?_getD])
  have TRN : Hid (∀ (x : UInt32) (k : Nat) (K : Int) (w : World), (k : Int) = K → 1 ≤ k → k ≤ 31 → Calls Tryd.prog 64 #[.int .u32 x.toNat, .int .i64 K] w fun e w' => e = .returned (.int .u32 (rotr x k).toNat) ∧ w' = w) := Lib.hid (fun x k K w h1 h2 h3 => ref_turned x k K h1 h2 h3 w)
  have PF := Lib.hid (part_four p)
  have PL := Lib.hid (part_lt p)
  have SB := Lib.hid (sched_big p)
  clear hp hs hM
  go_enter Tryd.func63, Tryd.ntmps63
  go_wp2_with fail
  go_loopw [3, 4] (fun v i wr => ∃ (t c : Nat) (a : Option Addr), v = .slice a t c ∧ i = .int .i64 t ∧ t ≤ 64 ∧ wr.ownsRow 0 73 1 (.slice a t c) t (wvs (sched p) t) ∧ Chg [] w wr ∧ ∀ q, (Value.slice a t c).ownBlock = some q → w.heap.size ≤ q) (fun _ i _ => 64 - (intOf i).toNat)
  case atStart => exact ⟨0, 0, none, rfl, rfl, by omega, World.ownsRow_nil _ _ _ _, Chg.refl _ _, fun q hq => by cases hq⟩
  case round =>
    obtain ⟨t, c, a, rfl, rfl, ht, ho, C, hnew⟩ := hrel
    have hlo := ownsRow_lt ho
    by_cases hlt : t < 64
    · have hlt' : (t : Int) < 64 := by omega
      have ht0 : (0 : Int) ≤ t := by omega
      have NEWB : Hid (∀ (ao2 : Option Addr) (c2 : Nat) (w0 w1 : World), Chg [] wr w0 → w0.grownBy w1 (Value.slice a t c).ownBlock → ((Value.slice ao2 (t + 1) c2).ownBlock = (Value.slice a t c).ownBlock ∨ (Value.slice ao2 (t + 1) c2).ownBlock = some w0.heap.size) → Chg [] w w1 ∧ ∀ q, (Value.slice ao2 (t + 1) c2).ownBlock = some q → w.heap.size ≤ q) := Lib.hid (fun ao2 c2 w0 w1 C0 hgr hblk => by
        refine ⟨(C.trans C0 (by simp)).trans (Chg.grown hgr (S := (Value.slice a t c).ownBlock.toList) (by intro q hq; left; simp [hq])) (by intro q hq; right; exact hnew q (by simpa using hq)), fun q hq => ?_⟩
        rcases hblk with h1 | h1 <;> rw [h1] at hq
        · exact hnew q hq
        · have := Option.some.inj hq
          have h2 := C.size
          have h3 := C0.size
          omega)
      by_cases h16 : t < 16
      · have h16' : (t : Int) < 16 := by omega
        have HO := Lib.hid ho
        have HCC := Lib.hid C
        clear ho C hnew
        go_wp2_with fail
        go_loopw [5, 6] (fun x k wy => ∃ j : Nat, x = .int .u32 (part p t j) ∧ k = .int .i64 j ∧ j ≤ 4 ∧ wy = wr) (fun _ k _ => 4 - (intOf k).toNat)
        case atStart => exact ⟨0, rfl, rfl, by omega, rfl⟩
        case round =>
          obtain ⟨j, rfl, rfl, hj, rfl⟩ := hrel
          by_cases hlj : j < 4
          · have hlj' : (j : Int) < 4 := by omega
            have hj0 : (0 : Int) ≤ j := by omega
            obtain ⟨ad, rfl, hcell⟩ := CELL.out _ HCC.out (4 * t + j) (by omega)
            have hpl := PL.out t j
            have hpl3 : part p t j < 16777216 := Nat.lt_of_lt_of_le hpl (by
              have : (256 : Nat) ^ j ≤ 256 ^ 3 := Nat.pow_le_pow_right (by decide) (by omega)
              simpa using this)
            have HPS : Hid (part p t (j + 1) = 256 * part p t j + (p (4 * t + j)).toNat) := Lib.hid rfl
            have hb256 := (p (4 * t + j)).toNat_lt
            obtain ⟨ix, hix⟩ : ∃ ix, 4 * t + j = ix := ⟨_, rfl⟩
            have hw4 : IntKind.i64.wrap (4 * (t : Int)) = ((4 * t : Nat) : Int) := by rw [IntKind.wrap_i64]; omega
            have hw5 : IntKind.i64.wrap (4 * (t : Int) + (j : Int)) = ix := by rw [IntKind.wrap_i64]; omega
            rw [hix] at hcell HPS hb256
            have hixb : (ix : Int) < 64 := by omega
            have hix0 : (0 : Int) ≤ ix := by omega
            unfold bv at hcell
            obtain ⟨pv, hpv⟩ : ∃ q, part p t j = q := ⟨_, rfl⟩
            obtain ⟨by_, hby⟩ : ∃ q, (p ix).toNat = q := ⟨_, rfl⟩
            rw [hpv] at hpl3 HPS ⊢
            rw [hby] at hcell hb256 HPS
            have hm1 : IntKind.u32.wrap (256 * (pv : Int)) = ((256 * pv : Nat) : Int) := by rw [IntKind.wrap_u32]; omega
            have hm2 : IntKind.u32.wrap (by_ : Int) = by_ := by rw [IntKind.wrap_u32]; omega
            obtain ⟨nx, hnx⟩ : ∃ q, 256 * pv + by_ = q := ⟨_, rfl⟩
            have hm3 : IntKind.u32.wrap (256 * (pv : Int) + (by_ : Int)) = nx := by rw [IntKind.wrap_u32]; omega
            have hm4 : 256 * (pv : Int) % 4294967296 = 256 * (pv : Int) := by omega
            have hm5 : (256 * (pv : Int) + (by_ : Int)) % 4294967296 = nx := by omega
            rw [hnx] at HPS
            clear hpl hix hpv hby hnx
            go_wp2_with fail
            go_roundw
            case rel => exact ⟨j + 1, by rw [HPS.out], by go_num, by omega, by trivial⟩
            case measure => simp [intOf]; omega
          · obtain rfl : j = 4 := by omega
            have hpf := PF.out t h16
            rw [hpf]
            obtain ⟨x, hx⟩ : ∃ x, sched p t = x := ⟨_, rfl⟩
            rw [hx]
            have HS := Lib.hid (wvs_succ (sched p) t)
            rw [hx] at HS
            have hs1 : Src (wr.alloc (Obj.cells #[.int .u32 x.toNat] 73)) (some ⟨wr.heap.size, 0, none⟩) [wv x] := src_one_v
            clear hx hpf
            go_wp2_with (at_builtin; refine wpList_append_x _ rfl _ _ 111 rfl 73 iu _ 1 4 Tryd.underlying111 hiu hiuz hius hiub rfl (by decide) (.slice a t c) t (wvs (sched p) t) rfl (ownsRow_chg HO.out (Chg.alloc [] _ _) (by simp)) (some ⟨wr.heap.size, 0, none⟩) 1 1 [wv x] rfl rfl hs1 (fun h => by cases h) (by simp [wv, Value.oneCell']) (by unfold maxLen; omega) (by omega) ?_)
            intro ao2 c2 w1 hown hgr hblk
            obtain ⟨C1, hnew1⟩ := NEWB.out ao2 c2 _ w1 (Chg.alloc [] _ _) hgr (by first | exact hblk | simpa using hblk)
            go_wp2_with fail
            go_roundw
            case rel => exact ⟨t + 1, c2, ao2, rfl, by go_num, by omega, by rw [HS.out]; exact hown, C1, hnew1⟩
            case measure => simp [intOf]; omega
      · have h16' : ¬ (t : Int) < 16 := by omega
        obtain ⟨g, rfl⟩ := ownsRow_head ho (by omega)
        have hcell : ∀ i, i < t → wr.cell? ⟨g, i, none⟩ = some (wv (sched p i)) := fun i hi => by
          have := (ownsRow_src ho).cell _ rfl i (wv (sched p i)) (wvs_at _ hi)
          rw [addr_add0] at this
          exact this
        have e15 := hcell (t - 15) (by omega)
        have e2 := hcell (t - 2) (by omega)
        have e16 := hcell (t - 16) (by omega)
        have e7 := hcell (t - 7) (by omega)
        have hb := SB.out t h16
        obtain ⟨j15, hj15⟩ : ∃ q, t - 15 = q := ⟨_, rfl⟩
        obtain ⟨j2, hj2⟩ : ∃ q, t - 2 = q := ⟨_, rfl⟩
        obtain ⟨j16, hj16⟩ : ∃ q, t - 16 = q := ⟨_, rfl⟩
        obtain ⟨j7, hj7⟩ : ∃ q, t - 7 = q := ⟨_, rfl⟩
        rw [hj15] at e15 hb
        rw [hj2] at e2 hb
        rw [hj16] at e16 hb
        rw [hj7] at e7 hb
        have i15 : IntKind.i64.wrap ((t : Int) - 15) = j15 := by rw [IntKind.wrap_i64]; omega
        have i2 : IntKind.i64.wrap ((t : Int) - 2) = j2 := by rw [IntKind.wrap_i64]; omega
        have i16 : IntKind.i64.wrap ((t : Int) - 16) = j16 := by rw [IntKind.wrap_i64]; omega
        have i7 : IntKind.i64.wrap ((t : Int) - 7) = j7 := by rw [IntKind.wrap_i64]; omega
        have l15 : (j15 : Int) < t := by omega
        have l2 : (j2 : Int) < t := by omega
        have l16 : (j16 : Int) < t := by omega
        have l7 : (j7 : Int) < t := by omega
        have z15 : (0 : Int) ≤ j15 := by omega
        have z2 : (0 : Int) ≤ j2 := by omega
        have z16 : (0 : Int) ≤ j16 := by omega
        have z7 : (0 : Int) ≤ j7 := by omega
        have HS := Lib.hid (wvs_succ (sched p) t)
        obtain ⟨X15, hX15⟩ : ∃ q, sched p j15 = q := ⟨_, rfl⟩
        obtain ⟨X2, hX2⟩ : ∃ q, sched p j2 = q := ⟨_, rfl⟩
        obtain ⟨X16, hX16⟩ : ∃ q, sched p j16 = q := ⟨_, rfl⟩
        obtain ⟨X7, hX7⟩ : ∃ q, sched p j7 = q := ⟨_, rfl⟩
        rw [hX15] at e15 hb
        rw [hX2] at e2 hb
        rw [hX16] at e16 hb
        rw [hX7] at e7 hb
        unfold wv at e15 e2 e16 e7
        have HB := Lib.hid hb
        have HO := Lib.hid ho
        have HCC := Lib.hid C
        have rx := w_xor
        have ra := w_add
        have s3 := u_shr3
        have s10 := u_shr10
        clear hcell hb hj15 hj2 hj16 hj7 hX15 hX2 hX16 hX7 ho C hnew hlo
        go_wp2_with fail
        go_quiet (fail)
        have D0 := Chg.drewN [] wr nq
        have f16 : (wr.drewN nq).cell? ⟨g, j16, none⟩ = some (.int .u32 X16.toNat) := e16
        have f7 : (wr.drewN nq).cell? ⟨g, j7, none⟩ = some (.int .u32 X7.toNat) := e7
        have HO2 := Lib.hid (ownsRow_chg HO.out D0 (by simp))
        clear e15 e2 e16 e7
        generalize wr.drewN nq = wq at *
        go_wp2_with fail
        refine (TRN.out X15 7 7 _ rfl (by decide) (by decide)).mono ?_
        rintro e w' ⟨rfl, rfl⟩
        go_wp2_with fail
        refine (TRN.out X15 18 18 _ rfl (by decide) (by decide)).mono ?_
        rintro e w' ⟨rfl, rfl⟩
        go_wp2_with fail
        refine (TRN.out X2 17 17 _ rfl (by decide) (by decide)).mono ?_
        rintro e w' ⟨rfl, rfl⟩
        go_wp2_with fail
        refine (TRN.out X2 19 19 _ rfl (by decide) (by decide)).mono ?_
        rintro e w' ⟨rfl, rfl⟩
        go_upto_region 15 with (fail)
        have HX : Hid (sch X16 X15 X7 X2 = wadd (wadd (wadd X16 (wxor (wxor (rotr X15 7) (rotr X15 18)) (shr X15 3))) X7) (wxor (wxor (rotr X2 17) (rotr X2 19)) (shr X2 10))) := Lib.hid rfl
        obtain ⟨S0, hS0⟩ : ∃ q, wxor (wxor (rotr X15 7) (rotr X15 18)) (shr X15 3) = q := ⟨_, rfl⟩
        obtain ⟨S1, hS1⟩ : ∃ q, wxor (wxor (rotr X2 17) (rotr X2 19)) (shr X2 10) = q := ⟨_, rfl⟩
        rw [hS0, hS1] at HX ⊢
        clear hS0 hS1 rx s3 s10
        have f16d : (w'.drewN 1).cell? ⟨g, j16, none⟩ = some (.int .u32 X16.toNat) := f16
        have f7d : (w'.drewN 1).cell? ⟨g, j7, none⟩ = some (.int .u32 X7.toNat) := f7
        have n16 := World.cell?_alloc_lt w' (.cells #[.int .u32 (wadd (wadd (wadd X16 S0) X7) S1).toNat] 73) ⟨g, j16, none⟩ (World.block_lt_of_cell? _ _ f16)
        go_region_law (refine step_append_x _ rfl _ _ 111 rfl 73 iu _ 1 4 Tryd.underlying111 hiu hiuz hius hiub rfl (by decide) (.slice (some ⟨g, 0, none⟩) t c) t (wvs (sched p) t) rfl (ownsRow_chg HO2.out ((Chg.drewN [] _ 1).trans (Chg.alloc [] _ _) (by simp)) (by simp)) (some ⟨w'.heap.size, 0, none⟩) 1 1 [wv (wadd (wadd (wadd X16 S0) X7) S1)] rfl rfl (src_one_v (wr := w'.drewN 1)) (fun h => by cases h) (by simp [wv, Value.oneCell']) (by unfold maxLen; omega) (by omega) ?_; intro ao2 c2 w1 hown hgr hblk)
        all_goals
          go_wp2_with fail
          go_roundw
          case rel =>
            obtain ⟨C1, hnew1⟩ := NEWB.out ao2 c2 _ w1 ((D0.trans (Chg.drewN [] _ 1) (by simp)).trans (Chg.alloc [] _ _) (by simp)) hgr (by first | exact hblk | simpa using hblk)
            exact ⟨t + 1, c2, ao2, rfl, by go_num, by omega, by rw [HS.out, HB.out, HX.out]; exact hown, C1, hnew1⟩
          case measure => simp [intOf]; omega
    · obtain rfl : t = 64 := by omega
      have HL : Hid ((wvs (sched p) 64).length = 64) := Lib.hid (wvs_length _ _)
      go_wp2_with fail
      go_ret
      exact ⟨_, rfl, by rw [HL.out]; exact ho, C, hnew⟩
end Go.Proofs.YtfdhpjflkimihaaDoor
