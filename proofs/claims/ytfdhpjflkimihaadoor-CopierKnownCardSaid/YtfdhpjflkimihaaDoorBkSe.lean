/- Sum of the reference of sha: the digest. No conditions beyond those that each statement types. -/
import Derived.Test.YtfdhpjflkimihaaDoorBkJe
import Derived.Test.YtfdhpjflkimihaaDoorBkH
import Derived.Test.YtfdhpjflkimihaaDoorBkO
namespace Go.Proofs.YtfdhpjflkimihaaDoor
open Go.RowKit

def rF (i : Nat) : UInt32 := rootL.getD i 0
def fF (i : Nat) : UInt32 := firstL.getD i 0
theorem sched_congr {p q : Nat → UInt8} (h : ∀ i, i < 64 → p i = q i) : ∀ n t, t < n → t < 64 → sched p t = sched q t
  | 0, t, h0, _ => by omega
  | n + 1, t, h0, h1 => by
    by_cases h16 : t < 16
    · rw [sched_small p t h16, sched_small q t h16, h _ (by omega), h _ (by omega), h _ (by omega), h _ (by omega)]
    · rw [sched_big p t h16, sched_big q t h16, sched_congr h n (t - 16) (by omega) (by omega), sched_congr h n (t - 15) (by omega) (by omega), sched_congr h n (t - 7) (by omega) (by omega), sched_congr h n (t - 2) (by omega) (by omega)]
theorem rounds_congr {p q : Nat → UInt8} (h : ∀ i, i < 64 → p i = q i) (v : V8) : ∀ t, t ≤ 64 → rounds p v t = rounds q v t
  | 0, _ => rfl
  | t + 1, ht => by
    show (rounds p v t).rnd (rootL.getD t 0) (sched p t) = (rounds q v t).rnd (rootL.getD t 0) (sched q t)
    rw [rounds_congr h v t (by omega), sched_congr h (t + 1) t (by omega) (by omega)]

theorem eat_block (s : SS) (M : List UInt8) (hn : s.n % 64 = 0) (hM : M.length = 64) : (s.eat M).wd = fun i => if i < 8 then wadd (s.wd i) ((rounds (fun i => M.getD i 0) (V8.of s.wd) 64).get i) else s.wd i := by
  have h := s.eat_fill M (by omega)
  rw [hn, hM] at h
  rw [h, if_pos rfl]
  have hc : ∀ i, i < 64 → (s.fill M).rs i = M.getD i 0 := fun i hi => by
    show (if s.n % 64 ≤ i ∧ i < s.n % 64 + M.length then M.getD (i - s.n % 64) 0 else s.rs i) = _
    rw [hn, hM, if_pos (by omega), Nat.sub_zero]
  have hr := rounds_congr (q := fun i => M.getD i 0) hc (V8.of s.wd) 64 (Nat.le_refl _)
  have hf : (s.fill M).wd = s.wd := rfl
  funext i
  show (if i < 8 then wadd ((s.fill M).wd i) ((rounds (s.fill M).rs (V8.of (s.fill M).wd) 64).get i) else (s.fill M).wd i) = _
  rw [hf, hr]

theorem digest_eq (m : List UInt8) : digest m = (ss0.eat (m ++ padOf m.length)).hash := by
  have h : (ss0.eat m).n = m.length := by
    rw [SS.eat_n]
    show 0 + m.length = _
    omega
  unfold digest SS.sum
  rw [h, ← SS.eat_append]
theorem cube_root (i : Nat) (hi : i < 64) : ((cubeTo ((pl 312).getD i 0) 36 % 4294967296 : Nat) : Int) = ((rF i).toNat : Int) := by
  have h := cubes_are ⟨i, hi⟩
  have h2 := congrArg UInt32.toNat h
  simp only [UInt32.toNat_ofNat'] at h2
  have h3 : (rF i).toNat = (rootL.getD i 0).toNat := rfl
  rw [h3, ← h2]
  omega
theorem square_root (i : Nat) (hi : i < 8) : ((squareTo ((pl 312).getD i 0) 37 % 4294967296 : Nat) : Int) = ((fF i).toNat : Int) := by
  have h := squares_are ⟨i, hi⟩
  have h2 := congrArg UInt32.toNat h
  simp only [UInt32.toNat_ofNat'] at h2
  have h3 : (fF i).toNat = (firstL.getD i 0).toNat := rfl
  rw [h3, ← h2]
  omega
theorem uvs_at {l : List Nat} {i : Nat} (h : i < l.length) : (uvs l)[i]? = some (.int .u64 ((l.getD i 0 : Nat) : Int)) := by
  simp [uvs, h, List.getD_eq_getElem?_getD]
theorem zero8 : ∃ Z : Array Value, Z = cut (fun _ => wv 0) 0 8 ∧ (∀ w, (zeroValue 115).run Tryd.prog w = .ok (.agg Z) w) := ⟨_, rfl, fun _ => by kernel_rfl⟩

/-- A row of words that only its owner turns. -/
def WRow (w : World) (g n : Nat) (f : Nat → UInt32) : Prop := ∀ i, i < n → w.cell? ⟨g, i, none⟩ = some (wv (f i)) ∧ w.frozen? ⟨g, i, none⟩ = false
theorem WRow.chg {w w' : World} {g n : Nat} {f : Nat → UInt32} {S : List Nat} (h : WRow w g n f) (C : Chg S w w') (hg : g ∉ S) : WRow w' g n f := fun i hi => by
  obtain ⟨h1, h2⟩ := h i hi
  refine ⟨C.cell_some h1 hg, ?_⟩
  have hb := C.block g (World.block_lt_of_cell? _ _ h1) hg
  have : w'.frozen? ⟨g, i, none⟩ = w.frozen? ⟨g, i, none⟩ := by simp only [World.frozen?, hb]
  rw [this]; exact h2
theorem WRow.set {w : World} {g n : Nat} {f : Nat → UInt32} (h : WRow w g n f) (i : Nat) (x : UInt32) : WRow (w.setCell ⟨g, i, none⟩ (wv x)) g n (fun j => if j = i then x else f j) := fun j hj => by
  obtain ⟨h1, h2⟩ := h j hj
  refine ⟨?_, ?_⟩
  · by_cases hji : j = i
    · subst hji
      rw [World.cell?_setCell_same _ _ _ h1]
      simp
    · rw [World.cell?_setCell_other _ _ _ _ (fun e => hji (by injection e with _ e2; exact e2.symm)), h1]
      simp [hji]
  · have : (w.setCell ⟨g, i, none⟩ (wv x)).frozen? ⟨g, j, none⟩ = w.frozen? ⟨g, j, none⟩ := by
      unfold World.frozen? World.setCell
      simp only [Array.getElem?_modify, if_true]
      cases hh : w.heap[g]? with
      | none => rfl
      | some o => cases o <;> rfl
    rw [this]; exact h2
theorem WRow.congr {w : World} {g n : Nat} {f f' : Nat → UInt32} (h : WRow w g n f) (e : ∀ i, i < n → f' i = f i) : WRow w g n f' := fun i hi => by rw [e i hi]; exact h i hi
theorem WRow.of_row {w : World} {g n c : Nat} {f : Nat → UInt32} {t : TypeId} (h : w.ownsRow 0 t 1 (.slice (some ⟨g, 0, none⟩) n c) n (wvs f n)) : WRow w g n f := fun i hi => by
  refine ⟨?_, ?_⟩
  · have := (ownsRow_src h).cell _ rfl i (wv (f i)) (wvs_at f hi)
    rw [addr_add0] at this
    exact this
  · rcases h.2 with ⟨hv, _⟩ | ⟨g', cap, cur, hv, _, hh, _⟩
    · simp at hv
    · simp only [Value.slice.injEq, Option.some.injEq, Addr.mk.injEq] at hv
      obtain ⟨⟨rfl, _, _⟩, _, _⟩ := hv
      exact frozen_of_row _ _ _ _ _ hh

set_option maxRecDepth 100000 in
set_option maxHeartbeats 16000000 in
theorem ref_sum (l : List UInt8) (bo : Option Addr) (bc : Nat) (w : World) (hs : Src w bo (bvs l)) (hn0 : bo = none → bc = 0) (hl : l.length ≤ 1000000) :
    Calls Tryd.prog 26 #[.slice bo l.length bc] w fun e w' => e = .returned (hashV (digest l)) ∧ Chg [] w w' := by
  obtain ⟨iu, hiu, hiuz, hius, hiub⟩ := info_parts Tryd.infoU32
  obtain ⟨Z, hZ, hz, hsz, hz1⟩ := zeroHash
  obtain ⟨V0, hV0, hv0⟩ := zero8
  have PAD : Hid (∀ w', Chg [] w w' → Calls Tryd.prog 62 #[.slice bo l.length bc] w' (ListedV w' 5 (bvs (l ++ padOf l.length)))) := Lib.hid (fun w' C => ref_padded l bo bc w' (hs.chg C (by simp)) hn0 hl)
  obtain ⟨N, hN⟩ : ∃ N, l.length = N := ⟨_, rfl⟩
  rw [hN] at PAD ⊢
  have HN := Lib.hid hN
  have HLL := Lib.hid (show N ≤ 1000000 by omega)
  have HZ := Lib.hid hZ
  have HV0 := Lib.hid hV0
  have H1 := Lib.hid hz1
  have CUB := Lib.hid (fun p w => ref_cube p w)
  have SQU := Lib.hid (fun p w => ref_square p w)
  have WRD := Lib.hid (fun M bo bc w h1 h2 => ref_words M bo bc w h1 h2)
  have TRN : Hid (∀ (x : UInt32) (k : Nat) (K : Int) (w : World), (k : Int) = K → 1 ≤ k → k ≤ 31 → Calls Tryd.prog 64 #[.int .u32 x.toNat, .int .i64 K] w fun e w' => e = .returned (.int .u32 (rotr x k).toNat) ∧ w' = w) := Lib.hid (fun x k K w h1 h2 h3 => ref_turned x k K h1 h2 h3 w)
  have hnx := heap_alloc_new w (.cells Z 32)
  have CA := Chg.alloc [] w (.cells Z 32)
  clear hs hl hN hZ hV0 hz1 hn0
  go_enter Tryd.func26, Tryd.ntmps26
  go_wp2_with fail
  generalize w.alloc (.cells Z 32) = w0 at *
  obtain ⟨gr, hgr⟩ : ∃ g, w.heap.size = g := ⟨_, rfl⟩
  rw [hgr] at hnx ⊢
  have hgrw : w.heap.size ≤ gr := by omega
  have HR0 := Lib.hid hnx
  have hgr0 := lt_of_block hnx
  clear hgr hnx
  refine (ref_primes w0).mono ?_
  rintro r w1 ⟨vP, rfl, oP, C1, nP⟩
  have T1 := CA.trans C1 (by simp)
  have R1 := Lib.hid ((C1.block gr hgr0 (by simp)).trans HR0.out)
  obtain ⟨aP, cP, rfl, _, _⟩ := ownsRow_slice oP
  have hPl : (uvs (pl 312)).length = 64 := by rw [uvs, List.length_map, pl_len]
  have hsP := ownsRow_src oP
  rw [hPl]
  have PRM : Hid (∀ wr, Chg [] w1 wr → ∀ i, i < 64 → ∃ ad, aP = some ad ∧ wr.cell? (ad.add i) = some (.int .u64 ((pl 312).getD i 0 : Nat))) := Lib.hid (fun wr C i hi => by
    cases aP with
    | none =>
      have := hsP.nil rfl
      rw [this] at hPl
      simp at hPl
    | some ad => exact ⟨ad, rfl, C.cell_some (hsP.cell ad rfl i _ (uvs_at (by rw [pl_len]; exact hi))) (by simp)⟩)
  clear oP hsP nP hPl CA C1 HR0
  have hg1 := lt_of_block R1.out
  go_wp2_with fail
  go_loopw [5, 6] (fun v i wr => ∃ (k c : Nat) (a : Option Addr), v = .slice a k c ∧ i = .int .i64 k ∧ k ≤ 64 ∧ wr.ownsRow 0 73 1 (.slice a k c) k (wvs rF k) ∧ Chg [] w1 wr ∧ ∀ q, (Value.slice a k c).ownBlock = some q → w1.heap.size ≤ q) (fun _ i _ => 64 - (intOf i).toNat)
  case atStart => exact ⟨0, 0, none, rfl, rfl, by omega, World.ownsRow_nil _ _ _ _, Chg.refl _ _, fun q hq => by cases hq⟩
  case round =>
    obtain ⟨k, c, a, rfl, rfl, hk, ho, C, hnew⟩ := hrel
    by_cases hlt : k < 64
    · have hlt' : (k : Int) < 64 := by omega
      have hk0 : (0 : Int) ≤ k := by omega
      obtain ⟨ad, rfl, hc⟩ := PRM.out wr C k hlt
      have kc := CUB.out ((pl 312).getD k 0) wr
      rw [cube_root k hlt] at kc
      have HS := Lib.hid (wvs_succ rF k)
      generalize (pl 312).getD k 0 = pk at *
      generalize rF k = x at *
      have hlo := ownsRow_lt ho
      have hs1 : Src (wr.alloc (Obj.cells #[.int .u32 x.toNat] 73)) (some ⟨wr.heap.size, 0, none⟩) [wv x] := src_one_v
      have CAL := Chg.alloc [] wr (Obj.cells #[.int .u32 x.toNat] 73)
      go_wp2_with fail
      refine kc.mono ?_
      rintro e w' ⟨rfl, rfl⟩
      go_wp2_with (at_builtin; refine wpList_append_x _ rfl _ _ 111 rfl 73 iu _ 1 4 Tryd.underlying111 hiu hiuz hius hiub rfl (by decide) (.slice a k c) k (wvs rF k) rfl (ownsRow_chg ho (Chg.alloc [] _ _) (by simp)) (some ⟨w'.heap.size, 0, none⟩) 1 1 [wv x] rfl rfl hs1 (fun h => by cases h) (by simp [wv, Value.oneCell']) (by unfold maxLen; omega) (by omega) ?_)
      intro ao2 c2 w3 hown hgrb hblk
      have C3 : Chg [] w1 w3 := (C.trans CAL (by simp)).trans (Chg.grown hgrb (S := (Value.slice a k c).ownBlock.toList) (by intro q hq; left; simp [hq])) (by intro q hq; right; exact hnew q (by simpa using hq))
      have hnew3 : ∀ q, (Value.slice ao2 (k + 1) c2).ownBlock = some q → w1.heap.size ≤ q := by
        intro q hq
        have h0 := C.size
        rcases hblk with h1 | h1 <;> rw [h1] at hq
        · exact hnew q hq
        · have := Option.some.inj hq; try simp only [World.size_alloc] at this
          omega
      go_wp2_with fail
      go_roundw
      case rel => exact ⟨k + 1, c2, ao2, rfl, by go_num, by omega, by rw [HS.out]; exact hown, C3, hnew3⟩
      case measure => simp [intOf]; omega
    · obtain rfl : k = 64 := by omega
      obtain ⟨gk, rfl⟩ := ownsRow_head ho (by omega)
      have KR := WRow.of_row ho
      have hgkl := ownsRow_lt ho gk rfl
      have hgk1 := hnew gk rfl
      have T2 := T1.trans C (by simp)
      have R2 := Lib.hid ((C.block gr hg1 (by simp)).trans R1.out)
      have PRM2 : Hid (∀ wy, Chg [] wr wy → ∀ i, i < 64 → ∃ ad, aP = some ad ∧ wy.cell? (ad.add i) = some (.int .u64 ((pl 312).getD i 0 : Nat))) := Lib.hid (fun wy D i hi => PRM.out wy (C.trans D (by simp)) i hi)
      have HKR := Lib.hid KR
      clear ho hnew KR T1 C R1 PRM hlt
      rw [show ((64 : Nat) : Int) = 64 from rfl]
      generalize wr = wA at *
      go_wp2_with fail
      go_loopw [4, 8] (fun v i wr => ∃ (k c : Nat) (a : Option Addr), v = .slice a k c ∧ i = .int .i64 k ∧ k ≤ 8 ∧ wr.ownsRow 0 73 1 (.slice a k c) k (wvs fF k) ∧ Chg [] wA wr ∧ ∀ q, (Value.slice a k c).ownBlock = some q → wA.heap.size ≤ q) (fun _ i _ => 8 - (intOf i).toNat)
      case atStart => exact ⟨0, 0, none, rfl, rfl, by omega, World.ownsRow_nil _ _ _ _, Chg.refl _ _, fun q hq => by cases hq⟩
      case round =>
        obtain ⟨k, c, a, rfl, rfl, hk, ho, C, hnew⟩ := hrel
        by_cases hlt : k < 8
        · have hlt' : (k : Int) < 8 := by omega
          have hlt64 : (k : Int) < 64 := by omega
          have hk0 : (0 : Int) ≤ k := by omega
          obtain ⟨ad, rfl, hc⟩ := PRM2.out wr C k (by omega)
          have kc := SQU.out ((pl 312).getD k 0) wr
          rw [square_root k hlt] at kc
          have HS := Lib.hid (wvs_succ fF k)
          generalize (pl 312).getD k 0 = pk at *
          generalize fF k = x at *
          have hlo := ownsRow_lt ho
          have hs1 : Src (wr.alloc (Obj.cells #[.int .u32 x.toNat] 73)) (some ⟨wr.heap.size, 0, none⟩) [wv x] := src_one_v
          have CAL := Chg.alloc [] wr (Obj.cells #[.int .u32 x.toNat] 73)
          go_wp2_with fail
          refine kc.mono ?_
          rintro e w' ⟨rfl, rfl⟩
          go_wp2_with (at_builtin; refine wpList_append_x _ rfl _ _ 111 rfl 73 iu _ 1 4 Tryd.underlying111 hiu hiuz hius hiub rfl (by decide) (.slice a k c) k (wvs fF k) rfl (ownsRow_chg ho (Chg.alloc [] _ _) (by simp)) (some ⟨w'.heap.size, 0, none⟩) 1 1 [wv x] rfl rfl hs1 (fun h => by cases h) (by simp [wv, Value.oneCell']) (by unfold maxLen; omega) (by omega) ?_)
          intro ao2 c2 w3 hown hgrb hblk
          have C3 : Chg [] wA w3 := (C.trans CAL (by simp)).trans (Chg.grown hgrb (S := (Value.slice a k c).ownBlock.toList) (by intro q hq; left; simp [hq])) (by intro q hq; right; exact hnew q (by simpa using hq))
          have hnew3 : ∀ q, (Value.slice ao2 (k + 1) c2).ownBlock = some q → wA.heap.size ≤ q := by
            intro q hq
            have h0 := C.size
            rcases hblk with h1 | h1 <;> rw [h1] at hq
            · exact hnew q hq
            · have := Option.some.inj hq; try simp only [World.size_alloc] at this
              omega
          go_wp2_with fail
          go_roundw
          case rel => exact ⟨k + 1, c2, ao2, rfl, by go_num, by omega, by rw [HS.out]; exact hown, C3, hnew3⟩
          case measure => simp [intOf]; omega
        · obtain rfl : k = 8 := by omega
          obtain ⟨gs, rfl⟩ := ownsRow_head ho (by omega)
          have SR := WRow.of_row ho
          have hgsl := ownsRow_lt ho gs rfl
          have hgs1 := hnew gs rfl
          have T3 := T2.trans C (by simp)
          have R3 := Lib.hid ((C.block gr (lt_of_block R2.out) (by simp)).trans R2.out)
          have HKR3 := Lib.hid (HKR.out.chg C (by simp))
          have HSR := Lib.hid SR
          have hgks : gk ≠ gs := by omega
          have hgkB := Nat.lt_of_lt_of_le hgkl C.size
          have hgrs : gr ≠ gs := by have := lt_of_block R2.out; omega
          have hgsw : w.heap.size ≤ gs := by have := T2.size; omega
          clear ho hnew SR T2 C R2 PRM2 hlt HKR hgs1
          rw [show ((8 : Nat) : Int) = 8 from rfl]
          generalize wr = wB at *
          go_wp2_with fail
          refine (PAD.out wB T3).mono ?_
          rintro r w5 ⟨vp, rfl, oP, C5, nP⟩
          have T5 := T3.trans C5 (by simp)
          have R5 := Lib.hid ((C5.block gr (lt_of_block R3.out) (by simp)).trans R3.out)
          have HK5 := Lib.hid (HKR3.out.chg C5 (by simp))
          have HS5 := Lib.hid (HSR.out.chg C5 (by simp))
          have hgk5 := Nat.lt_of_lt_of_le hgkB C5.size
          have hgs5 : gs < w5.heap.size := by have := C5.size; omega
          have hPP : Hid (digest l = (ss0.eat (l ++ padOf N)).hash) := Lib.hid (by rw [← HN.out]; exact digest_eq l)
          have hlenP : (l ++ padOf N).length % 64 = 0 ∧ (l ++ padOf N).length ≤ 1000200 := by
            rw [List.length_append, padOf_small N (by have := HLL.out; omega), HN.out]
            have := HLL.out
            simp only [List.length_append, List.length_replicate, be64_length, List.length_singleton]
            omega
          obtain ⟨P, hP⟩ : ∃ P, l ++ padOf N = P := ⟨_, rfl⟩
          rw [hP] at oP hPP hlenP
          obtain ⟨Q, hQ⟩ : ∃ Q, P.length = Q := ⟨_, rfl⟩
          rw [bvs_length, hQ] at oP
          rw [hQ] at hlenP
          obtain ⟨hQ64, hQb⟩ := hlenP
          obtain ⟨aq, cq, rfl, hcq, _⟩ := ownsRow_slice oP
          have PSRC := Lib.hid (ownsRow_src oP)
          have HQ := Lib.hid hQ
          have HPB : Hid (∀ a : Addr, aq = some a → a.block ≠ gs) := Lib.hid (fun a ha => by
            subst ha
            rcases oP.2 with ⟨hv, _⟩ | ⟨g', cap, cur, hv, _⟩
            · simp at hv
            · simp only [Value.slice.injEq, Option.some.injEq] at hv
              have := nP g' (by rw [hv.1]; rfl)
              rw [hv.1]
              show g' ≠ gs
              omega)
          clear T3 R3 HKR3 HSR PAD oP nP hP hQ C5
          go_wp2_with fail
          have hst0 : Hid (WRow w5 gs 8 (ss0.eat (P.take (64 * 0))).wd) := Lib.hid (HS5.out.congr (fun i _ => rfl))
          have rn : ∀ x : UInt32, bits .xor .u32 (x.toNat : Int) 4294967295 = ((wnot x).toNat : Int) := fun x => u_xor x 4294967295
          have RN := Lib.hid rn
          clear rn
          go_loopw [11] (fun v wr => ∃ j : Nat, v = .int .i64 ((64 * j : Nat) : Int) ∧ 64 * j ≤ Q ∧ Hid (WRow wr gs 8 (ss0.eat (P.take (64 * j))).wd) ∧ Chg [gs] w5 wr) (fun v _ => Q - (intOf v).toNat)
          case atStart => exact ⟨0, rfl, by omega, hst0, Chg.refl _ _⟩
          case round =>
            clear hst0
            obtain ⟨j, rfl, hj, HST, C⟩ := hrel
            obtain ⟨A, hA⟩ : ∃ A, 64 * j = A := ⟨_, rfl⟩
            rw [hA] at hj HST ⊢
            have hA64 : A % 64 = 0 := by omega
            have HA := Lib.hid hA
            clear hA
            by_cases hlt : A < Q
            · have hlt' : (A : Int) < Q := by omega
              have hA0 : (0 : Int) ≤ A := by omega
              obtain ⟨A2, hA2⟩ : ∃ A2, A + 64 = A2 := ⟨_, rfl⟩
              have hw1 : IntKind.i64.wrap ((A : Int) + 64) = A2 := by rw [IntKind.wrap_i64]; omega
              have hA2Q : A2 ≤ Q := by omega
              have hA2c : (A2 : Int) ≤ cq := by omega
              have hAA2 : (A : Int) ≤ A2 := by omega
              have hdiff : A2 - A = 64 := by omega
              obtain ⟨ad, rfl⟩ : ∃ ad, aq = some ad := by
                cases aq with
                | none =>
                  have := PSRC.out.nil rfl
                  have h2 : Q = 0 := by rw [← HQ.out, ← bvs_length, this]; rfl
                  omega
                | some ad => exact ⟨ad, rfl⟩
              obtain ⟨M, hM⟩ : ∃ M, (P.drop A).take 64 = M := ⟨_, rfl⟩
              have hMl : M.length = 64 := by rw [← hM, List.length_take, List.length_drop, HQ.out]; omega
              have hms : Src wr (some (ad.add A)) (bvs M) := by
                have h0 : Src wr (some ad) (bvs P) := PSRC.out.chg C (fun x hx => by
                  cases hx
                  have := HPB.out ad rfl
                  simpa using this)
                have h1 := (h0.drop A).take 64
                rw [← bvs_drop, ← bvs_take, hM] at h1
                exact h1
              have hAd : (if A = 0 then some ad else some (ad.add A)) = some (ad.add A) := by
                split
                · rename_i h0; subst h0; rw [show ad.add 0 = ad by simp [Addr.add]]
                · rfl
              have kw := fun bc => WRD.out M (some (ad.add A)) bc wr hms hMl
              have HM := Lib.hid hM
              have HML := Lib.hid hMl
              have HA2 := Lib.hid hA2
              clear hM hms hMl hA2
              go_wp2_with fail
              refine (kw _).mono ?_
              rintro r w6 ⟨vW, rfl, oW, C6, nW⟩
              rw [wvs_length] at oW
              obtain ⟨aw, cw, rfl, _, _⟩ := ownsRow_slice oW
              obtain ⟨gw, rfl⟩ := ownsRow_head oW (by omega)
              obtain ⟨pM, hpM⟩ : ∃ pM : Nat → UInt8, (fun i => M.getD i 0) = pM := ⟨_, rfl⟩
              rw [hpM] at oW
              have HPM := Lib.hid hpM
              have WW6 := WRow.of_row oW
              have hgw6 := ownsRow_lt oW gw rfl
              have hgwn := nW gw rfl
              have hws5 := C.size
              have hw65 := C6.size
              have HST6 := Lib.hid (HST.out.chg C6 (by simp))
              have HKK6 := Lib.hid ((HK5.out.chg C (by simp; exact hgks)).chg C6 (by simp))
              obtain ⟨st, hst⟩ : ∃ st : Nat → UInt32, (ss0.eat (P.take A)).wd = st := ⟨_, rfl⟩
              rw [hst] at HST6
              have HSTE := Lib.hid hst
              clear kw oW nW hpM HST hst
              go_upto_region 19 with (fail)
              have hnv := heap_alloc_new w6 (.cells V0 115)
              have CV := Chg.alloc [] w6 (.cells V0 115)
              have HVR : Hid (WRow (w6.alloc (.cells V0 115)) w6.heap.size 8 (fun _ => 0)) := Lib.hid (fun i hi => ⟨by rw [cell_of_row _ _ _ _ _ _ hnv, HV0.out, cut_get _ _ _ _ hi], frozen_of_row _ _ _ _ _ hnv⟩)
              have HWW := Lib.hid (WW6.chg CV (by simp))
              have HST7 := Lib.hid (HST6.out.chg CV (by simp))
              have HKK7 := Lib.hid (HKK6.out.chg CV (by simp))
              have D7 : Chg [gs] w5 (w6.alloc (.cells V0 115)) := (C.trans C6 (by simp)).trans CV (by simp)
              have hsz7 : (w6.alloc (.cells V0 115)).heap.size = w6.heap.size + 1 := by simp
              generalize w6.alloc (.cells V0 115) = w7 at *
              obtain ⟨gv, hgv⟩ : ∃ gv, w6.heap.size = gv := ⟨_, rfl⟩
              rw [hgv] at HVR hgw6 hw65 hsz7 ⊢
              have hgvs : gv ≠ gs := by omega
              have hgvk : gv ≠ gk := by omega
              have hgvw : gw ≠ gv := by omega
              have hgws : gw ≠ gs := by omega
              clear hnv CV WW6 HST6 HKK6 C6 hgv C
              go_wp2_with fail
              go_loopw [14] (fun v wr => ∃ i : Nat, v = .int .i64 i ∧ i ≤ 8 ∧ Hid (WRow wr gv 8 (fun q => if q < i then st q else 0)) ∧ Chg [gv] w7 wr) (fun v _ => 8 - (intOf v).toNat)
              case atStart => exact ⟨0, rfl, by omega, Lib.hid (HVR.out.congr (fun i _ => rfl)), Chg.refl _ _⟩
              case round =>
                clear HVR
                obtain ⟨i, rfl, hi, HV, C⟩ := hrel
                by_cases hlt4 : i < 8
                · have hlt4' : (i : Int) < 8 := by omega
                  have hi0 : (0 : Int) ≤ i := by omega
                  obtain ⟨cs, _⟩ := HST7.out.chg C (by simp; exact fun h => hgvs h.symm) i hlt4
                  obtain ⟨cv, fv⟩ := HV.out i hlt4
                  have HN2 := Lib.hid (HV.out.set i (st i))
                  generalize hsti : st i = si at *
                  have HSI := Lib.hid hsti
                  clear hsti
                  unfold wv at cs cv HN2
                  go_wp2_with fail
                  go_roundw
                  case rel => exact ⟨i + 1, by go_num, by omega, Lib.hid (WRow.congr HN2.out (fun q _ => by
                    by_cases hq : q = i
                    · subst hq; rw [if_pos (by omega), if_pos rfl]; exact HSI.out
                    · rw [if_neg hq]
                      by_cases h2 : q < i
                      · rw [if_pos h2, if_pos (by omega)]
                      · rw [if_neg h2, if_neg (by omega)])), C.trans (Chg.setCell (S := [gv]) _ _ _ (.inl (by simp))) (fun q hq => .inl hq)⟩
                  case measure => simp [intOf]; omega
                · obtain rfl : i = 8 := by omega
                  have HV8 : Hid (WRow wr gv 8 ((rounds pM (V8.of st) 0).get)) := Lib.hid (HV.out.congr (fun q hq => by
                    show (V8.of st).get q = _
                    rw [of_get st q hq, if_pos hq]))
                  have D8 : Chg [gs, gv] w5 wr := (D7.mono (T := [gs, gv]) (fun q hq => by simp at hq; simp [hq])).trans C (fun q hq => .inl (by simp at hq; simp [hq]))
                  have HWW8 := Lib.hid (HWW.out.chg C (by simp; exact hgvw))
                  have HST8 := Lib.hid (HST7.out.chg C (by simp; exact fun h => hgvs h.symm))
                  have HKK8 := Lib.hid (HKK7.out.chg C (by simp; exact fun h => hgvk h.symm))
                  have hsz8 : gv < wr.heap.size := by have := C.size; omega
                  clear HV C HWW HST7 HKK7 D7 hlt4
                  rw [show ((8 : Nat) : Int) = 8 from rfl]
                  generalize wr = wC at *
                  go_wp2_with fail
                  go_loopw [15] (fun v wr => ∃ t : Nat, v = .int .i64 t ∧ t ≤ 64 ∧ Hid (WRow wr gv 8 ((rounds pM (V8.of st) t).get)) ∧ Chg [gv] wC wr) (fun v _ => 64 - (intOf v).toNat)
                  case atStart => exact ⟨0, rfl, by omega, HV8, Chg.refl _ _⟩
                  case round =>
                    clear HV8
                    obtain ⟨t, rfl, ht, HV, C⟩ := hrel
                    by_cases hlt5 : t < 64
                    · have hlt5' : (t : Int) < 64 := by omega
                      have ht0 : (0 : Int) ≤ t := by omega
                      obtain ⟨ck, _⟩ := HKK8.out.chg C (by simp; exact fun h => hgvk h.symm) t hlt5
                      obtain ⟨cw6, _⟩ := HWW8.out.chg C (by simp; exact hgvw) t hlt5
                      obtain ⟨V, hV⟩ : ∃ V, rounds pM (V8.of st) t = V := ⟨_, rfl⟩
                      have HRN : Hid (rounds pM (V8.of st) (t + 1) = V.rnd (rF t) (sched pM t)) := Lib.hid (by rw [← hV]; rfl)
                      rw [hV] at HV
                      obtain ⟨va, vb, vc, vd, ve, vf, vg, vh⟩ := V
                      generalize rF t = kt at *
                      generalize sched pM t = wt at *
                      have HVF := Lib.hid HV.out
                      have u0 : wr.cell? ⟨gv, 0, none⟩ = some (.int .u32 va.toNat) := (HV.out 0 (by omega)).1
                      have u1 : wr.cell? ⟨gv, 1, none⟩ = some (.int .u32 vb.toNat) := (HV.out 1 (by omega)).1
                      have u2 : wr.cell? ⟨gv, 2, none⟩ = some (.int .u32 vc.toNat) := (HV.out 2 (by omega)).1
                      have u4 : wr.cell? ⟨gv, 4, none⟩ = some (.int .u32 ve.toNat) := (HV.out 4 (by omega)).1
                      have u5 : wr.cell? ⟨gv, 5, none⟩ = some (.int .u32 vf.toNat) := (HV.out 5 (by omega)).1
                      have u6 : wr.cell? ⟨gv, 6, none⟩ = some (.int .u32 vg.toNat) := (HV.out 6 (by omega)).1
                      have u7 : wr.cell? ⟨gv, 7, none⟩ = some (.int .u32 vh.toNat) := (HV.out 7 (by omega)).1
                      have rx := w_xor
                      have ra := w_add
                      have rd := w_and
                      have rn := RN.out
                      unfold wv at ck cw6
                      clear hV HV
                      go_wp2_with fail
                      go_quiet ((go_at_call 64; exact Calls.quiet_of_same (TRN.out _ _ _ _ rfl (by decide) (by decide))))
                      have HX : Hid (V8.x ⟨va, vb, vc, vd, ve, vf, vg, vh⟩ kt wt = wadd (wadd (wadd (wadd vh (wxor (wxor (rotr ve 6) (rotr ve 11)) (rotr ve 25))) (wxor (wand ve vf) (wand (wnot ve) vg))) kt) wt) := Lib.hid rfl
                      obtain ⟨X, hX⟩ : ∃ X, wadd (wadd (wadd (wadd vh (wxor (wxor (rotr ve 6) (rotr ve 11)) (rotr ve 25))) (wxor (wand ve vf) (wand (wnot ve) vg))) kt) wt = X := ⟨_, rfl⟩
                      rw [hX] at HX ⊢
                      have C2 := C.trans (Chg.drewN [gv] wr nq) (fun q hq => .inl hq)
                      have HV2 := Lib.hid (HVF.out.chg (Chg.drewN [] wr nq) (by simp))
                      have p0 : (wr.drewN nq).cell? ⟨gv, 0, none⟩ = some (.int .u32 va.toNat) := u0
                      have p1 : (wr.drewN nq).cell? ⟨gv, 1, none⟩ = some (.int .u32 vb.toNat) := u1
                      have p2 : (wr.drewN nq).cell? ⟨gv, 2, none⟩ = some (.int .u32 vc.toNat) := u2
                      clear hX u0 u1 u2 u4 u5 u6 u7 HVF C ck cw6 rn
                      generalize wr.drewN nq = wD at *
                      go_wp2_with fail
                      go_quiet ((go_at_call 64; exact Calls.quiet_of_same (TRN.out _ _ _ _ rfl (by decide) (by decide))))
                      have HY : Hid (V8.y ⟨va, vb, vc, vd, ve, vf, vg, vh⟩ = wadd (wxor (wxor (rotr va 2) (rotr va 13)) (rotr va 22)) (wxor (wxor (wand va vb) (wand va vc)) (wand vb vc))) := Lib.hid rfl
                      obtain ⟨Y, hY⟩ : ∃ Y, wadd (wxor (wxor (rotr va 2) (rotr va 13)) (rotr va 22)) (wxor (wxor (wand va vb) (wand va vc)) (wand vb vc)) = Y := ⟨_, rfl⟩
                      rw [hY] at HY ⊢
                      have C3 := C2.trans (Chg.drewN [gv] wD nq) (fun q hq => .inl hq)
                      have HV3 := Lib.hid (HV2.out.chg (Chg.drewN [] wD nq) (by simp))
                      clear hY p0 p1 p2 HV2 C2 rx rd
                      generalize wD.drewN nq = wE at *
                      have HRND : Hid (V8.rnd ⟨va, vb, vc, vd, ve, vf, vg, vh⟩ kt wt = ⟨wadd X Y, va, vb, vc, wadd vd X, ve, vf, vg⟩) := Lib.hid (by
                        unfold V8.rnd
                        rw [HX.out, HY.out])
                      obtain ⟨fv, hfv⟩ : ∃ fv : Nat → UInt32, V8.get ⟨va, vb, vc, vd, ve, vf, vg, vh⟩ = fv := ⟨_, rfl⟩
                      rw [hfv] at HV3
                      have FV := Lib.hid hfv
                      clear hfv HX HY
                      go_wp2_with fail
                      go_loopw [18] (fun v wr => ∃ i : Nat, v = .int .i64 i ∧ i ≤ 7 ∧ Hid (WRow wr gv 8 (fun q => if i < q then fv (q - 1) else fv q)) ∧ Chg [gv] wE wr) (fun v _ => (intOf v).toNat)
                      case atStart => exact ⟨7, rfl, by omega, Lib.hid (HV3.out.congr (fun q hq => by rw [if_neg (by omega)])), Chg.refl _ _⟩
                      case round =>
                        clear HV3
                        obtain ⟨i, rfl, hi, HV, C⟩ := hrel
                        by_cases hi0 : 0 < i
                        · have hi0' : (0 : Int) < i := by omega
                          have hi8 : (i : Int) < 8 := by omega
                          have hi00 : (0 : Int) ≤ i := by omega
                          obtain ⟨im, him⟩ : ∃ im, i - 1 = im := ⟨_, rfl⟩
                          have hwi : IntKind.i64.wrap ((i : Int) - 1) = im := by rw [IntKind.wrap_i64]; omega
                          have him8 : (im : Int) < 8 := by omega
                          have him0 : (0 : Int) ≤ im := by omega
                          obtain ⟨cim0, _⟩ := HV.out im (by omega)
                          obtain ⟨cii0, fii⟩ := HV.out i (by omega)
                          have hsel : (if i < im then fv (im - 1) else fv im) = fv im := if_neg (by omega)
                          have cim : wr.cell? ⟨gv, im, none⟩ = some (wv (if i < im then fv (im - 1) else fv im)) := cim0
                          have cii : wr.cell? ⟨gv, i, none⟩ = some (wv (if i < i then fv (i - 1) else fv i)) := cii0
                          clear cim0 cii0
                          rw [hsel] at cim
                          obtain ⟨y, hy⟩ : ∃ y, fv im = y := ⟨_, rfl⟩
                          obtain ⟨z, hz2⟩ : ∃ z, (if i < i then fv (i - 1) else fv i) = z := ⟨_, rfl⟩
                          rw [hy] at cim
                          rw [hz2] at cii
                          have HN2 := Lib.hid (HV.out.set i y)
                          have HYY := Lib.hid hy
                          have HIM := Lib.hid him
                          unfold wv at cim cii HN2
                          clear hsel hy hz2 him
                          go_wp2_with fail
                          go_roundw
                          case rel => exact ⟨im, by go_num, by omega, Lib.hid (WRow.congr HN2.out (fun q _ => by
                            have hIM : i - 1 = im := HIM.out
                            by_cases hq : q = i
                            · have h1 : im < q := by omega
                              have h2 : q - 1 = im := by omega
                              rw [if_pos h1, if_pos hq, h2]
                              exact HYY.out
                            · rw [if_neg hq]
                              by_cases h2 : i < q
                              · rw [if_pos h2, if_pos (by omega)]
                              · rw [if_neg h2, if_neg (by omega)])), C.trans (Chg.setCell (S := [gv]) _ _ _ (.inl (by simp))) (fun q hq => .inl hq)⟩
                          case measure => have := HIM.out; simp [intOf]; omega
                        · obtain rfl : i = 0 := by omega
                          have HVS : Hid (WRow wr gv 8 (V8.get ⟨va, va, vb, vc, vd, ve, vf, vg⟩)) := Lib.hid (HV.out.congr (fun q hq => by
                            rw [← FV.out]
                            have h : q = 0 ∨ q = 1 ∨ q = 2 ∨ q = 3 ∨ q = 4 ∨ q = 5 ∨ q = 6 ∨ q = 7 := by omega
                            rcases h with rfl | rfl | rfl | rfl | rfl | rfl | rfl | rfl <;> rfl))
                          have C4 := C3.trans C (fun q hq => .inl hq)
                          obtain ⟨k4, f4⟩ := HVS.out 4 (by omega)
                          obtain ⟨k0, f0⟩ := HVS.out 0 (by omega)
                          have k4' : wr.cell? ⟨gv, 4, none⟩ = some (.int .u32 vd.toNat) := k4
                          have W4 := Lib.hid (HVS.out.set 4 (wadd vd X))
                          obtain ⟨k0', f0'⟩ := W4.out 0 (by omega)
                          have k0'' : (wr.setCell ⟨gv, 4, none⟩ (.int .u32 (wadd vd X).toNat)).cell? ⟨gv, 0, none⟩ = some (.int .u32 va.toNat) := k0'
                          have f0'' : (wr.setCell ⟨gv, 4, none⟩ (.int .u32 (wadd vd X).toNat)).frozen? ⟨gv, 0, none⟩ = false := f0'
                          have W0 := Lib.hid (W4.out.set 0 (wadd X Y))
                          clear HVS HV C C3 k4 k0 k0' f0' W4
                          go_wp2_with fail
                          go_roundw
                          case rel => exact ⟨t + 1, by go_num, by omega, Lib.hid (WRow.congr W0.out (fun q hq => by
                            rw [HRN.out, HRND.out]
                            have h : q = 0 ∨ q = 1 ∨ q = 2 ∨ q = 3 ∨ q = 4 ∨ q = 5 ∨ q = 6 ∨ q = 7 := by omega
                            rcases h with rfl | rfl | rfl | rfl | rfl | rfl | rfl | rfl <;> rfl)), (C4.trans (Chg.setCell (S := [gv]) _ _ _ (.inl (by simp))) (fun q hq => .inl hq)).trans (Chg.setCell (S := [gv]) _ _ _ (.inl (by simp))) (fun q hq => .inl hq)⟩
                          case measure => simp [intOf]; omega
                    · obtain rfl : t = 64 := by omega
                      have HEAT : Hid (∀ q, q < 8 → (ss0.eat (P.take (A + 64))).wd q = wadd (st q) ((rounds pM (V8.of st) 64).get q)) := Lib.hid (fun q hq => by
                        have hn : (ss0.eat (P.take A)).n % 64 = 0 := by
                          rw [SS.eat_n, List.length_take, HQ.out, Nat.min_eq_left (by omega)]
                          show (0 + A) % 64 = 0
                          omega
                        have hb := eat_block (ss0.eat (P.take A)) M hn HML.out
                        rw [← SS.eat_append, ← HM.out, ← List.take_add, HSTE.out] at hb
                        rw [hb]
                        simp only [hq, if_true]
                        rw [HM.out, HPM.out])
                      obtain ⟨VV, hVV⟩ : ∃ VV, (rounds pM (V8.of st) 64).get = VV := ⟨_, rfl⟩
                      rw [hVV] at HV HEAT
                      have D9 : Chg [gs, gv] w5 wr := D8.trans C (fun q hq => .inl (by simp at hq; simp [hq]))
                      have HST9 := Lib.hid (HST8.out.chg C (by simp; exact fun h => hgvs h.symm))
                      have HVF := Lib.hid HV.out
                      clear hVV HV C D8 HST8 HKK8 HWW8 HML HPM HM hlt5
                      rw [show ((64 : Nat) : Int) = 64 from rfl]
                      generalize wr = wF at *
                      go_wp2_with fail
                      go_loopw [19] (fun v wr => ∃ i : Nat, v = .int .i64 i ∧ i ≤ 8 ∧ Hid (WRow wr gs 8 (fun q => if q < i then wadd (st q) (VV q) else st q)) ∧ Chg [gs] wF wr) (fun v _ => 8 - (intOf v).toNat)
                      case atStart => exact ⟨0, rfl, by omega, Lib.hid (HST9.out.congr (fun q _ => by rw [if_neg (by omega)])), Chg.refl _ _⟩
                      case round =>
                        clear HST9
                        obtain ⟨i, rfl, hi, HS, C⟩ := hrel
                        by_cases hi8 : i < 8
                        · have hi8' : (i : Int) < 8 := by omega
                          have hi0 : (0 : Int) ≤ i := by omega
                          obtain ⟨cs0, fs⟩ := HS.out i hi8
                          obtain ⟨cv, _⟩ := HVF.out.chg C (by simp; exact hgvs) i hi8
                          have cs : wr.cell? ⟨gs, i, none⟩ = some (wv (if i < i then wadd (st i) (VV i) else st i)) := cs0
                          rw [if_neg (by omega)] at cs
                          have HN2 := Lib.hid (HS.out.set i (wadd (st i) (VV i)))
                          obtain ⟨x, hx⟩ : ∃ x, st i = x := ⟨_, rfl⟩
                          obtain ⟨y, hy⟩ : ∃ y, VV i = y := ⟨_, rfl⟩
                          rw [hx] at cs HN2
                          rw [hy] at cv HN2
                          have HX := Lib.hid hx
                          have HY := Lib.hid hy
                          have ra := w_add
                          unfold wv at cs cv HN2
                          clear cs0 hx hy
                          go_wp2_with fail
                          go_region
                          all_goals
                            go_wp2_with fail
                            go_roundw
                            case rel => exact ⟨i + 1, by go_num, by omega, Lib.hid (WRow.congr ((HN2.out).chg (Chg.drewN [] _ 1) (by simp)) (fun q _ => by
                              by_cases hq : q = i
                              · rw [if_pos (by omega), if_pos hq, hq, HX.out, HY.out]
                              · rw [if_neg hq]
                                by_cases h2 : q < i
                                · rw [if_pos h2, if_pos (by omega)]
                                · rw [if_neg h2, if_neg (by omega)])), (C.trans (Chg.setCell (S := [gs]) wr _ _ (.inl (by simp))) (fun q hq => .inl hq)).trans (Chg.drewN [gs] _ 1) (fun q hq => .inl hq)⟩
                            case measure => simp [intOf]; omega
                        · obtain rfl : i = 8 := by omega
                          have HSN : Hid (WRow wr gs 8 (ss0.eat (P.take (A + 64))).wd) := Lib.hid (HS.out.congr (fun q hq => by rw [HEAT.out q hq, if_pos hq]))
                          have D10 : Chg [gs] w5 wr := (Chg.refl [gs] w5).trans (D9.trans C (fun q hq => .inl (by simp at hq; simp [hq]))) (fun q hq => by
                            simp at hq
                            rcases hq with rfl | rfl
                            · left; simp
                            · right; omega)
                          clear HS C D9 HEAT HVF hi8
                          go_wp2_with fail
                          go_roundw
                          case rel => exact ⟨j + 1, by rw [show 64 * (j + 1) = A2 by have := HA.out; have := HA2.out; omega], by have := HA.out; have := HA2.out; omega, by rw [show 64 * (j + 1) = A + 64 by have := HA.out; omega]; exact HSN, D10⟩
                          case measure => have := HA.out; have := HA2.out; simp [intOf]; omega
            · have hAQ : A = Q := by omega
              have hfull : P.take A = P := List.take_of_length_le (by rw [HQ.out]; omega)
              rw [hfull] at HST
              obtain ⟨S, hS⟩ : ∃ S, ss0.eat P = S := ⟨_, rfl⟩
              rw [hS] at HST hPP
              have R6 := Lib.hid ((C.block gr (lt_of_block R5.out) (by simp; exact hgrs)).trans R5.out)
              have T6 := T5.trans C (fun q hq => by simp at hq; right; omega)
              have hgrl := lt_of_block R6.out
              clear hfull hS R5 T5 C hlt RN CUB SQU WRD TRN HK5 HS5 PSRC
              generalize wr = wG at *
              go_upto_region 39 with (fail)
              have hnh := heap_alloc_new wG (.cells Z 32)
              have CH := Chg.alloc [] wG (.cells Z 32)
              have R7 := Lib.hid ((CH.block gr hgrl (by simp)).trans R6.out)
              have T7 := T6.trans CH (by simp)
              have HS7 := Lib.hid (HST.out.chg CH (by simp))
              have HH0 : Hid ((wG.alloc (.cells Z 32)).heap[wG.heap.size]? = some (.cells (hashC (fun q => if q < 0 then S.hash q else 0)) 32 (0, 0))) := Lib.hid (by rw [hnh, HZ.out]; rfl)
              have hszG : wG.heap.size < (wG.alloc (.cells Z 32)).heap.size := by simp
              generalize wG.alloc (.cells Z 32) = wH at *
              obtain ⟨gh, hgh⟩ : ∃ gh, wG.heap.size = gh := ⟨_, rfl⟩
              rw [hgh] at HH0 hszG hgrl ⊢
              have hgsG : gs < gh := by
                have h5 : gs < wG.heap.size := World.block_lt_of_cell? _ _ (HST.out 0 (by omega)).1
                omega
              have hghw : w.heap.size ≤ gh := by have := T6.size; omega
              clear hnh CH R6 T6 HST hz
              go_wp2_with fail
              go_loopw [21] (fun v wr => ∃ i : Nat, v = .int .i64 i ∧ i ≤ 32 ∧ Hid (wr.heap[gh]? = some (.cells (hashC (fun q => if q < i then S.hash q else 0)) 32 (0, 0))) ∧ Chg [gh] wH wr) (fun v _ => 32 - (intOf v).toNat)
              case atStart => exact ⟨0, rfl, by omega, HH0, Chg.refl _ _⟩
              case round =>
                clear HH0
                obtain ⟨i, rfl, hi, HH, C⟩ := hrel
                by_cases hi32 : i < 32
                · have hi32' : (i : Int) < 32 := by omega
                  have hi0 : (0 : Int) ≤ i := by omega
                  obtain ⟨i4, hi4⟩ : ∃ i4, i / 4 = i4 := ⟨_, rfl⟩
                  obtain ⟨qq, hqq⟩ : ∃ qq, i % 4 = qq := ⟨_, rfl⟩
                  have d1 : (i : Int) / 4 = i4 := by omega
                  have d2 : (i : Int) % 4 = qq := by omega
                  have d3 : (i : Int).tdiv 4 = i4 := by rw [Int.tdiv_eq_ediv_of_nonneg (by omega)]; omega
                  have d4 : (i : Int).tmod 4 = qq := by rw [Int.tmod_eq_emod_of_nonneg (by omega)]; omega
                  obtain ⟨m, hm⟩ : ∃ m, 24 - 8 * qq = m := ⟨_, rfl⟩
                  have e1 : IntKind.i64.wrap (8 * (qq : Int)) = ((8 * qq : Nat) : Int) := by rw [IntKind.wrap_i64]; omega
                  have e2 : IntKind.i64.wrap (24 - 8 * (qq : Int)) = m := by rw [IntKind.wrap_i64]; omega
                  have e3 : IntKind.u64.wrap (m : Int) = m := by rw [IntKind.wrap_u64]; omega
                  have hm32 : (m : Int) < 32 := by omega
                  have hm0 : (0 : Int) ≤ m := by omega
                  have i48 : (i4 : Int) < 8 := by omega
                  have i40 : (0 : Int) ≤ i4 := by omega
                  obtain ⟨cx, _⟩ := HS7.out.chg C (by simp; omega) i4 (by omega)
                  have hsh : S.hash i = wordByte (S.wd i4) qq := by unfold SS.hash; rw [hi4, hqq]
                  obtain ⟨x, hx⟩ : ∃ x, S.wd i4 = x := ⟨_, rfl⟩
                  rw [hx] at cx hsh
                  have hval : IntKind.u8.wrap ((x.toNat : Int) / 2 ^ m) = ((wordByte x qq).toNat : Int) := by
                    have := wordByte_eq x qq (2 ^ m) (by rw [hm])
                    rw [← this]
                    simp
                  obtain ⟨y, hy⟩ : ∃ y, wordByte x qq = y := ⟨_, rfl⟩
                  rw [hy] at hval hsh
                  have hcell : ∃ z, wr.cell? ⟨gh, i, none⟩ = some (bv z) := ⟨_, by rw [cell_of_row _ _ _ _ _ _ HH.out, hashC_get _ i hi32]⟩
                  obtain ⟨z, hcz⟩ := hcell
                  have hfr : wr.frozen? ⟨gh, i, none⟩ = false := frozen_of_row _ _ _ _ _ HH.out
                  have hset := Lib.hid (hash_set HH.out i y)
                  have HSH := Lib.hid hsh
                  unfold wv at cx
                  unfold bv at hcz
                  clear hi4 hqq hm hx hy hsh
                  go_wp2_with fail
                  go_roundw
                  case rel => exact ⟨i + 1, by go_num, by omega, Lib.hid (by
                    rw [hset.out]
                    congr 2
                    refine words8 fun q hq => ?_
                    by_cases hqi : q = i
                    · rw [if_pos hqi, if_pos (by omega), hqi, HSH.out]
                    · rw [if_neg hqi]
                      by_cases h2 : q < i
                      · rw [if_pos h2, if_pos (by omega)]
                      · rw [if_neg h2, if_neg (by omega)]), C.trans (Chg.setCell (S := [gh]) _ _ _ (.inl (by simp))) (fun q hq => .inl hq)⟩
                  case measure => simp [intOf]; omega
                · obtain rfl : i = 32 := by omega
                  have hfin : hashC (fun q => if q < 32 then S.hash q else 0) = hashC S.hash := words8 (fun q hq => by rw [if_pos hq])
                  have hh := HH.out
                  rw [hfin] at hh
                  obtain ⟨Rv, hRv⟩ : ∃ R, hashC S.hash = R := ⟨_, rfl⟩
                  have hRs : Rv.size = 32 := by rw [← hRv]; exact hashC_size _
                  have hR1 : Rv.all (·.oneCell') = true := by rw [← hRv]; exact hashC_one _
                  rw [hRv] at hh
                  have R8 := (C.block gr (lt_of_block R7.out) (by simp; omega)).trans R7.out
                  have hld := run_load_hash _ _ _ _ _ hh hRs
                  have hst := run_storeAt_row (P := Tryd.prog) wr gr _ 32 Z Rv R8 (by rw [hRs]; exact infoHash) (by rw [hsz, hRs]) hR1
                  have hhf := setRow_heap wr gr _ Rv _ _ R8
                  have HLD := Lib.hid hld
                  have HST := Lib.hid hst
                  have HHF := Lib.hid hhf
                  have HRV := Lib.hid hRv
                  have CF : Chg [] w (wr.setRow gr Rv) := (T7.trans C (fun q hq => by simp at hq; right; omega)).trans (Chg.setRow (S := [gr]) wr gr Rv (.inl (by simp))) (fun q hq => by simp at hq; right; omega)
                  clear hld hst hhf hRv hR1 hfin HH hh R8 hi32
                  rw [show ((32 : Nat) : Int) = 32 from rfl]
                  go_wp2_with (first | (refine wpList_load_x _ rfl 32 _ rfl (.agg Rv) HLD.out ?_) | (refine wpList_store_x _ rfl 32 (.tmp 2) (.tmp 195) rfl _ HST.out ?_))
                  exact bodyPost_ret (v := .agg Rv) (results_cell_row rfl _ _ _ _ Rv _ _ rfl HHF.out Tryd.underlying32 rfl (by rw [hRs]; exact infoHash)) rfl ⟨by rw [hPP.out, hashV, HRV.out], CF⟩
end Go.Proofs.YtfdhpjflkimihaaDoor
