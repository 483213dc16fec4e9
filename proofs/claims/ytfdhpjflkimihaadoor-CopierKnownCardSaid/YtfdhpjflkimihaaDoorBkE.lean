/- What Sum of the package sha does to memory. No conditions beyond those that each statement types. -/
import Derived.Test.YtfdhpjflkimihaaDoorBkD
import Derived.Test.YtfdhpjflkimihaaDoorZeros
import Derived.Laws.Rows
import Derived.Laws.CopyRow
namespace Go.Proofs.YtfdhpjflkimihaaDoor
open Go.RowKit

/-- The bytes behind n bytes. -/
def be64 (x : Nat) : List UInt8 := (List.range 8).map fun j => UInt8.ofNat (x / 2 ^ (56 - 8 * j))
def padOf (n : Nat) : List UInt8 := 128 :: (List.replicate ((119 - n % 64) % 64) 0 ++ be64 (n * 8 % 18446744073709551616))
def wordByte (x : UInt32) (k : Nat) : UInt8 := UInt8.ofNat (x.toNat / 2 ^ (24 - 8 * k))
def SS.hash (s : SS) (j : Nat) : UInt8 := wordByte (s.wd (j / 4)) (j % 4)
def SS.sum (s : SS) : SS := s.eat (padOf s.n)
def hashC (f : Nat → UInt8) : Array Value := cut (fun i => bv (f i)) 0 32
def hashV (f : Nat → UInt8) : Value := .agg (hashC f)
theorem hashC_size (f : Nat → UInt8) : (hashC f).size = 32 := cut_size _ _ _
theorem hashC_one (f : Nat → UInt8) : (hashC f).all (·.oneCell') = true := cut_one _ _ _ (fun _ _ => rfl)

theorem ownsRow_head {w : World} {B : Nat} {e : TypeId} {size : Nat} {ao : Option Addr} {n c : Nat} {xs : List Value} (h : w.ownsRow B e size (.slice ao n c) n xs) (hn : 0 < n) : ∃ g, ao = some ⟨g, 0, none⟩ := by
  rcases h.2 with ⟨hv, h0⟩ | ⟨g, cap, cur, hv, _⟩
  · omega
  · simp only [Value.slice.injEq] at hv
    exact ⟨g, hv.1⟩
theorem padOf_small (n : Nat) (h : n * 8 < 18446744073709551616) : padOf n = [128] ++ List.replicate ((119 - n % 64) % 64) 0 ++ be64 (n * 8) := by
  unfold padOf
  rw [Nat.mod_eq_of_lt h]; rfl
theorem be64_length (x : Nat) : (be64 x).length = 8 := by simp [be64]

/-- Zero digests: what the walk asks of them. -/
theorem zeroHash : ∃ Z : Array Value, Z = hashC (fun _ => 0) ∧ (∀ w, (zeroValue 32).run Tryd.prog w = .ok (.agg Z) w) ∧ Z.size = 32 ∧ Z.all (·.oneCell') = true :=
  ⟨_, rfl, fun _ => by kernel_rfl, hashC_size _, hashC_one _⟩
theorem infoHash : (Tryd.prog.info? 32).map (·.size) = some 32 := by kernel_rfl

theorem run_load_hash (w : World) (g : Nat) (C : Array Value) (t : TypeId) (fr : Nat × Nat) (h : w.heap[g]? = some (.cells C t fr)) (hs : C.size = 32) : (Instr.loadAt 32 (.pointer (some ⟨g, 0, none⟩))).run Tryd.prog w = .ok (.agg C) w := by
  simp only [Instr.loadAt, Instr.sureAddr, Sem.run_bind, Sem.run_pure, Result.andThen]
  exact run_loadVar_row w g t _ C fr _ h Tryd.underlying32 rfl (by rw [hs]; exact infoHash)

set_option maxRecDepth 100000 in
theorem sha_sum_none (p : Option Addr) (w : World) (hp : Calls Tryd.prog 103 #[.pointer p] (w.alloc (.cells (hashC (fun _ => 0)) 32)) fun e w' => e = .returned (.bool false) ∧ (w.alloc (.cells (hashC (fun _ => 0)) 32)) = w') :
    Calls Tryd.prog 78 #[.pointer p] w fun e w' => e = .returned (hashV (fun _ => 0)) ∧ Chg [] w w' := by
  obtain ⟨Z, hZ, hz, hs, h1⟩ := zeroHash
  have hnx := heap_alloc_new w (.cells Z 32)
  have CA := Chg.alloc [] w (.cells Z 32)
  unfold hashV
  rw [← hZ] at hp ⊢
  have hld := run_load_hash _ _ _ _ _ hnx hs
  have hst := run_storeAt_row (P := Tryd.prog) (w.alloc (.cells Z 32)) w.heap.size _ 32 Z Z hnx (by rw [hs]; exact infoHash) rfl h1
  rw [World.setRow_alloc_new] at hst
  clear hZ h1
  go_enter Tryd.func78, Tryd.ntmps78
  go_wp2_with fail
  refine hp.mono ?_
  rintro r w' ⟨rfl, rfl⟩
  go_wp2_with (first | (refine wpList_load_x _ rfl 32 _ rfl (.agg Z) hld ?_) | (refine wpList_store_x _ rfl 32 (.tmp 2) (.tmp 13) rfl _ hst ?_))
  exact bodyPost_ret (v := .agg Z) (results_cell_row rfl _ _ _ _ Z _ _ rfl hnx Tryd.underlying32 rfl (by rw [hs]; exact infoHash)) rfl ⟨rfl, CA⟩

theorem Tryd.infoU8 : (Tryd.prog.info? 5).map (fun i => (i.zero, i.size, i.bytes)) = some (some (.int .u8 0), 1, 1) := by kernel_rfl
theorem zeroState : ∃ Z : Array Value, (∀ w, (zeroValue 170).run Tryd.prog w = .ok (.agg Z) w) ∧ Z.size = 74 ∧ Z[73]? = some (.bool false) :=
  ⟨((List.range 74).map fun i => (if i < 8 then .int .u32 0 else if i < 72 then .int .u8 0 else if i = 72 then .int .i64 0 else .bool false)).toArray, fun _ => by kernel_rfl, by simp, by kernel_rfl⟩
theorem infoState : (Tryd.prog.info? 170).map (·.size) = some 74 := by kernel_rfl
theorem SS.cells_one (s : SS) : s.cells.all (·.oneCell') = true := cut_one _ _ _ (fun j _ => by
  unfold SS.cell
  repeat' split
  all_goals rfl)

theorem hash_set {w : World} {g : Nat} {f : Nat → UInt8} (h : w.heap[g]? = some (.cells (hashC f) 32 (0, 0))) (i : Nat) (x : UInt8) :
    (w.setCell ⟨g, i, none⟩ (.int .u8 x.toNat)).heap[g]? = some (.cells (hashC (fun j => if j = i then x else f j)) 32 (0, 0)) := by
  have h1 := heap_setCell_same w g i _ _ (.int .u8 x.toNat) h
  refine h1.trans (congrArg (fun c => some (Obj.cells c 32 (0, 0))) (cut_set _ _ _ _ _ fun j _ => ?_))
  by_cases hj : j = i <;> simp [hj, bv]
theorem words8 {f g : Nat → UInt8} (h : ∀ i, i < 32 → f i = g i) : hashC f = hashC g := by
  unfold hashC cut
  congr 1
  refine List.map_congr_left fun j hj => ?_
  show bv (f (0 + j)) = bv (g (0 + j))
  rw [Nat.zero_add, h j (List.mem_range.1 hj)]
theorem wordByte_eq (x : UInt32) (q D : Nat) (hD : 2 ^ (24 - 8 * q) = D) : IntKind.u8.wrap ((x.toNat : Int) / (D : Int)) = ((wordByte x q).toNat : Int) := by
  unfold wordByte
  rw [hD, UInt8.toNat_ofNat', IntKind.wrap_u8]
  have : (x.toNat : Int) / (D : Int) = ((x.toNat / D : Nat) : Int) := by simp
  rw [this]; rfl

theorem wordByte_mod (x : UInt32) (q D : Nat) (hD : 2 ^ (24 - 8 * q) = D) : (x.toNat : Int) / (D : Int) % 256 = ((wordByte x q).toNat : Int) := by
  rw [← wordByte_eq x q D hD, IntKind.wrap_u8]
theorem wordByte_mod3 (x : UInt32) : (x.toNat : Int) % 256 = ((wordByte x 3).toNat : Int) := by
  rw [← wordByte_mod x 3 1 rfl]; simp

set_option maxRecDepth 100000 in
set_option maxHeartbeats 4000000 in
theorem sha_sum (b : Nat) (s : SS) (w : World) (h : StateAt w b s) (hL : Laid w) (hn : s.n ≤ 1152921504606846976) :
    Calls Tryd.prog 78 #[.pointer (some ⟨b, 0, none⟩)] w fun e w' => e = .returned (hashV s.sum.hash) ∧ Chg [] w w' := by
  obtain ⟨iu, hiu, hiuz, hius, hiub⟩ := info_parts Tryd.infoU8
  obtain ⟨Z, hZ, hz, hs, h1⟩ := zeroHash
  obtain ⟨E, hzE, hsE, _⟩ := zeroState
  have hnx := heap_alloc_new w (.cells Z 32)
  have CA := Chg.alloc [] w (.cells Z 32)
  have hS1 := h.chg CA (by simp)
  have hL1 := hL.chg CA (by simp)
  have hgs : (w.alloc (.cells Z 32)).heap.size = w.heap.size + 1 := by simp
  have hbw := h.lt
  have hL0 := hL.size
  have HZ := Lib.hid hZ
  clear hZ h1 hL
  go_enter Tryd.func78, Tryd.ntmps78
  go_wp2_with fail
  refine (sha_is b s _ hS1).mono ?_
  rintro r w' ⟨rfl, rfl⟩
  clear hz
  generalize w.alloc (.cells Z 32) = w1 at *
  obtain ⟨gh, hgh⟩ : ∃ gh, w.heap.size = gh := ⟨_, rfl⟩
  rw [hgh] at hnx hgs hbw ⊢
  have HGH := Lib.hid hgh
  clear hgh h
  have hld := run_loadAt_cut (P := Tryd.prog) w1 170 b 0 74 s.cell _ Tryd.underlying170 rfl infoState (fun j hj => by rw [Nat.zero_add]; exact hS1.at j hj)
  have hcell : cut s.cell 0 74 = s.cells := rfl
  rw [hcell] at hld
  have hsz : s.cells.size = 74 := cut_size _ _ _
  have hst := run_storeAt_new (P := Tryd.prog) w1 170 E s.cells (by rw [hsz]; exact infoState) (by rw [hsz, hsE]) s.cells_one
  have hne := heap_alloc_new w1 (.cells s.cells 170)
  have CE := Chg.alloc [] w1 (.cells s.cells 170)
  have hS2 := hS1.chg CE (by simp)
  have hL2 := hL1.chg CE (by simp)
  have hn2 := CE.block gh (by rw [hgs]; omega) (by simp)
  rw [hnx] at hn2
  have D2 := CA.trans CE (by simp)
  have hgs2 : (w1.alloc (.cells s.cells 170)).heap.size = gh + 2 := by simp; omega
  obtain ⟨SC, hSC⟩ : ∃ SC, s.cells = SC := ⟨_, rfl⟩
  rw [hSC] at hld hst
  rw [hgs] at hne hst
  have HLD := Lib.hid hld
  have HST := Lib.hid hst
  have hfin : StateAt (w1.alloc (.cells SC 170)) (gh + 1) s := by rw [← hSC]; exact hne
  rw [hSC] at hS2 hL2 hn2 D2 hgs2
  clear hld hst hcell hsz hne CE hS1 hL1 CA hnx hSC
  go_upto_region 3 with (fail)
  go_upto_region 4 with (first | (refine wpList_load_x _ rfl 170 _ rfl (.agg SC) HLD.out ?_) | (refine wpList_store_x _ rfl 170 (.tmp 3) (.tmp 16) rfl _ HST.out ?_))
  generalize w1.alloc (.cells SC 170) = w2 at *
  obtain ⟨N, hN⟩ : ∃ N, s.n = N := ⟨_, rfl⟩
  have cn := hS2.nAt
  rw [hN] at cn hn
  obtain ⟨m, hm⟩ : ∃ m, (119 - N % 64) % 64 = m := ⟨_, rfl⟩
  have hm64 : m < 64 := by omega
  have hm' : (119 - (N : Int) % 64) % 64 = (m : Int) := by rw [← hm]; omega
  have hN8 : (N : Int) * 8 ≤ 18446744073709551615 := by omega
  have HN := Lib.hid hN
  have HM := Lib.hid hm
  have HLD2 := HLD
  clear hN hm HLD HST HLD2 hgs hzE hsE
  have hl1 := heap_alloc_new w2 (.cells #[.int .u8 128] 5)
  have CL := Chg.alloc [] w2 (.cells #[.int .u8 128] 5)
  have hown : (w2.alloc (.cells #[.int .u8 128] 5)).ownsRow 0 5 1 (.slice (some ⟨w2.heap.size, 0, none⟩) 1 1) 1 (bvs [128]) :=
    ⟨rfl, .inr ⟨_, 1, _, rfl, Nat.zero_le _, hl1, by omega, by decide, rfl, rfl⟩⟩
  rw [hgs2] at hown
  have cn2 := CL.cell_some cn (by simp)
  clear hl1
  go_upto_region 5 with (fail)
  go_wp2_with (at_builtin; (refine wpList_zeros_x _ rfl (.tmp 23) (.tmp 30) 25 3 rfl 5 iu (.int .u8 0) Tryd.underlying25 Tryd.underlying3 hiu hiuz hius hiub rfl (gh + 2) 1 1 (bvs [128]) ?_ hown m ?_ (by omega) (by decide) rfl ?_); rfl; exact congrArg (Value.int .i64) hm')
  intro g1 c1 wm hown1 CM hg1
  have DM : Chg [] w2 wm := CL.trans CM (by simp)
  have hg1' : gh + 2 ≤ g1 := by rcases hg1 with h | h <;> (try simp only [World.size_alloc] at h) <;> omega
  have hzz : List.replicate m (Value.int .u8 0) = bvs (List.replicate m 0) := by simp [bvs, bv]
  rw [hzz, ← bvs_append] at hown1
  clear hown cn cn2 CL CM hg1 hzz
  have X8 : N * 8 < 18446744073709551616 := by omega
  obtain ⟨X, hX⟩ : ∃ X, N * 8 = X := ⟨_, rfl⟩
  have hXi : (N : Int) * 8 = (X : Int) := by omega
  rw [hX] at X8
  have HX := Lib.hid hX
  clear hX
  go_wp2_with fail
  go_loopw [5, 6] (fun v i wr => ∃ (j c g : Nat) (z : Int), v = .slice (some ⟨g, 0, none⟩) (1 + m + j) c ∧ i = .int .i64 z ∧ z + 8 * (j : Int) = 56 ∧ j ≤ 8 ∧ wr.ownsRow 0 5 1 (.slice (some ⟨g, 0, none⟩) (1 + m + j) c) (1 + m + j) (bvs ([128] ++ List.replicate m 0 ++ (be64 X).take j)) ∧ Chg [] w2 wr ∧ gh + 2 ≤ g) (fun _ i _ => (intOf i + 8).toNat)
  case atStart => exact ⟨0, c1, g1, 56, rfl, rfl, by omega, by omega, by simpa using hown1, DM, hg1'⟩
  case round =>
    obtain ⟨j, c, g, z, rfl, rfl, hz8, hj, ho, C, hg⟩ := hrel
    clear hown1 DM hg1'
    by_cases hj8 : j < 8
    · obtain ⟨k, rfl⟩ : ∃ k : Nat, z = k := ⟨z.toNat, by omega⟩
      have hk0 : (0 : Int) ≤ k := by omega
      have hkk : k = 56 - 8 * j := by omega
      have htk : (be64 X).take (j + 1) = (be64 X).take j ++ [UInt8.ofNat (X / 2 ^ k)] := by
        have hl : j < (be64 X).length := by simp [be64]; omega
        rw [List.take_succ_eq_append_getElem hl]
        congr 2
        simp [be64, hkk]
      have HTK := Lib.hid htk
      have HKK := Lib.hid hkk
      have hv : IntKind.u8.wrap ((N : Int) * 8 / 2 ^ k) = ((UInt8.ofNat (X / 2 ^ k)).toNat : Int) := by
        rw [UInt8.toNat_ofNat', hXi]
        have : (X : Int) / 2 ^ k = ((X / 2 ^ k : Nat) : Int) := by simp
        rw [this, IntKind.wrap_u8]
        rfl
      obtain ⟨Y, hY⟩ : ∃ Y, UInt8.ofNat (X / 2 ^ k) = Y := ⟨_, rfl⟩
      rw [hY] at hv
      have HY := Lib.hid hY
      clear htk hkk hY
      have hk63 : (k : Int) < 64 := by omega
      have hl := ownsRow_lt ho
      have CA := Chg.alloc [] wr (.cells #[.int .u8 Y.toNat] 5)
      have hnx := heap_alloc_new wr (.cells #[.int .u8 Y.toNat] 5)
      have hsrc : Src (wr.alloc (.cells #[.int .u8 Y.toNat] 5)) (some ⟨wr.heap.size, 0, none⟩) (bvs [Y]) := by
        refine ⟨fun h => by (cases h), fun q hq x u hu => ?_⟩
        cases hq
        rw [addr_add0, cell_of_row _ _ x _ _ _ hnx, ← Array.getElem?_toList]
        exact hu
      have HXI := Lib.hid hXi
      clear hXi
      go_wp2_with (at_builtin; (refine wpList_append_x _ rfl _ _ 25 rfl 5 iu (.int .u8 0) 1 1 Tryd.underlying25 hiu hiuz hius hiub rfl (by decide) (.slice (some ⟨g, 0, none⟩) (1 + m + j) c) (1 + m + j) (bvs ([128] ++ List.replicate m 0 ++ (be64 X).take j)) rfl (ownsRow_chg ho CA (by simp)) (some ⟨wr.heap.size, 0, none⟩) 1 1 (bvs [Y]) rfl rfl hsrc (fun h => by cases h) (bvs_one _) (by unfold maxLen; omega) (by omega) ?_))
      intro ao' c' wq hown2 hgr hblk
      go_wp2_with fail
      obtain ⟨g', rfl⟩ := ownsRow_head hown2 (by omega)
      have C2 : Chg [] w2 wq := (C.trans CA (by simp)).trans (Chg.grown hgr (S := [g]) (by intro q hq; left; simp [Value.ownBlock] at hq; simp [hq])) (by intro q hq; right; simp at hq; omega)
      have hg2 : gh + 2 ≤ g' := by
        have h0 := C.size
        rcases hblk with h1 | h1
        · have := Option.some.inj h1
          dsimp only at this; omega
        · have := Option.some.inj h1
          dsimp only at this
          try simp only [World.size_alloc] at this
          omega
      go_roundw
      case rel => exact ⟨j + 1, c', g', (k : Int) - 8, rfl, rfl, by omega, by omega, by
        have e : bvs ([128] ++ List.replicate m 0 ++ (be64 X).take (j + 1)) = bvs ([128] ++ List.replicate m 0 ++ (be64 X).take j) ++ bvs [Y] := by rw [HTK.out, HY.out, ← bvs_append, List.append_assoc, List.append_assoc, List.append_assoc]
        rw [e]
        exact hown2, C2, hg2⟩
      case measure => simp [intOf]; omega
    · obtain rfl : j = 8 := by omega
      have hz : z = -8 := by omega
      subst hz
      have hpad : padOf N = [128] ++ List.replicate m 0 ++ be64 X := by rw [padOf_small N (by have := HX.out; omega), HM.out, HX.out]
      have hpl : (padOf N).length = 1 + m + 8 := by rw [hpad, List.length_append, List.length_append, be64_length, List.length_replicate]; rfl
      rw [List.take_of_length_le (by rw [be64_length]; omega), ← hpad] at ho
      have hSE := hfin.chg C (by simp)
      have hLE := hL2.chg C (by simp)
      have hcc : 1 + m + 8 ≤ c := by
        obtain ⟨_, _, e1, e2, _⟩ := ownsRow_slice ho
        simp only [Value.slice.injEq] at e1
        omega
      have k1 := sha_write (gh + 1) s (some ⟨g, 0, none⟩) c (padOf N) wr hSE hLE (by have := HGH.out; omega) (ownsRow_src ho) (fun a ha => by cases ha; show g ≠ gh + 1; omega) (by rw [hpl]; exact hcc) (by rw [HN.out, hpl]; omega)
      rw [hpl] at k1
      have hn3 := C.block gh (by rw [hgs2]; omega) (by simp)
      rw [hn2] at hn3
      have D3 := D2.trans C (by simp)
      have HPL := Lib.hid hpl
      clear hpad hpl ho hSE hLE hn2 hfin
      go_wp2_with fail
      refine k1.mono ?_
      clear k1
      rintro r w4 ⟨rfl, hS4, C4⟩
      obtain ⟨S, hS⟩ : ∃ S, s.eat (padOf N) = S := ⟨_, rfl⟩
      rw [hS] at hS4
      have HS := Lib.hid hS
      have hn4 := C4.block gh (by have h1 := C.size; omega) (by simp)
      rw [hn3] at hn4
      have D4 : Chg [] w w4 := D3.trans C4 (fun k hk => by simp at hk; subst hk; right; have := HGH.out; omega)
      clear hS C4 D3 hn3 C hcc
      have hld := run_loadAt_cut (P := Tryd.prog) w4 115 (gh + 1) 0 8 (fun i => wv (S.wd i)) _ Tryd.underlying115 rfl (by kernel_rfl) (fun j hj => by rw [Nat.zero_add]; exact hS4.wdAt j hj)
      have hix : ∀ k : Nat, k < 8 → ∀ w : World, (Instr.index 115 (.agg (cut (fun i => wv (S.wd i)) 0 8)) (.int .i64 k)).run Tryd.prog w = .ok (.int .u32 (S.wd k).toNat) w := fun k hk w => by
        have := run_index_cut1 (P := Tryd.prog) w 115 _ 8 8 0 (fun i => wv (S.wd i)) _ Tryd.underlying115 Tryd.underlying73 rfl (by kernel_rfl) k hk hk
        rw [this, Nat.zero_add]; rfl
      generalize cut (fun i => wv (S.wd i)) 0 8 = WV at *
      have HIX := Lib.hid hix
      have HLD := Lib.hid hld
      clear hix hld
      go_wp2_with (refine wpList_load_x _ rfl 115 _ rfl (.agg WV) HLD.out ?_)
      have hh0 : w4.heap[gh]? = some (.cells (hashC (fun _ => 0)) 32 (0, 0)) := by rw [← HZ.out]; exact hn4
      clear hn4
      go_loopw [47] (fun i wr => ∃ (a : Nat) (f : Nat → UInt8), i = .int .i64 a ∧ a ≤ 8 ∧ wr.heap[gh]? = some (.cells (hashC f) 32 (0, 0)) ∧ (∀ j, j < 4 * a → f j = S.hash j) ∧ Chg [] w wr) (fun i _ => 8 - (intOf i).toNat)
      case atStart => exact ⟨0, _, rfl, by omega, hh0, fun j hj => by omega, D4⟩
      case round =>
        obtain ⟨a, f, rfl, ha, hh, hf, C⟩ := hrel
        clear hh0 D4
        by_cases ha8 : a < 8
        · have ha8' : (a : Int) < 8 := by omega
          have K1 := Lib.hid (HIX.out a ha8)
          have HF := Lib.hid hf
          have hh0 := Lib.hid hh
          clear hf hh
          go_wp2_with (refine wpList_index_x _ rfl 115 _ _ rfl _ (K1.out _) ?_)
          go_loopw [51] (fun i wr => ∃ (q : Nat) (f : Nat → UInt8), i = .int .i64 q ∧ q ≤ 4 ∧ Hid (wr.heap[gh]? = some (.cells (hashC f) 32 (0, 0))) ∧ Hid (∀ j, j < 4 * a + q → f j = S.hash j) ∧ Chg [] w wr) (fun i _ => 4 - (intOf i).toNat)
          case atStart => exact ⟨0, f, rfl, by omega, hh0, Lib.hid (fun j hj => HF.out j (by omega)), C⟩
          case round =>
            obtain ⟨q, f, rfl, hq, hh, hf, C⟩ := hrel
            by_cases hq4 : q < 4
            · have hcell : wr.cell? ⟨gh, 4 * a + q, none⟩ = some (bv (f (4 * a + q))) := by rw [cell_of_row _ _ _ _ _ _ hh.out, hashC, cut_get _ _ _ _ (by omega), Nat.zero_add]
              have hfr : wr.frozen? ⟨gh, 4 * a + q, none⟩ = false := frozen_of_row _ _ _ _ _ hh.out
              have hb : wordByte (S.wd a) q = S.hash (4 * a + q) := by
                unfold SS.hash
                rw [show (4 * a + q) / 4 = a by omega, show (4 * a + q) % 4 = q by omega]
              have HB := Lib.hid hb
              have hset := Lib.hid (hash_set hh.out (4 * a + q) (wordByte (S.wd a) q))
              have C2 : Chg [] w (wr.setCell ⟨gh, 4 * a + q, none⟩ (.int .u8 (wordByte (S.wd a) q).toNat)) := C.trans (Chg.setCell (S := [gh]) _ _ _ (.inl (by simp))) (fun k hk => by simp at hk; subst hk; right; have := HGH.out; omega)
              have hidx : (4 * (a : Int) + q) < 32 := by omega
              unfold bv at hcell
              clear hb hh C
              have h4 : q = 0 ∨ q = 1 ∨ q = 2 ∨ q = 3 := by omega
              have w0 := wordByte_mod (S.wd a) 0 16777216 rfl
              have w1 := wordByte_mod (S.wd a) 1 65536 rfl
              have w2 := wordByte_mod (S.wd a) 2 256 rfl
              have w3 := wordByte_mod3 (S.wd a)
              rw [show ((16777216 : Nat) : Int) = 16777216 from rfl] at w0
              rw [show ((65536 : Nat) : Int) = 65536 from rfl] at w1
              rw [show ((256 : Nat) : Int) = 256 from rfl] at w2
              generalize f (4 * a + q) = old at *
              rcases h4 with rfl | rfl | rfl | rfl
              · clear w1 w2 w3
                rw [Nat.add_zero] at hcell hfr hset HB C2
                go_wp2_with fail
                go_roundw
                case rel => exact ⟨1, _, rfl, by omega, hset, Lib.hid (fun j hj => by
                  by_cases hjk : j = 4 * a
                  · subst hjk; rw [if_pos rfl]; exact HB.out
                  · rw [if_neg hjk]; exact hf.out j (by omega)), C2⟩
                case measure => simp [intOf]
              · clear w0 w2 w3
                go_wp2_with fail
                go_roundw
                case rel => exact ⟨2, _, rfl, by omega, hset, Lib.hid (fun j hj => by
                  by_cases hjk : j = 4 * a + 1
                  · subst hjk; rw [if_pos rfl]; exact HB.out
                  · rw [if_neg hjk]; exact hf.out j (by omega)), C2⟩
                case measure => simp [intOf]
              · clear w0 w1 w3
                go_wp2_with fail
                go_roundw
                case rel => exact ⟨3, _, rfl, by omega, hset, Lib.hid (fun j hj => by
                  by_cases hjk : j = 4 * a + 2
                  · subst hjk; rw [if_pos rfl]; exact HB.out
                  · rw [if_neg hjk]; exact hf.out j (by omega)), C2⟩
                case measure => simp [intOf]
              · clear w0 w1 w2
                go_wp2_with fail
                go_roundw
                case rel => exact ⟨4, _, rfl, by omega, hset, Lib.hid (fun j hj => by
                  by_cases hjk : j = 4 * a + 3
                  · subst hjk; rw [if_pos rfl]; exact HB.out
                  · rw [if_neg hjk]; exact hf.out j (by omega)), C2⟩
                case measure => simp [intOf]
            · have hq4' : q = 4 := by omega
              subst hq4'
              go_wp2_with fail
              go_roundw
              case rel => exact ⟨a + 1, f, by go_num, by omega, hh.out, fun j hj => hf.out j (by omega), C⟩
              case measure => simp [intOf]; omega
        · obtain rfl : a = 8 := by omega
          have hfh : hashC f = hashC S.hash := words8 (fun i hi => hf i (by omega))
          rw [hfh] at hh
          have hsum : s.sum = S := by unfold SS.sum; rw [HN.out]; exact HS.out
          have HSUM := Lib.hid hsum
          obtain ⟨R, hR⟩ : ∃ R, hashC S.hash = R := ⟨_, rfl⟩
          have hRs : R.size = 32 := by rw [← hR]; exact hashC_size _
          have hR1 : R.all (·.oneCell') = true := by rw [← hR]; exact hashC_one _
          rw [hR] at hh
          have hld := run_load_hash _ _ _ _ _ hh hRs
          have hst := run_storeAt_row (P := Tryd.prog) _ gh _ 32 R R hh (by rw [hRs]; exact infoHash) rfl hR1
          rw [setRow_self _ gh R _ _ hh] at hst
          have HLD := Lib.hid hld
          have HST := Lib.hid hst
          have HR := Lib.hid hR
          clear hld hst hR hR1 hf hfh hsum
          go_wp2_with (first | (refine wpList_load_x _ rfl 32 _ rfl (.agg R) HLD.out ?_) | (refine wpList_store_x _ rfl 32 (.tmp 2) (.tmp 67) rfl _ HST.out ?_))
          exact bodyPost_ret (v := .agg R) (results_cell_row rfl _ _ _ _ R _ _ rfl hh Tryd.underlying32 rfl (by rw [hRs]; exact infoHash)) rfl ⟨by rw [hashV, HSUM.out, HR.out], C⟩
end Go.Proofs.YtfdhpjflkimihaaDoor
