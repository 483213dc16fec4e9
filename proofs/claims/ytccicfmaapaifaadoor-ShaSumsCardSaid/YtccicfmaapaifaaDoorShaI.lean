/- What Of of the package sha does to memory. No conditions beyond those that each statement types. -/
import Derived.Test.YtccicfmaapaifaaDoorShaE
import Derived.Test.YtccicfmaapaifaaDoorShaG
import Derived.Laws.ResultCell
namespace Go.Proofs.YtccicfmaapaifaaDoor
open Go.RowKit

/-- What a text's byte counts as a digit; 16: it is none. -/
def undig (c : UInt8) : Nat := if 48 ≤ c.toNat ∧ c.toNat ≤ 57 then c.toNat - 48 else if 97 ≤ c.toNat ∧ c.toNat ≤ 102 then c.toNat - 87 else 16
theorem undig_index (c : UInt8) : Lib.indexByte digL c = if undig c < 16 then (undig c : Int) else -1 := by
  have h : ∀ n : Fin 256, Lib.indexByte digL (UInt8.ofNat n.val) = if undig (UInt8.ofNat n.val) < 16 then (undig (UInt8.ofNat n.val) : Int) else -1 := by decide +kernel
  have := h ⟨c.toNat, c.toNat_lt⟩
  simpa using this

theorem dig_lookup (c : UInt8) (w : World) :
    Calls Tryd.prog 20 #[.string ⟨#[48, 49, 50, 51, 52, 53, 54, 55, 56, 57, 97, 98, 99, 100, 101, 102]⟩, .int .u8 c.toNat] w fun e w' => e = .returned (.int .i64 (if undig c < 16 then (undig c : Int) else -1)) ∧ w = w' := by
  have h := Tryd.strings_IndexByte ⟨#[48, 49, 50, 51, 52, 53, 54, 55, 56, 57, 97, 98, 99, 100, 101, 102]⟩ c.toNat w
  refine h.mono ?_
  rintro e w' ⟨rfl, rfl⟩
  refine ⟨?_, rfl⟩
  rw [← undig_index]
  have e : ((c.toNat : Int).toNat).toUInt8 = c := by simp
  rw [e]
  rfl

/-- The digest that a text's first k bytes make; the first byte that is no digit ends it. -/
def ofTo (s : List UInt8) : Nat → Nat → UInt8
  | 0 => fun _ => 0
  | k + 1 => fun j => if j = k / 2 then UInt8.ofNat (((ofTo s k (k / 2)).toNat * 16) % 256 ||| undig (s.getD k 0)) else ofTo s k j
def allDig (s : List UInt8) : Bool := s.all fun c => decide (undig c < 16)
def ofOk (s : List UInt8) : Bool := decide (s.length = 64) && allDig s
def ofV (s : List UInt8) : Nat → UInt8 := if ofOk s then ofTo s 64 else fun _ => 0

theorem or_u8 (x y : Nat) (hx : x < 256) (hy : y < 256) : bits .or .u8 (x : Int) (y : Int) = ((x ||| y : Nat) : Int) := by
  have h1 : (BitVec.ofInt 8 (x : Int)).toNat = x := by rw [BitVec.ofInt_natCast, BitVec.toNat_ofNat]; exact Nat.mod_eq_of_lt hx
  have h2 : (BitVec.ofInt 8 (y : Int)).toNat = y := by rw [BitVec.ofInt_natCast, BitVec.toNat_ofNat]; exact Nat.mod_eq_of_lt hy
  show IntKind.u8.wrap ((BitVec.ofInt 8 (x : Int) ||| BitVec.ofInt 8 (y : Int)).toNat : Int) = _
  rw [BitVec.toNat_or, h1, h2, IntKind.wrap_u8]
  have : x ||| y < 2 ^ 8 := Nat.or_lt_two_pow hx hy
  omega

theorem results_hash_tmp {fn : Func} {p u : Tmp} (h : fn.results = #[.cell p 23, .tmp u]) (tmps : Array Value) (w : World) (g : Nat) (t : TypeId) (cs : Array Value) (fr : Nat × Nat) (v : Value)
    (hp : tmps.getD p undef = .pointer (some ⟨g, 0, none⟩)) (hv : tmps.getD u undef = v) (hg : w.heap[g]? = some (.cells cs t fr)) (hs : cs.size = 32) :
    (results fn tmps).run Tryd.prog w = .ok (.tuple #[.agg cs, v]) w := by
  have h1 := run_loadVar_row (P := Tryd.prog) w g t 23 cs fr _ hg Tryd.underlying23 rfl (by rw [hs]; exact infoHash)
  rw [results_cell_tmp h, hp, hv]
  have h2 : (asAddr (.pointer (some ⟨g, 0, none⟩))).run Tryd.prog w = .ok ⟨g, 0, none⟩ w := rfl
  rw [h2]
  simp only [Result.andThen, h1]

set_option maxRecDepth 100000 in
set_option maxHeartbeats 2000000 in
theorem sha_of_short (s : ByteArray) (w : World) (hs : s.size ≠ 64) (hm : s.size ≤ 9223372036854775807) :
    Calls Tryd.prog 9 #[.string s] w fun e w' => e = .returned (.tuple #[hashV (fun _ => 0), .bool false]) ∧ Chg [] w w' := by
  obtain ⟨Z, hZ, hz, hsz, h1⟩ := zeroHash
  have hn0 := heap_alloc_new w (.cells Z 23)
  have hn1 := heap_alloc_new (w.alloc (.cells Z 23)) (.cells Z 23)
  have C1 := Chg.alloc [] (w.alloc (.cells Z 23)) (.cells Z 23)
  have C0 := (Chg.alloc [] w (.cells Z 23)).trans C1 (by simp)
  have hn2 := C1.block w.heap.size (by simp) (by simp)
  rw [hn0] at hn2
  rw [World.size_alloc] at hn1
  have hld := run_load_hash _ _ _ _ _ hn1 hsz
  have hst := run_storeAt_row (P := Tryd.prog) _ w.heap.size _ 23 Z Z hn2 (by rw [hsz]; exact infoHash) rfl h1
  rw [setRow_self _ _ Z _ _ hn2] at hst
  have hne : ((s.size : Int) != 64) = true := by simp; omega
  unfold hashV
  rw [← hZ]
  have HLD := Lib.hid hld
  have HST := Lib.hid hst
  clear hZ hld hst h1 hs C1 hn0 hn1
  go_enter Tryd.func9, Tryd.ntmps9
  go_wp2_with (first | (refine wpList_load_x _ rfl 23 _ rfl (.agg Z) HLD.out ?_) | (refine wpList_store_x _ rfl 23 (.tmp 2) (.tmp 10) rfl _ HST.out ?_))
  exact bodyPost_ret (v := .tuple #[.agg Z, .bool false]) (results_hash_tmp rfl _ _ w.heap.size _ Z _ _ rfl rfl hn2 hsz) rfl ⟨rfl, C0⟩

set_option maxRecDepth 100000 in
set_option maxHeartbeats 4000000 in
theorem sha_of_long (s : ByteArray) (w : World) (hs : s.size = 64) :
    Calls Tryd.prog 9 #[.string s] w fun e w' => e = .returned (.tuple #[hashV (ofV s.data.toList), .bool (ofOk s.data.toList)]) ∧ Chg [] w w' := by
  obtain ⟨Z, hZ, hz, hsz, h1⟩ := zeroHash
  have hn0 := heap_alloc_new w (.cells Z 23)
  have hn1 := heap_alloc_new (w.alloc (.cells Z 23)) (.cells Z 23)
  have C1 := Chg.alloc [] (w.alloc (.cells Z 23)) (.cells Z 23)
  have C0 := (Chg.alloc [] w (.cells Z 23)).trans C1 (by simp)
  have hn2 := C1.block w.heap.size (by simp) (by simp)
  rw [hn0] at hn2
  rw [World.size_alloc] at hn1
  have hl : s.data.toList.length = 64 := by rw [← hs]; rfl
  have HL := Lib.hid hl
  have HS := Lib.hid hs
  have hs64 : (s.size : Int) = 64 := by omega
  have hne : ((s.size : Int) != 64) = false := by simp; omega
  have HZ := Lib.hid hZ
  have hbz : ∀ w : World, (Instr.build 23 #[]).run Tryd.prog w = .ok (.agg Z) w := by
    rw [hZ]
    exact fun _ => by kernel_rfl
  have HBZ := Lib.hid hbz
  have H1 := Lib.hid h1
  clear hZ h1 hs C1 hn0 hl hbz
  go_enter Tryd.func9, Tryd.ntmps9
  go_wp2_with fail
  clear hz
  generalize (w.alloc (.cells Z 23)).alloc (.cells Z 23) = w2 at *
  obtain ⟨g, hg⟩ : ∃ g, w.heap.size = g := ⟨_, rfl⟩
  rw [hg] at hn1 hn2 ⊢
  have HG := Lib.hid hg
  clear hg
  obtain ⟨L, hL⟩ : ∃ L, s.data.toList = L := ⟨_, rfl⟩
  rw [hL] at HL
  have HLL := Lib.hid hL
  clear hL
  have hh1 : Hid (w2.heap[g + 1]? = some (.cells (hashC (ofTo L 0)) 23 (0, 0))) := Lib.hid (by rw [hn1, HZ.out]; rfl)
  have hh0 := Lib.hid hn2
  clear hn1 hn2
  go_loopw [13] (fun i wr => ∃ k : Nat, i = .int .i64 k ∧ k ≤ 64 ∧ Hid (wr.heap[g + 1]? = some (.cells (hashC (ofTo L k)) 23 (0, 0))) ∧ Hid (wr.heap[g]? = some (.cells Z 23 (0, 0))) ∧ Hid (∀ j, j < k → undig (L.getD j 0) < 16) ∧ Chg [] w wr) (fun i _ => 64 - (intOf i).toNat)
  case atStart => exact ⟨0, rfl, by omega, hh1, hh0, Lib.hid (fun j hj => by omega), C0⟩
  case round =>
    obtain ⟨k, rfl, hk, h1, h0, hall, C⟩ := hrel
    clear hh1 hh0 C0
    by_cases hlt : k < 64
    · have hlt' : (k : Int) < 64 := by omega
      have hks : k < s.size := by rw [HS.out]; exact hlt
      have hch : L.getD k 0 = s[k] := by
        rw [← HLL.out, List.getD_eq_getElem?_getD, List.getElem?_eq_getElem (by rw [HLL.out, HL.out]; exact hlt)]
        rfl
      have hcall := dig_lookup s[k] wr
      rw [← hch] at hcall
      have HCH := Lib.hid hch
      have hchn : (s[k].toNat : Int) = ((L.getD k 0).toNat : Int) := by rw [hch]
      generalize hc : L.getD k 0 = ch at *
      have HC := Lib.hid hc
      clear hch hc
      by_cases hu : undig ch < 16
      · rw [if_pos hu] at hcall
        obtain ⟨q, hq⟩ : ∃ q, undig ch = q := ⟨_, rfl⟩
        rw [hq] at hcall hu
        have HQ := Lib.hid hq
        have hk2 : k / 2 < 32 := by omega
        have hcell : wr.cell? ⟨g + 1, k / 2, none⟩ = some (bv (ofTo L k (k / 2))) := by rw [cell_of_row _ _ _ _ _ _ h1.out, hashC, cut_get _ _ _ _ (by omega), Nat.zero_add]
        have hfr : wr.frozen? ⟨g + 1, k / 2, none⟩ = false := frozen_of_row _ _ _ _ _ h1.out
        obtain ⟨old, hold⟩ : ∃ old, ofTo L k (k / 2) = old := ⟨_, rfl⟩
        rw [hold] at hcell
        have HOLD := Lib.hid hold
        have ho := old.toNat_lt
        have hval : bits .or .u8 ((old.toNat : Int) * 16 % 256) (q : Int) = ((UInt8.ofNat ((old.toNat * 16) % 256 ||| q)).toNat : Int) := by
          have e : (old.toNat : Int) * 16 % 256 = ((old.toNat * 16 % 256 : Nat) : Int) := by simp
          have h2 : old.toNat * 16 % 256 ||| q < 2 ^ 8 := Nat.or_lt_two_pow (by omega) (by omega)
          rw [e, or_u8 _ _ (by omega) (by omega), UInt8.toNat_ofNat', Nat.mod_eq_of_lt h2]
        have hset := Lib.hid (hash_set h1.out (k / 2) (UInt8.ofNat ((old.toNat * 16) % 256 ||| q)))
        have hstep : ofTo L (k + 1) = fun j => if j = k / 2 then UInt8.ofNat ((old.toNat * 16) % 256 ||| q) else ofTo L k j := by
          show (fun j => if j = k / 2 then UInt8.ofNat (((ofTo L k (k / 2)).toNat * 16) % 256 ||| undig (L.getD k 0)) else ofTo L k j) = _
          rw [hold, HC.out, hq]
        have HSTEP := Lib.hid hstep
        obtain ⟨Y, hY⟩ : ∃ Y, UInt8.ofNat ((old.toNat * 16) % 256 ||| q) = Y := ⟨_, rfl⟩
        rw [hY] at hval
        have HY := Lib.hid hY
        have hq16 : (q : Int) < 16 := by omega
        have hq0 : (0 : Int) ≤ q := by omega
        have hk0 : (0 : Int) ≤ k := by omega
        unfold bv at hcell
        clear hq hold hstep hY
        go_wp2_with fail
        refine hcall.mono ?_
        rintro r w' ⟨rfl, rfl⟩
        go_wp2_with fail
        have h0' : (wr.setCell ⟨g + 1, k / 2, none⟩ (.int .u8 Y.toNat)).heap[g]? = some (.cells Z 23 (0, 0)) := by rw [heap_setCell_other _ _ _ _ (by simp)]; exact h0.out
        have H0' := Lib.hid h0'
        have C2 : Chg [] w (wr.setCell ⟨g + 1, k / 2, none⟩ (.int .u8 Y.toNat)) := C.trans (Chg.setCell (S := [g + 1]) _ _ _ (.inl (by simp))) (fun k hk => by simp at hk; subst hk; right; have := HG.out; omega)
        go_roundw
        case rel => exact ⟨k + 1, by go_num, by omega, Lib.hid (by rw [HSTEP.out, ← HY.out]; exact hset.out), H0', Lib.hid (fun j hj => by
          rcases Nat.lt_or_ge j k with h | h
          · exact hall.out j h
          · have : j = k := by omega
            subst this; rw [HC.out, HQ.out]; exact hu), C2⟩
        case measure => simp [intOf]; omega
      · rw [if_neg hu] at hcall
        have HU := Lib.hid hu
        clear hu
        have hst := run_storeAt_row (P := Tryd.prog) wr g _ 23 Z Z h0.out (by rw [hsz]; exact infoHash) rfl H1.out
        rw [setRow_self _ _ Z _ _ h0.out] at hst
        have HST := Lib.hid hst
        clear hst
        go_wp2_with fail
        refine hcall.mono ?_
        rintro r w' ⟨rfl, rfl⟩
        go_wp2_with (first | (refine wpList_build_x _ rfl 23 #[] rfl (.agg Z) #[] (by simp) (HBZ.out _) ?_) | (refine wpList_store_x _ rfl 23 (.tmp 2) (.tmp 22) rfl _ HST.out ?_))
        have hno : ofOk L = false := by
          unfold ofOk allDig
          rw [Bool.and_eq_false_iff]
          right
          rw [List.all_eq_false]
          refine ⟨ch, ?_, by simpa using HU.out⟩
          rw [← HC.out, List.getD_eq_getElem?_getD, List.getElem?_eq_getElem (by rw [HL.out]; exact hlt)]
          exact List.getElem_mem _
        exact bodyPost_ret (v := .tuple #[.agg Z, .bool false]) (results_hash_tmp rfl _ _ g _ Z _ _ rfl rfl h0.out hsz) rfl ⟨by rw [HLL.out, hno, ofV, hno, HZ.out]; rfl, C⟩
    · obtain rfl : k = 64 := by omega
      have hyes : ofOk L = true := by
        unfold ofOk allDig
        rw [Bool.and_eq_true, List.all_eq_true]
        refine ⟨by simp [HL.out], fun c hc => ?_⟩
        obtain ⟨j, hj, rfl⟩ := List.mem_iff_getElem.1 hc
        have := hall.out j (by rw [← HL.out]; exact hj)
        rw [List.getD_eq_getElem?_getD, List.getElem?_eq_getElem hj] at this
        simpa using this
      obtain ⟨R, hR⟩ : ∃ R, hashC (ofTo L 64) = R := ⟨_, rfl⟩
      have hRs : R.size = 32 := by rw [← hR]; exact hashC_size _
      have hR1 : R.all (·.oneCell') = true := by rw [← hR]; exact hashC_one _
      rw [hR] at h1
      have hld := run_load_hash _ _ _ _ _ h1.out hRs
      have hst := run_storeAt_row (P := Tryd.prog) wr g _ 23 Z R h0.out (by rw [hRs]; exact infoHash) (by rw [hsz, hRs]) hR1
      have hh := setRow_heap wr g _ R _ _ h0.out
      have HLD := Lib.hid hld
      have HST := Lib.hid hst
      have HH := Lib.hid hh
      have HR := Lib.hid hR
      have C2 : Chg [] w (wr.setRow g R) := C.trans (Chg.setRow (S := [g]) wr g R (.inl (by simp))) (fun k hk => by simp at hk; subst hk; right; have := HG.out; omega)
      clear hld hst hR hR1 hh
      rw [show ((64 : Nat) : Int) = 64 from rfl]
      go_wp2_with (first | (refine wpList_load_x _ rfl 23 _ rfl (.agg R) HLD.out ?_) | (refine wpList_store_x _ rfl 23 (.tmp 2) (.tmp 35) rfl _ HST.out ?_))
      exact bodyPost_ret (v := .tuple #[.agg R, .bool true]) (results_hash_tmp rfl _ _ g _ R _ _ rfl rfl HH.out hRs) rfl ⟨by rw [HLL.out, hyes, ofV, hyes, if_pos rfl, hashV, HR.out], C2⟩
end Go.Proofs.YtccicfmaapaifaaDoor
