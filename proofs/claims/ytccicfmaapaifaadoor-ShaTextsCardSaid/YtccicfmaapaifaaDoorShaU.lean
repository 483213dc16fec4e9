/- What Of of the reference of sha does to memory; it is the package's Of. No conditions beyond those that each statement types. -/
import Derived.Test.YtccicfmaapaifaaDoorShaS
namespace Go.Proofs.YtccicfmaapaifaaDoor
open Go.RowKit

def dgt (c : UInt8) : Nat := if 97 ≤ c.toNat then (c.toNat + 256 - 87) % 256 else (c.toNat + 256 - 48) % 256
def rTo (s : List UInt8) : Nat → Nat → UInt8
  | 0 => fun _ => 0
  | k + 1 => fun j => if j = k / 2 then UInt8.ofNat (16 * (rTo s k (k / 2)).toNat + dgt (s.getD k 0)) else rTo s k j
theorem dgt_undig : ∀ c : UInt8, undig c < 16 → dgt c = undig c := by
  have h : ∀ n : Fin 256, undig (UInt8.ofNat n.val) < 16 → dgt (UInt8.ofNat n.val) = undig (UInt8.ofNat n.val) := by decide +kernel
  intro c hc
  have := h ⟨c.toNat, c.toNat_lt⟩
  simp only [UInt8.ofNat_toNat] at this
  exact this hc
theorem mul_or : ∀ a b : Nat, b < 16 → UInt8.ofNat (16 * a + b) = UInt8.ofNat (a * 16 % 256 ||| b) := by
  intro a b hb
  have h : ∀ x : Fin 256, ∀ y : Fin 16, UInt8.ofNat (16 * x.val + y.val) = UInt8.ofNat (x.val * 16 % 256 ||| y.val) := by decide +kernel
  have := h ⟨a % 256, Nat.mod_lt _ (by decide)⟩ ⟨b, hb⟩
  simp only at this
  have e1 : UInt8.ofNat (16 * a + b) = UInt8.ofNat (16 * (a % 256) + b) := by
    apply UInt8.toNat_inj.1
    rw [UInt8.toNat_ofNat', UInt8.toNat_ofNat']
    omega
  have e2 : a * 16 % 256 = a % 256 * 16 % 256 := by omega
  rw [e1, this, e2]
theorem rTo_ofTo (s : List UInt8) (h : ∀ j, j < 64 → undig (s.getD j 0) < 16) : ∀ k, k ≤ 64 → rTo s k = ofTo s k
  | 0, _ => rfl
  | k + 1, hk => by
    have ih := rTo_ofTo s h k (by omega)
    funext j
    show (if j = k / 2 then UInt8.ofNat (16 * (rTo s k (k / 2)).toNat + dgt (s.getD k 0)) else rTo s k j) = if j = k / 2 then UInt8.ofNat (((ofTo s k (k / 2)).toNat * 16) % 256 ||| undig (s.getD k 0)) else ofTo s k j
    rw [ih, dgt_undig _ (h k (by omega)), mul_or _ _ (h k (by omega))]

/-- The answer. -/
theorem of_same (s : List UInt8) (n : Nat) (hn : n = min 64 s.length) :
    (textTo (rTo s n) 32 = s → ofOk s = true ∧ ofV s = rTo s n) ∧ (textTo (rTo s n) 32 ≠ s → ofOk s = false) := by
  have key : ofOk s = true → ofV s = rTo s n ∧ textTo (rTo s n) 32 = s := fun h => by
    have h2 := h
    unfold ofOk allDig at h2
    rw [Bool.and_eq_true, List.all_eq_true] at h2
    have hl : s.length = 64 := by simpa using h2.1
    have hd : ∀ j, j < 64 → undig (s.getD j 0) < 16 := fun j hj => by
      rw [List.getD_eq_getElem?_getD, List.getElem?_eq_getElem (by omega)]
      simpa using h2.2 _ (List.getElem_mem (by omega))
    have hn64 : n = 64 := by omega
    have e : ofV s = rTo s n := by
      unfold ofV
      rw [h, if_pos rfl, hn64, rTo_ofTo s hd 64 (Nat.le_refl _)]
    exact ⟨e, by rw [← e]; exact text_ofV s h⟩
  constructor
  · intro h
    have ho : ofOk s = true := by rw [← h]; exact ofOk_text _
    exact ⟨ho, (key ho).1⟩
  · intro h
    cases ho : ofOk s
    · rfl
    · exact absurd (key ho).2 h

set_option maxRecDepth 100000 in
set_option maxHeartbeats 4000000 in
theorem ref_of (s : ByteArray) (w : World) (hm : s.size ≤ 1000000) :
    Calls Tryd.prog 10 #[.string s] w fun e w' => e = .returned (.tuple #[hashV (ofV s.data.toList), .bool (ofOk s.data.toList)]) ∧ Chg [] w w' := by
  obtain ⟨Z, hZ, hz, hsz, h1⟩ := zeroHash
  have hn0 := heap_alloc_new w (.cells Z 23)
  have hn1 := heap_alloc_new (w.alloc (.cells Z 23)) (.cells Z 23)
  have C1 := Chg.alloc [] (w.alloc (.cells Z 23)) (.cells Z 23)
  have C0 := (Chg.alloc [] w (.cells Z 23)).trans C1 (by simp)
  have hn2 := C1.block w.heap.size (by simp) (by simp)
  rw [hn0] at hn2
  rw [World.size_alloc] at hn1
  obtain ⟨M, hM⟩ : ∃ M, s.size = M := ⟨_, rfl⟩
  have hl : s.data.toList.length = M := by rw [← hM]; rfl
  have HL := Lib.hid hl
  have HS := Lib.hid hM
  have HZ := Lib.hid hZ
  have hbz : ∀ w : World, (Instr.build 23 #[]).run Tryd.prog w = .ok (.agg Z) w := by
    rw [hZ]
    exact fun _ => by kernel_rfl
  have HBZ := Lib.hid hbz
  have H1 := Lib.hid h1
  have hMi : (M : Int) ≤ 1000000 := by omega
  clear hZ h1 C1 hn0 hl hbz
  go_enter Tryd.func10, Tryd.ntmps10
  go_wp2_with fail
  clear hz
  generalize (w.alloc (.cells Z 23)).alloc (.cells Z 23) = w2 at *
  obtain ⟨g, hg⟩ : ∃ g, w.heap.size = g := ⟨_, rfl⟩
  rw [hg] at hn1 hn2 ⊢
  have HG := Lib.hid hg
  clear hg
  obtain ⟨L, hL⟩ : ∃ L, s.data.toList = L := ⟨_, rfl⟩
  rw [hL] at HL
  have HLL := Lib.hid hL
  clear hL
  have hh1 : Hid (w2.heap[g + 1]? = some (.cells (hashC (rTo L 0)) 23 (0, 0))) := Lib.hid (by rw [hn1, HZ.out]; rfl)
  have hh0 := Lib.hid hn2
  clear hn1 hn2
  go_loopw [5, 6] (fun i _ wr => ∃ k : Nat, i = .int .i64 k ∧ k ≤ 64 ∧ k ≤ M ∧ Hid (wr.heap[g + 1]? = some (.cells (hashC (rTo L k)) 23 (0, 0))) ∧ Hid (wr.heap[g]? = some (.cells Z 23 (0, 0))) ∧ Chg [] w wr) (fun i _ _ => 64 - (intOf i).toNat)
  case atStart => exact ⟨0, rfl, by omega, by omega, hh1, hh0, C0⟩
  case round =>
    obtain ⟨k, rfl, hk, hkM, h1, h0, C⟩ := hrel
    clear hh1 hh0 C0
    by_cases hin : k < 64 ∧ k < M
    · obtain ⟨hlt, hltM⟩ := hin
      have hlt' : (k : Int) < 64 := by omega
      have hltM' : (k : Int) < M := by omega
      have hks : k < s.size := by rw [HS.out]; exact hltM
      have hch : L.getD k 0 = s[k] := by
        rw [← HLL.out, List.getD_eq_getElem?_getD, List.getElem?_eq_getElem (by rw [HLL.out, HL.out]; exact hltM)]
        rfl
      have hchn : (s[k].toNat : Int) = ((L.getD k 0).toNat : Int) := by rw [hch]
      have hc256 := (L.getD k 0).toNat_lt
      obtain ⟨c, hc⟩ : ∃ c, L.getD k 0 = c := ⟨_, rfl⟩
      rw [hc] at hchn hc256
      have HC := Lib.hid hc
      have hk2 : k / 2 < 32 := by omega
      have hcell : wr.cell? ⟨g + 1, k / 2, none⟩ = some (bv (rTo L k (k / 2))) := by rw [cell_of_row _ _ _ _ _ _ h1.out, hashC, cut_get _ _ _ _ (by omega), Nat.zero_add]
      have hfr : wr.frozen? ⟨g + 1, k / 2, none⟩ = false := frozen_of_row _ _ _ _ _ h1.out
      obtain ⟨old, hold⟩ : ∃ old, rTo L k (k / 2) = old := ⟨_, rfl⟩
      rw [hold] at hcell
      have ho := old.toNat_lt
      have hk0 : (0 : Int) ≤ k := by omega
      obtain ⟨Y, hY⟩ : ∃ Y, UInt8.ofNat (16 * old.toNat + dgt c) = Y := ⟨_, rfl⟩
      have hset := Lib.hid (hash_set h1.out (k / 2) Y)
      have hstep : rTo L (k + 1) = fun j => if j = k / 2 then Y else rTo L k j := by
        show (fun j => if j = k / 2 then UInt8.ofNat (16 * (rTo L k (k / 2)).toNat + dgt (L.getD k 0)) else rTo L k j) = _
        rw [hold, hc, hY]
      have HSTEP := Lib.hid hstep
      have hYn : (Y.toNat : Int) = (16 * (old.toNat : Int) + (dgt c : Int)) % 256 := by
        rw [← hY, UInt8.toNat_ofNat']
        omega
      have h0' : (wr.setCell ⟨g + 1, k / 2, none⟩ (.int .u8 Y.toNat)).heap[g]? = some (.cells Z 23 (0, 0)) := by rw [heap_setCell_other _ _ _ _ (by simp)]; exact h0.out
      have H0' := Lib.hid h0'
      have C2 : Chg [] w (wr.setCell ⟨g + 1, k / 2, none⟩ (.int .u8 Y.toNat)) := C.trans (Chg.setCell (S := [g + 1]) _ _ _ (.inl (by simp))) (fun k hk => by simp at hk; subst hk; right; have := HG.out; omega)
      unfold bv at hcell
      by_cases h97 : 97 ≤ c.toNat
      · have hge : (97 : Int) ≤ (c.toNat : Int) := by omega
        have hd : (dgt c : Int) = c.toNat - 87 := by unfold dgt; rw [if_pos h97]; omega
        have a0 : IntKind.u8.wrap ((c.toNat : Int) - 48) = c.toNat - 48 := by rw [IntKind.wrap_u8]; omega
        have a1 : IntKind.u8.wrap ((c.toNat : Int) - 97) = c.toNat - 97 := by rw [IntKind.wrap_u8]; omega
        have a2 : IntKind.u8.wrap ((c.toNat : Int) - 97 + 10) = c.toNat - 87 := by rw [IntKind.wrap_u8]; omega
        have a3 : IntKind.u8.wrap (IntKind.u8.wrap (16 * (old.toNat : Int)) + ((c.toNat : Int) - 87)) = Y.toNat := by rw [IntKind.wrap_u8, IntKind.wrap_u8, hYn, hd]; omega
        have a4 : (16 * (old.toNat : Int) % 256 + ((c.toNat : Int) - 87)) % 256 = Y.toNat := by rw [hYn, hd]; omega
        clear hold hstep hY hc hch hd hYn
        go_wp2_with fail
        go_roundw
        case rel => exact ⟨k + 1, by go_num, by omega, by omega, Lib.hid (by rw [HSTEP.out]; exact hset.out), H0', C2⟩
        case measure => simp [intOf]; omega
      · have hge : ¬ (97 : Int) ≤ (c.toNat : Int) := by omega
        have hd : (dgt c : Int) = ((c.toNat : Int) - 48) % 256 := by unfold dgt; rw [if_neg h97]; omega
        have a0 : IntKind.u8.wrap ((c.toNat : Int) - 48) = dgt c := by rw [IntKind.wrap_u8, hd]
        have a3 : IntKind.u8.wrap (IntKind.u8.wrap (16 * (old.toNat : Int)) + (dgt c : Int)) = Y.toNat := by rw [IntKind.wrap_u8, IntKind.wrap_u8, hYn]; omega
        have a4 : (16 * (old.toNat : Int) % 256 + (dgt c : Int)) % 256 = Y.toNat := by rw [hYn]; omega
        generalize dgt c = dc at *
        clear hold hstep hY hc hch hd hYn
        go_wp2_with fail
        go_roundw
        case rel => exact ⟨k + 1, by go_num, by omega, by omega, Lib.hid (by rw [HSTEP.out]; exact hset.out), H0', C2⟩
        case measure => simp [intOf]; omega
    · by_cases hlt : k < 64
      · have hkM2 : k = M := by omega
        have hlt' : (k : Int) < 64 := by omega
        have hnM : ¬ (k : Int) < M := by omega
        have hMs : (k : Int) = M := by omega
        have hn : k = min 64 L.length := by rw [HL.out]; omega
        obtain ⟨same1, same2⟩ := of_same L k hn
        have kt := ref_text (rTo L k)
        have hTs : (⟨(textTo (rTo L k) 32).toArray⟩ : ByteArray) = s ↔ textTo (rTo L k) 32 = L := by
          constructor
          · intro h
            have := congrArg (fun b : ByteArray => b.data.toList) h
            simpa [HLL.out] using this
          · intro h
            rw [h, ← HLL.out]
        obtain ⟨T, hT⟩ : ∃ T, (⟨(textTo (rTo L k) 32).toArray⟩ : ByteArray) = T := ⟨_, rfl⟩
        rw [hT] at kt hTs
        have hRv : hashV (rTo L k) = .agg (hashC (rTo L k)) := rfl
        rw [hRv] at kt
        obtain ⟨R, hR⟩ : ∃ R, hashC (rTo L k) = R := ⟨_, rfl⟩
        have hRs : R.size = 32 := by rw [← hR]; exact hashC_size _
        have hR1 : R.all (·.oneCell') = true := by rw [← hR]; exact hashC_one _
        rw [hR] at h1 kt
        have hld := run_load_hash _ _ _ _ _ h1.out hRs
        have HLD := Lib.hid hld
        have HR := Lib.hid hR
        have HR1 := Lib.hid hR1
        have KT := Lib.hid kt
        clear hld hR hR1 kt hRv hT hn
        by_cases ht : textTo (rTo L k) 32 = L
        · obtain ⟨ok1, ok2⟩ := same1 ht
          have hTe := hTs.2 ht
          have OK := Lib.hid ok1
          have OV := Lib.hid ok2
          subst hTe
          clear same1 same2 ht hTs ok1 ok2
          go_wp2_with (refine wpList_load_x _ rfl 23 _ rfl (.agg R) HLD.out ?_)
          refine (KT.out _).mono ?_
          rintro e w3 ⟨rfl, C3⟩
          have h13 := (C3.block (g + 1) (lt_of_block h1.out) (by simp)).trans h1.out
          have h03 := (C3.block g (lt_of_block h0.out) (by simp)).trans h0.out
          have hld := run_load_hash _ _ _ _ _ h13 hRs
          have hst := run_storeAt_row (P := Tryd.prog) w3 g _ 23 Z R h03 (by rw [hRs]; exact infoHash) (by rw [hsz, hRs]) HR1.out
          have hh := setRow_heap w3 g _ R _ _ h03
          have HLD3 := Lib.hid hld
          have HST := Lib.hid hst
          have HH := Lib.hid hh
          have C4 : Chg [] w (w3.setRow g R) := (C.trans C3 (by simp)).trans (Chg.setRow (S := [g]) w3 g R (.inl (by simp))) (fun k hk => by simp at hk; subst hk; right; have := HG.out; omega)
          clear hld hst hh h13 h03 KT
          go_wp2_with (first | (refine wpList_load_x _ rfl 23 _ rfl (.agg R) HLD3.out ?_) | (refine wpList_store_x _ rfl 23 (.tmp 2) (.tmp 45) rfl _ HST.out ?_))
          exact bodyPost_ret (v := .tuple #[.agg R, .bool true]) (results_hash_tmp rfl _ _ g _ R _ _ rfl rfl HH.out hRs) rfl ⟨by rw [HLL.out, OK.out, OV.out, hashV, HR.out], C4⟩
        · have hno := same2 ht
          have hTn : (T.toList == s.toList) = false := by
            rw [beq_eq_false_iff_ne, ByteArray.toList_eq, ByteArray.toList_eq]
            exact fun e => ht (hTs.1 (ByteArray.ext (Array.toList_inj.1 e)))
          have NO := Lib.hid hno
          clear same1 same2 ht hTs hno
          go_wp2_with (refine wpList_load_x _ rfl 23 _ rfl (.agg R) HLD.out ?_)
          refine (KT.out _).mono ?_
          rintro e w3 ⟨rfl, C3⟩
          have h03 := (C3.block g (lt_of_block h0.out) (by simp)).trans h0.out
          have hst := run_storeAt_row (P := Tryd.prog) w3 g _ 23 Z Z h03 (by rw [hsz]; exact infoHash) rfl H1.out
          rw [setRow_self _ _ Z _ _ h03] at hst
          have HST := Lib.hid hst
          have H03 := Lib.hid h03
          have C4 := C.trans C3 (by simp)
          clear hst h03 KT
          go_wp2_with (first | (refine wpList_build_x _ rfl 23 #[] rfl (.agg Z) #[] (by simp) (HBZ.out _) ?_) | (refine wpList_store_x _ rfl 23 (.tmp 2) (.tmp 44) rfl _ HST.out ?_))
          exact bodyPost_ret (v := .tuple #[.agg Z, .bool false]) (results_hash_tmp rfl _ _ g _ Z _ _ rfl rfl H03.out hsz) rfl ⟨by rw [HLL.out, NO.out, ofV_no _ NO.out, hashV, HZ.out], C4⟩
      · have hlt' : ¬ (k : Int) < 64 := by omega
        have hn : k = min 64 L.length := by rw [HL.out]; omega
        obtain ⟨same1, same2⟩ := of_same L k hn
        have kt := ref_text (rTo L k)
        have hTs : (⟨(textTo (rTo L k) 32).toArray⟩ : ByteArray) = s ↔ textTo (rTo L k) 32 = L := by
          constructor
          · intro h
            have := congrArg (fun b : ByteArray => b.data.toList) h
            simpa [HLL.out] using this
          · intro h
            rw [h, ← HLL.out]
        obtain ⟨T, hT⟩ : ∃ T, (⟨(textTo (rTo L k) 32).toArray⟩ : ByteArray) = T := ⟨_, rfl⟩
        rw [hT] at kt hTs
        have hRv : hashV (rTo L k) = .agg (hashC (rTo L k)) := rfl
        rw [hRv] at kt
        obtain ⟨R, hR⟩ : ∃ R, hashC (rTo L k) = R := ⟨_, rfl⟩
        have hRs : R.size = 32 := by rw [← hR]; exact hashC_size _
        have hR1 : R.all (·.oneCell') = true := by rw [← hR]; exact hashC_one _
        rw [hR] at h1 kt
        have hld := run_load_hash _ _ _ _ _ h1.out hRs
        have HLD := Lib.hid hld
        have HR := Lib.hid hR
        have HR1 := Lib.hid hR1
        have KT := Lib.hid kt
        clear hld hR hR1 kt hRv hT hn
        by_cases ht : textTo (rTo L k) 32 = L
        · obtain ⟨ok1, ok2⟩ := same1 ht
          have hTe := hTs.2 ht
          have OK := Lib.hid ok1
          have OV := Lib.hid ok2
          subst hTe
          clear same1 same2 ht hTs ok1 ok2
          go_wp2_with (refine wpList_load_x _ rfl 23 _ rfl (.agg R) HLD.out ?_)
          refine (KT.out _).mono ?_
          rintro e w3 ⟨rfl, C3⟩
          have h13 := (C3.block (g + 1) (lt_of_block h1.out) (by simp)).trans h1.out
          have h03 := (C3.block g (lt_of_block h0.out) (by simp)).trans h0.out
          have hld := run_load_hash _ _ _ _ _ h13 hRs
          have hst := run_storeAt_row (P := Tryd.prog) w3 g _ 23 Z R h03 (by rw [hRs]; exact infoHash) (by rw [hsz, hRs]) HR1.out
          have hh := setRow_heap w3 g _ R _ _ h03
          have HLD3 := Lib.hid hld
          have HST := Lib.hid hst
          have HH := Lib.hid hh
          have C4 : Chg [] w (w3.setRow g R) := (C.trans C3 (by simp)).trans (Chg.setRow (S := [g]) w3 g R (.inl (by simp))) (fun k hk => by simp at hk; subst hk; right; have := HG.out; omega)
          clear hld hst hh h13 h03 KT
          go_wp2_with (first | (refine wpList_load_x _ rfl 23 _ rfl (.agg R) HLD3.out ?_) | (refine wpList_store_x _ rfl 23 (.tmp 2) (.tmp 45) rfl _ HST.out ?_))
          exact bodyPost_ret (v := .tuple #[.agg R, .bool true]) (results_hash_tmp rfl _ _ g _ R _ _ rfl rfl HH.out hRs) rfl ⟨by rw [HLL.out, OK.out, OV.out, hashV, HR.out], C4⟩
        · have hno := same2 ht
          have hTn : (T.toList == s.toList) = false := by
            rw [beq_eq_false_iff_ne, ByteArray.toList_eq, ByteArray.toList_eq]
            exact fun e => ht (hTs.1 (ByteArray.ext (Array.toList_inj.1 e)))
          have NO := Lib.hid hno
          clear same1 same2 ht hTs hno
          go_wp2_with (refine wpList_load_x _ rfl 23 _ rfl (.agg R) HLD.out ?_)
          refine (KT.out _).mono ?_
          rintro e w3 ⟨rfl, C3⟩
          have h03 := (C3.block g (lt_of_block h0.out) (by simp)).trans h0.out
          have hst := run_storeAt_row (P := Tryd.prog) w3 g _ 23 Z Z h03 (by rw [hsz]; exact infoHash) rfl H1.out
          rw [setRow_self _ _ Z _ _ h03] at hst
          have HST := Lib.hid hst
          have H03 := Lib.hid h03
          have C4 := C.trans C3 (by simp)
          clear hst h03 KT
          go_wp2_with (first | (refine wpList_build_x _ rfl 23 #[] rfl (.agg Z) #[] (by simp) (HBZ.out _) ?_) | (refine wpList_store_x _ rfl 23 (.tmp 2) (.tmp 44) rfl _ HST.out ?_))
          exact bodyPost_ret (v := .tuple #[.agg Z, .bool false]) (results_hash_tmp rfl _ _ g _ Z _ _ rfl rfl H03.out hsz) rfl ⟨by rw [HLL.out, NO.out, ofV_no _ NO.out, hashV, HZ.out], C4⟩
end Go.Proofs.YtccicfmaapaifaaDoor
