/- What block of the package sha does to memory. No conditions beyond those that each statement types. -/
import Derived.Test.YtfdhpjflkimihaaDoorShaB0
namespace Go.Proofs.YtfdhpjflkimihaaDoor
open Go.RowKit

set_option maxRecDepth 100000 in
set_option maxHeartbeats 8000000 in
theorem sha_block (b : Nat) (s : SS) (w : World) (h : StateAt w b s) (hL : Laid w) :
    Calls Tryd.prog 104 #[.pointer (some ⟨b, 0, none⟩), .slice (some ⟨b, 8, none⟩) 64 64] w fun e w' => e = .returned (.tuple #[]) ∧ StateAt w' b s.block ∧ Chg [b] w w' := by
  go_enter Tryd.func104, Tryd.ntmps104
  have hz : ∀ w : World, (zeroValue 176).run Tryd.prog w = .ok (.agg (cut (fun _ => wv 0) 0 64)) w := fun _ => by kernel_rfl
  go_wp2_with fail
  obtain ⟨g, hg⟩ : ∃ g, w.heap.size = g := ⟨_, rfl⟩
  have W0 : WordsAt (w.alloc (.cells (cut (fun _ => wv 0) 0 64) 176)) g 176 64 (fun _ => 0) := by rw [← hg]; exact heap_alloc_new w _
  have C0 := Chg.alloc [] w (.cells (cut (fun _ => wv 0) 0 64) 176)
  have hbg : b < g := by rw [← hg]; exact h.lt
  have hS0 := h.chg C0 (by simp)
  rw [hg]
  generalize w.alloc (.cells (cut (fun _ => wv 0) 0 64) 176) = w0 at *
  have HG := Lib.hid hg
  clear hg h hz
  go_loopw [15] (fun i wr => ∃ (k : Nat) (f : Nat → UInt32), i = .int .i64 k ∧ k ≤ 64 ∧ WordsAt wr g 176 64 f ∧ (∀ j, j < k → f j = sched s.rs j) ∧ StateAt wr b s ∧ Chg [] w wr) (fun i _ => 64 - (intOf i).toNat)
  case atStart => exact ⟨0, fun _ => 0, rfl, by omega, W0, fun j hj => by omega, hS0, C0⟩
  case round =>
    obtain ⟨k, f, rfl, hk, hW, hf, hS, C⟩ := hrel
    have HF := Lib.hid hf
    clear W0 C0 hS0 hf
    by_cases hlt : k < 64
    · have hlt' : (k : Int) < 64 := by omega
      by_cases h16 : k < 16
      ·
        --<
        have h16' : (k : Int) < 16 := by omega
        have hk0 : (0 : Int) ≤ k := by omega
        have HB := Lib.hid (sched_small s.rs k h16)
        have c0 := hS.rsAt (4 * k) (by omega)
        have c1 := hS.rsAt (4 * k + 1) (by omega)
        have c2 := hS.rsAt (4 * k + 2) (by omega)
        have c3 := hS.rsAt (4 * k + 3) (by omega)
        have cw := hW.at k hlt
        have fw := hW.frozen k
        unfold bv at c0 c1 c2 c3
        generalize s.rs (4 * k) = b0 at *
        generalize s.rs (4 * k + 1) = b1 at *
        generalize s.rs (4 * k + 2) = b2 at *
        generalize s.rs (4 * k + 3) = b3 at *
        have l0 := b0.toNat_lt
        have l1 := b1.toNat_lt
        have l2 := b2.toNat_lt
        have l3 := b3.toNat_lt
        have m0 : IntKind.i64.wrap (4 * (k : Int)) = 4 * (k : Int) := IntWalk.i64_in _ (by omega)
        have m1 : IntKind.i64.wrap (4 * (k : Int) + 1) = 4 * (k : Int) + 1 := IntWalk.i64_in _ (by omega)
        have m2 : IntKind.i64.wrap (4 * (k : Int) + 2) = 4 * (k : Int) + 2 := IntWalk.i64_in _ (by omega)
        have m3 : IntKind.i64.wrap (4 * (k : Int) + 3) = 4 * (k : Int) + 3 := IntWalk.i64_in _ (by omega)
        have n0 : (4 * (k : Int)).toNat = 4 * k := by omega
        have n1 : (4 * (k : Int) + 1).toNat = 4 * k + 1 := by omega
        have n2 : (4 * (k : Int) + 2).toNat = 4 * k + 2 := by omega
        have n3 : (4 * (k : Int) + 3).toNat = 4 * k + 3 := by omega
        have p0 : 0 ≤ 4 * (k : Int) := by omega
        have p1 : 0 ≤ 4 * (k : Int) + 1 := by omega
        have p2 : 0 ≤ 4 * (k : Int) + 2 := by omega
        have p3 : 0 ≤ 4 * (k : Int) + 3 := by omega
        have q0 : 4 * (k : Int) < 64 := by omega
        have q1 : 4 * (k : Int) + 1 < 64 := by omega
        have q2 : 4 * (k : Int) + 2 < 64 := by omega
        have q3 : 4 * (k : Int) + 3 < 64 := by omega
        go_upto_region 5 with (fail)
        go_still_tail 35, (by kernel_rfl)
        rw [be4_eq]
        clear m0 m1 m2 m3 n0 n1 n2 n3 p0 p1 p2 p3 q0 q1 q2 q3 c0 c1 c2 c3
        have hW' : WordsAt wr.drew g 176 64 f := hW
        have hS' : StateAt wr.drew b s := hS
        have C' : Chg [] w wr.drew := C.trans (Chg.drewN [] wr 1) (by simp)
        change wpList _ _ _ _ _ wr.drew
        generalize wr.drew = wd at *
        have cw := hW'.at k hlt
        have fw := hW'.frozen k
        have hW2 := hW'.set k (be4 b0 b1 b2 b3)
        have C2 := C'.trans (Chg.setCell (S := [g]) wd ⟨g, k, none⟩ (wv (be4 b0 b1 b2 b3)) (.inl (by simp))) (by simp; have := HG.out; omega)
        have hS2 := hS'.chg (Chg.setCell (S := [g]) wd ⟨g, k, none⟩ (wv (be4 b0 b1 b2 b3)) (.inl (by simp))) (by simp; omega)
        unfold wv at cw hW2 C2 hS2
        clear hW hS C hW' hS' C'
        go_wp2_with fail
        go_roundw
        case rel => exact ⟨k + 1, _, by go_num, by omega, hW2, fun j hj => by
          by_cases hjk : j = k
          · subst hjk; rw [if_pos rfl]; exact HB.out.symm
          · rw [if_neg hjk]; exact HF.out j (by omega), hS2, C2⟩
        case measure => simp [intOf]; omega
        -->
      ·
        --<
        have h16' : ¬ (k : Int) < 16 := by omega
        have hk0 : (0 : Int) ≤ k := by omega
        have HB := Lib.hid (sched_big s.rs k h16)
        have m15 : IntKind.i64.wrap ((k : Int) - 15) = (k : Int) - 15 := IntWalk.i64_in _ (by omega)
        have n15 : ((k : Int) - 15).toNat = k - 15 := by omega
        have p15 : 0 ≤ (k : Int) - 15 := by omega
        have r15 : 15 ≤ (k : Int) := by omega
        have r16 : 16 ≤ (k : Int) := by omega
        have r7 : 7 ≤ (k : Int) := by omega
        have r2 : 2 ≤ (k : Int) := by omega
        have q15 : (k : Int) - 15 < 64 := by omega
        have c15 := hW.at (k - 15) (by omega)
        have m2 : IntKind.i64.wrap ((k : Int) - 2) = (k : Int) - 2 := IntWalk.i64_in _ (by omega)
        have n2 : ((k : Int) - 2).toNat = k - 2 := by omega
        have p2 : 0 ≤ (k : Int) - 2 := by omega
        have q2 : (k : Int) - 2 < 64 := by omega
        have c2 := hW.at (k - 2) (by omega)
        have m16 : IntKind.i64.wrap ((k : Int) - 16) = (k : Int) - 16 := IntWalk.i64_in _ (by omega)
        have n16 : ((k : Int) - 16).toNat = k - 16 := by omega
        have p16 : 0 ≤ (k : Int) - 16 := by omega
        have q16 : (k : Int) - 16 < 64 := by omega
        have c16 := hW.at (k - 16) (by omega)
        have m7 : IntKind.i64.wrap ((k : Int) - 7) = (k : Int) - 7 := IntWalk.i64_in _ (by omega)
        have n7 : ((k : Int) - 7).toNat = k - 7 := by omega
        have p7 : 0 ≤ (k : Int) - 7 := by omega
        have q7 : (k : Int) - 7 < 64 := by omega
        have c7 := hW.at (k - 7) (by omega)
        have z15 := HF.out (k - 15) (by omega)
        have z2 := HF.out (k - 2) (by omega)
        have z16 := HF.out (k - 16) (by omega)
        have z7 := HF.out (k - 7) (by omega)
        rw [z15] at c15
        rw [z2] at c2
        rw [z16] at c16
        rw [z7] at c7
        generalize sched s.rs (k - 15) = x15 at *
        generalize sched s.rs (k - 2) = x2 at *
        generalize sched s.rs (k - 16) = x16 at *
        generalize sched s.rs (k - 7) = x7 at *
        unfold wv at c15 c2 c16 c7
        clear z15 z2 z16 z7
        go_upto_region 6 with (fail)
        go_quiet (fail)
        have hW' : WordsAt (wr.drewN nq) g 176 64 f := hW
        have hS' : StateAt (wr.drewN nq) b s := hS
        have C' : Chg [] w (wr.drewN nq) := C.trans (Chg.drewN [] wr nq) (by simp)
        have d16 : (wr.drewN nq).cell? ⟨g, k - 16, none⟩ = some (.int .u32 x16.toNat) := c16
        have d7 : (wr.drewN nq).cell? ⟨g, k - 7, none⟩ = some (.int .u32 x7.toNat) := c7
        generalize wr.drewN nq = wa at *
        clear hW hS C c15 c2 c16 c7
        have rx := w_xor
        have ra := w_add
        have rs3 := u_shr3
        have rs10 := u_shr10
        go_upto_region 7 with (fail)
        refine wp_region_still_tail 29 (by kernel_rfl) (by kernel_rfl) ?_
        simp only [List.take_succ_cons, List.take_zero, List.drop_succ_cons, List.drop_zero]
        repeat still_step
        still_call (right_still x15 7 7 rfl (by decide) (by decide) _)
        repeat still_step
        still_call (right_still x15 18 18 rfl (by decide) (by decide) _)
        repeat still_step
        still_call (right_still x2 17 17 rfl (by decide) (by decide) _)
        repeat still_step
        still_call (right_still x2 19 19 rfl (by decide) (by decide) _)
        repeat still_step
        refine wpStill_nil ?_
        have hW2' : WordsAt wa.drew g 176 64 f := hW'
        have hS2' : StateAt wa.drew b s := hS'
        have C2' : Chg [] w wa.drew := C'.trans (Chg.drewN [] wa 1) (by simp)
        change wpList _ _ _ _ _ wa.drew
        generalize wa.drew = wd at *
        obtain ⟨X, hX⟩ : ∃ X, sched s.rs k = X := ⟨_, rfl⟩
        have HB2 := Lib.hid (HB.out.symm.trans hX)
        have HXX := Lib.hid hX
        have cw := hW2'.at k hlt
        have fw := hW2'.frozen k
        have hW2 := hW2'.set k X
        have C2 := C2'.trans (Chg.setCell (S := [g]) wd ⟨g, k, none⟩ (wv X) (.inl (by simp))) (by simp; have := HG.out; omega)
        have hS2 := hS2'.chg (Chg.setCell (S := [g]) wd ⟨g, k, none⟩ (wv X) (.inl (by simp))) (by simp; omega)
        unfold wv at cw hW2 C2 hS2
        have HB3 : wadd (wadd (wadd x16 (wxor (wxor (rotr x15 7) (rotr x15 18)) (shr x15 3))) x7) (wxor (wxor (rotr x2 17) (rotr x2 19)) (shr x2 10)) = X := HB2.out
        rw [HB3]
        clear HB3
        clear hW2' hS2' C2' hW' hS' C' rx ra rs3 rs10 m15 m16 m7 m2 n15 n16 n7 n2 p15 p16 p7 p2 q15 q16 q7 q2 hX
        go_wp2_with fail
        go_roundw
        case rel => exact ⟨k + 1, _, by go_num, by omega, hW2, fun j hj => by
          by_cases hjk : j = k
          · subst hjk; rw [if_pos rfl]; exact HXX.out.symm
          · rw [if_neg hjk]; exact HF.out j (by omega), hS2, C2⟩
        case measure => simp [intOf]; omega
        -->
    · have hk64 : k = 64 := by omega
      subst hk64
      have hld := run_loadAt_cut (P := Tryd.prog) wr 115 b 0 8 (fun i => wv (s.wd i)) _ Tryd.underlying115 rfl (by kernel_rfl) (fun j hj => by rw [Nat.zero_add]; exact hS.wdAt j hj)
      have st : ∀ c : Array Value, c.size = 8 → (storeCells ⟨wr.heap.size, 0, none⟩ (cut (fun i => wv (s.wd i)) 0 8).toList 0).run Tryd.prog (wr.alloc (.cells c 115)) = .ok () (wr.alloc (.cells (cut (fun i => wv (s.wd i)) 0 8) 115)) := fun c hc =>
        run_storeCells_new wr 115 c _ (by rw [cut_size]; kernel_rfl) (by rw [hc, cut_size]) (words_one _ _)
      have hcs := cut_size (fun i => wv (s.wd i)) 0 8
      have hV : WordsAt (wr.alloc (.cells (cut (fun i => wv (s.wd i)) 0 8) 115)) wr.heap.size 115 8 (rounds s.rs (V8.of s.wd) 0).get := by
        have h1 := heap_alloc_new wr (.cells (cut (fun i => wv (s.wd i)) 0 8) 115)
        rw [words_eq (g := (rounds s.rs (V8.of s.wd) 0).get) (fun i hi => (of_get s.wd i hi).symm)] at h1 ⊢
        exact h1
      have CA := Chg.alloc [] wr (.cells (cut (fun i => wv (s.wd i)) 0 8) 115)
      have hWA := hW.chg CA (by simp)
      have hSA := hS.chg CA (by simp)
      have DA := C.trans CA (by simp)
      have hgv : g < wr.heap.size := hW.lt
      have hbv : b < wr.heap.size := hS.lt
      have hwv : w.heap.size ≤ wr.heap.size := C.size
      clear hW hS C CA
      go_wp2_with (refine wpList_load_x _ rfl 115 _ rfl (.agg (cut (fun i => wv (s.wd i)) 0 8)) hld ?_)
      clear hld st hcs
      generalize wr.alloc (.cells (cut (fun i => wv (s.wd i)) 0 8) 115) = wy at *
      obtain ⟨gv, hgve⟩ : ∃ gv, wr.heap.size = gv := ⟨_, rfl⟩
      rw [hgve] at hV hgv hbv hwv ⊢
      clear hgve
      go_loopw [97] (fun i wr => ∃ k : Nat, i = .int .i64 k ∧ k ≤ 64 ∧ WordsAt wr gv 115 8 (rounds s.rs (V8.of s.wd) k).get ∧ WordsAt wr g 176 64 f ∧ StateAt wr b s ∧ Chg [] w wr) (fun i _ => 64 - (intOf i).toNat)
      case atStart => exact ⟨0, rfl, by omega, hV, hWA, hSA, DA⟩
      case round =>
        obtain ⟨k, rfl, hk, hV, hW, hS, C⟩ := hrel
        clear hWA hSA DA
        by_cases hlt : k < 64
        ·
          --<
          have hlt' : (k : Int) < 64 := by omega
          have hk0 : (0 : Int) ≤ k := by omega
          have ck := (hL.chg C (by simp)).roots k hlt
          have cs := hW.at k hlt
          rw [HF.out k hlt] at cs
          have HR := Lib.hid (show rounds s.rs (V8.of s.wd) (k + 1) = (rounds s.rs (V8.of s.wd) k).rnd (rootL.getD k 0) (sched s.rs k) from rfl)
          obtain ⟨V, hVV⟩ : ∃ V, rounds s.rs (V8.of s.wd) k = V := ⟨_, rfl⟩
          have HR2 := Lib.hid (HR.out.trans (by rw [hVV]))
          rw [hVV] at hV
          generalize rootL.getD k 0 = K at *
          generalize sched s.rs k = X at *
          have v0 := hV.at 0 (by decide)
          have v1 := hV.at 1 (by decide)
          have v2 := hV.at 2 (by decide)
          have v3 := hV.at 3 (by decide)
          have v4 := hV.at 4 (by decide)
          have v5 := hV.at 5 (by decide)
          have v6 := hV.at 6 (by decide)
          have v7 := hV.at 7 (by decide)
          unfold wv at v0 v1 v2 v3 v4 v5 v6 v7 ck cs
          simp only [V8.get] at v0 v1 v2 v3 v4 v5 v6 v7
          clear hVV HR
          go_upto_region 13 with (fail)
          go_quiet (fail)
          have C1 : Chg [] w (wr.drewN nq) := C.trans (Chg.drewN [] wr nq) (by simp)
          have hV1 : WordsAt (wr.drewN nq) gv 115 8 V.get := hV
          have hW1 : WordsAt (wr.drewN nq) g 176 64 f := hW
          have hS1 : StateAt (wr.drewN nq) b s := hS
          have v1a : (wr.drewN nq).cell? ⟨gv, 1, none⟩ = some (.int .u32 V.b.toNat) := v1
          have v2a : (wr.drewN nq).cell? ⟨gv, 2, none⟩ = some (.int .u32 V.c.toNat) := v2
          have v3a : (wr.drewN nq).cell? ⟨gv, 3, none⟩ = some (.int .u32 V.d.toNat) := v3
          have v5a : (wr.drewN nq).cell? ⟨gv, 5, none⟩ = some (.int .u32 V.f.toNat) := v5
          have v6a : (wr.drewN nq).cell? ⟨gv, 6, none⟩ = some (.int .u32 V.g.toNat) := v6
          have v7a : (wr.drewN nq).cell? ⟨gv, 7, none⟩ = some (.int .u32 V.h.toNat) := v7
          have cka : (wr.drewN nq).cell? ⟨1, k, none⟩ = some (.int .u32 K.toNat) := ck
          have csa : (wr.drewN nq).cell? ⟨g, k, none⟩ = some (.int .u32 X.toNat) := cs
          clear v0 v1 v2 v3 v4 v5 v6 v7 ck cs C hV hW hS
          generalize wr.drewN nq = wa at *
          have rx := w_xor
          have ra := w_add
          have rn := w_and
          have rt := w_not
          go_upto_region 14 with (fail)
          go_quiet ((go_at_call 109; exact Calls.quiet_of_same (right_open _ _ (by decide) (by decide) _)))
          have C2 : Chg [] w (wa.drewN nq) := C1.trans (Chg.drewN [] wa nq) (by simp)
          have hV2 : WordsAt (wa.drewN nq) gv 115 8 V.get := hV1
          have hW2 : WordsAt (wa.drewN nq) g 176 64 f := hW1
          have hS2 : StateAt (wa.drewN nq) b s := hS1
          have v1b : (wa.drewN nq).cell? ⟨gv, 1, none⟩ = some (.int .u32 V.b.toNat) := v1a
          have v2b : (wa.drewN nq).cell? ⟨gv, 2, none⟩ = some (.int .u32 V.c.toNat) := v2a
          have v3b : (wa.drewN nq).cell? ⟨gv, 3, none⟩ = some (.int .u32 V.d.toNat) := v3a
          have v5b : (wa.drewN nq).cell? ⟨gv, 5, none⟩ = some (.int .u32 V.f.toNat) := v5a
          have v6b : (wa.drewN nq).cell? ⟨gv, 6, none⟩ = some (.int .u32 V.g.toNat) := v6a
          clear v1a v2a v3a v5a v6a v7a cka csa C1 hV1 hW1 hS1
          generalize wa.drewN nq = wb at *
          have hx : wadd (wadd (wadd (wadd V.h (wxor (wxor (rotr V.e 6) (rotr V.e 11)) (rotr V.e 25))) (wxor (wand V.e V.f) (wand (wnot V.e) V.g))) K) X = V.x K X := rfl
          rw [hx]
          clear hx
          go_upto_region 15 with (fail)
          go_quiet ((go_at_call 109; exact Calls.quiet_of_same (right_open _ _ (by decide) (by decide) _)))
          have C3 : Chg [] w (wb.drewN nq) := C2.trans (Chg.drewN [] wb nq) (by simp)
          have hV3 : WordsAt (wb.drewN nq) gv 115 8 V.get := hV2
          have hW3 : WordsAt (wb.drewN nq) g 176 64 f := hW2
          have hS3 : StateAt (wb.drewN nq) b s := hS2
          have v1c : (wb.drewN nq).cell? ⟨gv, 1, none⟩ = some (.int .u32 V.b.toNat) := v1b
          have v2c : (wb.drewN nq).cell? ⟨gv, 2, none⟩ = some (.int .u32 V.c.toNat) := v2b
          have v3c : (wb.drewN nq).cell? ⟨gv, 3, none⟩ = some (.int .u32 V.d.toNat) := v3b
          have v5c : (wb.drewN nq).cell? ⟨gv, 5, none⟩ = some (.int .u32 V.f.toNat) := v5b
          have v6c : (wb.drewN nq).cell? ⟨gv, 6, none⟩ = some (.int .u32 V.g.toNat) := v6b
          clear v1b v2b v3b v5b v6b C2 hV2 hW2 hS2
          generalize wb.drewN nq = wc at *
          have hy : wadd (wxor (wxor (rotr V.a 2) (rotr V.a 13)) (rotr V.a 22)) (wxor (wxor (wand V.a V.b) (wand V.a V.c)) (wand V.b V.c)) = V.y := rfl
          rw [hy]
          clear hy
          have harr : (#[.int .u32 (wadd (V.x K X) V.y).toNat, .int .u32 V.a.toNat, .int .u32 V.b.toNat, .int .u32 V.c.toNat, .int .u32 (wadd V.d (V.x K X)).toNat, .int .u32 V.e.toNat, .int .u32 V.f.toNat, .int .u32 V.g.toNat] : Array Value) = cut (fun i => wv ((V.rnd K X).get i)) 0 8 := rfl
          have hrow : (Instr.storeAt 115 (.pointer (some ⟨gv, 0, none⟩)) (.agg #[.int .u32 (wadd (V.x K X) V.y).toNat, .int .u32 V.a.toNat, .int .u32 V.b.toNat, .int .u32 V.c.toNat, .int .u32 (wadd V.d (V.x K X)).toNat, .int .u32 V.e.toNat, .int .u32 V.f.toNat, .int .u32 V.g.toNat])).run Tryd.prog wc = .ok () (wc.setRow gv (cut (fun i => wv ((V.rnd K X).get i)) 0 8)) := by
            rw [harr]
            exact run_storeAt_row wc gv _ _ _ _ hV3 (by rw [cut_size]; kernel_rfl) (by rw [cut_size, cut_size]) (words_one _ _)
          clear harr
          have hV4 : WordsAt (wc.setRow gv (cut (fun i => wv ((V.rnd K X).get i)) 0 8)) gv 115 8 (rounds s.rs (V8.of s.wd) (k + 1)).get := by rw [HR2.out]; exact setRow_heap wc gv _ _ _ _ hV3
          have CR : Chg [gv] wc (wc.setRow gv (cut (fun i => wv ((V.rnd K X).get i)) 0 8)) := Chg.setRow wc gv _ (.inl (by simp))
          have hW4 := hW3.chg CR (by simp; omega)
          have hS4 := hS3.chg CR (by simp; omega)
          have C4 := C3.trans CR (by simp; omega)
          clear hW3 hS3 C3 CR hV3
          go_wp2_with (refine wpList_store_x _ rfl 115 (.tmp 8) (.tmp 175) rfl _ hrow ?_)
          go_roundw
          case rel => exact ⟨k + 1, by go_num, by omega, hV4, hW4, hS4, C4⟩
          case measure => simp [intOf]; omega
          -->
        · have hk64' : k = 64 := by omega
          subst hk64'
          rw [show ((64 : Nat) : Int) = 64 from rfl]
          have hgw : w.heap.size ≤ gv := hwv
          have hVf := hV
          obtain ⟨R, hR⟩ : ∃ R, rounds s.rs (V8.of s.wd) 64 = R := ⟨_, rfl⟩
          rw [hR] at hVf
          have HRR := Lib.hid hR
          have hS0 : StateAt wr b (s.back 0) := by
            have : s.back 0 = s := by simp [SS.back]
            rw [this]; exact hS
          have C0 : Chg [b] w wr := C.mono (by simp)
          clear hR hV hW HF hS C
          go_wp2_with fail
          go_loopw [177] (fun i wr => ∃ k : Nat, i = .int .i64 k ∧ k ≤ 8 ∧ WordsAt wr gv 115 8 R.get ∧ StateAt wr b (s.back k) ∧ Chg [b] w wr) (fun i _ => 8 - (intOf i).toNat)
          case atStart => exact ⟨0, rfl, by omega, hVf, hS0, C0⟩
          case round =>
            obtain ⟨k, rfl, hk, hV, hS, C⟩ := hrel
            clear hVf hS0 C0
            by_cases hlt8 : k < 8
            · have hlt8' : (k : Int) < 8 := by omega
              have hk0 : (0 : Int) ≤ k := by omega
              have hset := hS.set k _ (s.back_cell k hlt8)
              have cv := hV.at k hlt8
              have cb := hS.wdAt k hlt8
              have fb := hS.frozen k
              have hwk : (s.back k).wd k = s.wd k := by simp [SS.back]
              rw [hwk] at cb
              rw [HRR.out] at hset
              unfold wv at cv cb hset
              generalize s.wd k = A at *
              generalize R.get k = Z at *
              have ra := w_add
              clear hwk
              go_upto_region 21 with (fail)
              refine wp_region_still_tail 13 (by kernel_rfl) (by kernel_rfl) ?_
              simp only [List.take_succ_cons, List.take_zero, List.drop_succ_cons, List.drop_zero]
              repeat still_step
              refine wpStill_nil ?_
              have hset2 := hset
              have hV2 : WordsAt wr.drew gv 115 8 R.get := hV
              have C2 : Chg [b] w wr.drew := C.trans (Chg.drewN [] wr 1) (by simp)
              have hset3 : StateAt (wr.drew.setCell ⟨b, k, none⟩ (.int .u32 (wadd A Z).toNat)) b (s.back (k + 1)) := hset2
              have cb2 : wr.drew.cell? ⟨b, k, none⟩ = some (.int .u32 A.toNat) := cb
              have fb2 : wr.drew.frozen? ⟨b, k, none⟩ = false := fb
              change wpList _ _ _ _ _ wr.drew
              generalize wr.drew = wd at *
              have CS := Chg.setCell (S := [b]) wd ⟨b, k, none⟩ (.int .u32 (wadd A Z).toNat) (.inl (by simp))
              have hV3 := hV2.chg CS (by simp; omega)
              have C3 := C2.trans CS (by simp)
              clear hV hS C hset cv cb fb ra hset2 hV2 C2 CS
              go_wp2_with fail
              go_roundw
              case rel => exact ⟨k + 1, by go_num, by omega, hV3, hset3, C3⟩
              case measure => simp [intOf]; omega
            · have hk8 : k = 8 := by omega
              subst hk8
              go_wp2_with fail
              go_end0
              exact ⟨rfl, hS, C⟩
end Go.Proofs.YtfdhpjflkimihaaDoor
