/- What the law ShaBack does: true, and it leaves what was there. No conditions beyond those that each statement types. -/
import Derived.Test.YtccicfmaapaifaaDoorShaP
namespace Go.Proofs.YtccicfmaapaifaaDoor
open Go.RowKit

theorem wpList_eql_x {P : Program} {w : World} {ops : Array Oper} {rest : List Oper} {o : Oper} {a : Act} {Q : Exit → Act → World → Prop} (hgd : Region.wanted o (yielded ops a.tmps) = true) (t t2 : TypeId) (x y : Operand) (ho : o.op = .binOp .eql t x y t2) (b : Bool) (X Y : Value) (hx : a.eval x = X) (hy : a.eval y = Y)
    (hg : (eqGuard .eql t x y X Y).run P w = .ok () w) (hr : (binOp .eql t X Y).run P w = .ok (.bool b) w) (h : wpList P ops Q rest (a.put o.dst (.bool b)) w) : wpList P ops Q (o :: rest) a w := by
  refine wpList_run_x w hgd (.bool b) w ?_ h
  simp only [execOp, ho, hx, hy, hg, hr, Result.andThen, Sem.run_bind, Sem.run_pure]

theorem hash_guard (x y : Operand) (X Y : Array Value) (w : World) : (eqGuard .eql 23 x y (.agg X) (.agg Y)).run Tryd.prog w = .ok () w := by
  have h : Tryd.prog.eqGuardType Tryd.prog.depth 23 = false := by kernel_rfl
  have hp : (program).run Tryd.prog w = .ok Tryd.prog w := rfl
  simp [eqGuard, hp, h, Result.andThen]

theorem new_hash (w : World) (Z R : Array Value) (hZ : Z.size = 32) (hR : R.size = 32) (h1 : R.all (·.oneCell') = true) :
    (Instr.storeAt 23 (.pointer (some ⟨w.heap.size, 0, none⟩)) (.agg R)).run Tryd.prog (w.alloc (.cells Z 23)) = .ok () (w.alloc (.cells R 23)) := by
  have hn0 := heap_alloc_new w (.cells Z 23)
  have hst := run_storeAt_row (P := Tryd.prog) (w.alloc (.cells Z 23)) w.heap.size _ 23 Z R hn0 (by rw [hR]; exact infoHash) (by rw [hZ, hR]) h1
  rw [World.setRow_alloc_new] at hst
  exact hst

theorem sha_of (s : ByteArray) (w : World) (hm : s.size ≤ 9223372036854775807) :
    Calls Tryd.prog 9 #[.string s] w fun e w' => e = .returned (.tuple #[hashV (ofV s.data.toList), .bool (ofOk s.data.toList)]) ∧ Chg [] w w' := by
  by_cases h : s.size = 64
  · exact sha_of_long s w h
  · have ho : ofOk s.data.toList = false := by
      unfold ofOk
      have : ¬ s.data.toList.length = 64 := h
      rw [decide_eq_false this]
      rfl
    rw [ofV_no _ ho, ho]
    exact sha_of_short s w h hm

set_option maxRecDepth 100000 in
set_option maxHeartbeats 4000000 in
theorem sha_back (f : Nat → UInt8) (s : ByteArray) (hs : s.size ≤ 9223372036854775807) (W : World) (hL : Laid W) :
    Calls Tryd.prog 4 #[hashV f, .string s] W (Holds W) := by
  obtain ⟨Z, hZ, hz, hsz, hz1⟩ := zeroHash
  have HT : Hid (∀ w, Calls Tryd.prog 11 #[hashV f] w fun e w' => e = .returned (.string ⟨(textTo f 32).toArray⟩) ∧ Below w.heap.size w w') := Lib.hid (fun w => sha_text f w)
  have HO : Hid (∀ w, Calls Tryd.prog 9 #[.string ⟨(textTo f 32).toArray⟩] w fun e w' => e = .returned (.tuple #[hashV f, .bool true]) ∧ Chg [] w w') := Lib.hid (fun w => by
    have h := sha_of ⟨(textTo f 32).toArray⟩ w (by show (textTo f 32).toArray.size ≤ _; simp [textTo_length])
    have e1 : hashV (ofV (⟨(textTo f 32).toArray⟩ : ByteArray).data.toList) = hashV f := by
      show hashV (ofV (textTo f 32)) = _
      unfold hashV; rw [ofV_text]
    have e2 : ofOk (⟨(textTo f 32).toArray⟩ : ByteArray).data.toList = true := ofOk_text f
    rw [e1, e2] at h
    exact h)
  have hTs : (⟨(textTo f 32).toArray⟩ : ByteArray).size = 64 := by show (textTo f 32).toArray.size = 64; simp [textTo_length]
  generalize (⟨(textTo f 32).toArray⟩ : ByteArray) = T at HT HO hTs
  have HS : Hid (∀ w, Calls Tryd.prog 9 #[.string s] w fun e w' => e = .returned (.tuple #[hashV (ofV s.data.toList), .bool (ofOk s.data.toList)]) ∧ Chg [] w w') := Lib.hid (fun w => sha_of s w hs)
  have HX : Hid (∀ w, Calls Tryd.prog 11 #[hashV (ofV s.data.toList)] w fun e w' => e = .returned (.string ⟨(textTo (ofV s.data.toList) 32).toArray⟩) ∧ Below w.heap.size w w') := Lib.hid (fun w => sha_text _ w)
  have hyes : ofOk s.data.toList = true → (⟨(textTo (ofV s.data.toList) 32).toArray⟩ : ByteArray) = s := fun h => by rw [text_ofV _ h]
  have hno : ofOk s.data.toList = false → hashC (ofV s.data.toList) = Z := fun h => by rw [ofV_no _ h, hZ]
  generalize (⟨(textTo (ofV s.data.toList) 32).toArray⟩ : ByteArray) = TX at HX hyes
  have HE : Hid (∀ w, (binOp .eql 23 (hashV f) (hashV f)).run Tryd.prog w = .ok (.bool true) w) := Lib.hid (fun w => by rw [run_eq_hash, sameHash_self])
  have HEZ : Hid (∀ w, (binOp .eql 23 (.agg Z) (.agg Z)).run Tryd.prog w = .ok (.bool true) w) := Lib.hid (fun w => by
    have := run_eq_hash (fun _ => 0) (fun _ => 0) w
    rw [sameHash_self] at this
    unfold hashV at this
    rw [← hZ] at this
    exact this)
  have HBZ : Hid (∀ w : World, (Instr.build 23 #[]).run Tryd.prog w = .ok (.agg Z) w) := Lib.hid (by
    rw [hZ]
    exact fun _ => by kernel_rfl)
  clear hZ
  unfold hashV at *
  have hHs : (hashC f).size = 32 := hashC_size _
  have hH1 : (hashC f).all (·.oneCell') = true := hashC_one _
  have hXs : (hashC (ofV s.data.toList)).size = 32 := hashC_size _
  have hX1 : (hashC (ofV s.data.toList)).all (·.oneCell') = true := hashC_one _
  generalize hashC f = H at *
  generalize hashC (ofV s.data.toList) = X at *
  have N1 := Lib.hid (fun w => new_hash w Z H hsz hHs hH1)
  have N2 := Lib.hid (fun w => new_hash w Z X hsz hXs hX1)
  have h0 := Lib.hid (heap_alloc_new W (.cells H 23))
  have C0 := Chg.alloc [] W (.cells H 23)
  obtain ⟨ok, hok⟩ : ∃ b, ofOk s.data.toList = b := ⟨_, rfl⟩
  rw [hok] at hyes hno HS
  have HYES := Lib.hid hyes
  have HNO := Lib.hid hno
  clear hyes hno hok hH1 hX1 hz1
  by_cases hbig : 20000 < (s.size : Int)
  · go_enter Tryd.func4, Tryd.ntmps4
    go_wp2_with fail
    refine (sha_awake _ (hL.chg C0 (by simp))).mono ?_
    rintro e w1 ⟨rfl, C1⟩
    go_wp2_with fail
    go_ret
    exact ⟨rfl, C0.trans C1 (by simp)⟩
  · go_enter Tryd.func4, Tryd.ntmps4
    go_wp2_with (refine wpList_load_x _ rfl 23 _ rfl (.agg H) (run_load_hash _ _ _ _ _ h0.out hHs) ?_)
    generalize W.alloc (.cells H 23) = w0 at *
    obtain ⟨g0, hg0⟩ : ∃ g, W.heap.size = g := ⟨_, rfl⟩
    rw [hg0] at h0 ⊢
    refine (HT.out _).mono ?_
    rintro e w1 ⟨rfl, B1⟩
    have C1 := chg_below B1
    clear B1
    go_wp2_with fail
    refine (HO.out _).mono ?_
    rintro e w2 ⟨rfl, C2⟩
    have C02 := (C0.trans C1 (by simp)).trans C2 (by simp)
    have h02 := Lib.hid ((C2.block g0 (by have := lt_of_block h0.out; have := C1.size; omega) (by simp)).trans ((C1.block g0 (lt_of_block h0.out) (by simp)).trans h0.out))
    clear C0 C1 C2 h0
    go_upto_region 4 with (refine wpList_store_x _ rfl 23 (.tmp 5) (.tmp 17) rfl _ (N1.out _) ?_)
    have C3 := Chg.alloc [] w2 (.cells H 23)
    have h13 := Lib.hid (heap_alloc_new w2 (.cells H 23))
    have h03 := Lib.hid ((C3.block g0 (lt_of_block h02.out) (by simp)).trans h02.out)
    have C03 := C02.trans C3 (by simp)
    clear h02 C02 C3
    generalize w2.alloc (.cells H 23) = w3 at *
    obtain ⟨g1, hg1⟩ : ∃ g, w2.heap.size = g := ⟨_, rfl⟩
    rw [hg1] at h13 ⊢
    clear hg1
    go_wp2_with fail
    refine (HS.out _).mono ?_
    rintro e w4 ⟨rfl, C4⟩
    go_upto_region 5 with (refine wpList_store_x _ rfl 23 (.tmp 7) (.tmp 22) rfl _ (N2.out _) ?_)
    have C5 := C4.trans (Chg.alloc [] w4 (.cells X 23)) (by simp)
    have h25 := Lib.hid (heap_alloc_new w4 (.cells X 23))
    have h05 := Lib.hid ((C5.block g0 (lt_of_block h03.out) (by simp)).trans h03.out)
    have h15 := Lib.hid ((C5.block g1 (lt_of_block h13.out) (by simp)).trans h13.out)
    have C05 := C03.trans C5 (by simp)
    clear h03 h13 C03 C4 C5
    generalize w4.alloc (.cells X 23) = w5 at *
    obtain ⟨g2, hg2⟩ : ∃ g, w4.heap.size = g := ⟨_, rfl⟩
    rw [hg2] at h25 ⊢
    clear hg2
    cases ok
    · have hXZ := HNO.out rfl
      subst hXZ
      go_wp2_with (first | (refine wpList_load_x _ rfl 23 (.tmp 5) rfl (.agg H) (run_load_hash _ _ _ _ _ h15.out hHs) ?_) | (refine wpList_load_x _ rfl 23 (.tmp 2) rfl (.agg H) (run_load_hash _ _ _ _ _ h05.out hHs) ?_) | (refine wpList_eql_x rfl 23 _ _ _ rfl true (.agg H) (.agg H) rfl rfl (hash_guard _ _ _ _ _) (HE.out _) ?_))
      refine (HT.out _).mono ?_
      rintro e w6 ⟨rfl, B6⟩
      have C6 := chg_below B6
      have h26 := Lib.hid ((C6.block g2 (lt_of_block h25.out) (by simp)).trans h25.out)
      have hT64 : ((T.size : Int) == 64) = true := by rw [hTs]; rfl
      go_wp2_with (first | (refine wpList_load_x _ rfl 23 (.tmp 7) rfl (.agg X) (run_load_hash _ _ _ _ _ h26.out hXs) ?_) | (refine wpList_build_x _ rfl 23 #[] rfl (.agg X) #[] (by simp) (HBZ.out _) ?_) | (refine wpList_eql_x rfl 23 _ _ _ rfl true (.agg X) (.agg X) rfl rfl (hash_guard _ _ _ _ _) (HEZ.out _) ?_))
      refine (sha_awake _ (hL.chg (C05.trans C6 (by simp)) (by simp))).mono ?_
      rintro e w7 ⟨rfl, C7⟩
      go_wp2_with fail
      go_ret
      exact ⟨rfl, (C05.trans C6 (by simp)).trans C7 (by simp)⟩
    · have hTX := HYES.out rfl
      subst hTX
      go_wp2_with (first | (refine wpList_load_x _ rfl 23 (.tmp 5) rfl (.agg H) (run_load_hash _ _ _ _ _ h15.out hHs) ?_) | (refine wpList_load_x _ rfl 23 (.tmp 2) rfl (.agg H) (run_load_hash _ _ _ _ _ h05.out hHs) ?_) | (refine wpList_eql_x rfl 23 _ _ _ rfl true (.agg H) (.agg H) rfl rfl (hash_guard _ _ _ _ _) (HE.out _) ?_))
      refine (HT.out _).mono ?_
      rintro e w6 ⟨rfl, B6⟩
      have C6 := chg_below B6
      have h26 := Lib.hid ((C6.block g2 (lt_of_block h25.out) (by simp)).trans h25.out)
      have hT64 : ((T.size : Int) == 64) = true := by rw [hTs]; rfl
      go_wp2_with (first | (refine wpList_load_x _ rfl 23 (.tmp 7) rfl (.agg X) (run_load_hash _ _ _ _ _ h26.out hXs) ?_))
      refine (HX.out _).mono ?_
      rintro e w7 ⟨rfl, B7⟩
      have C7 := (C05.trans C6 (by simp)).trans (chg_below B7) (by simp)
      go_wp2_with fail
      refine (sha_awake _ (hL.chg C7 (by simp))).mono ?_
      rintro e w8 ⟨rfl, C8⟩
      go_wp2_with fail
      go_ret
      exact ⟨rfl, C7.trans C8 (by simp)⟩
end Go.Proofs.YtccicfmaapaifaaDoor
