/- What the law ShaTexts does: true, and it leaves what was there. No conditions beyond those that each statement types. -/
import Derived.Test.YtccicfmaapaifaaDoorShaU
namespace Go.Proofs.YtccicfmaapaifaaDoor
open Go.RowKit

/-- Three digests in memory, as the law's last statement reads them. -/
structure Awk3 (w : World) (g0 g1 g2 : Nat) (r x : Array Value) (wx : World) : Prop where
  r0 : ∃ fr, wx.heap[g0]? = some (.cells r 23 fr)
  r1 : ∃ fr, wx.heap[g1]? = some (.cells x 23 fr)
  r2 : ∃ fr, wx.heap[g2]? = some (.cells x 23 fr)
  laid : Laid wx
  chg : Chg [] w wx
theorem Awk3.step {w wx w' : World} {g0 g1 g2 : Nat} {r x : Array Value} (h : Awk3 w g0 g1 g2 r x wx) (hc : Chg [] wx w') : Awk3 w g0 g1 g2 r x w' := by
  obtain ⟨a, ha⟩ := h.r0
  obtain ⟨b, hb⟩ := h.r1
  obtain ⟨c, hcc⟩ := h.r2
  exact ⟨⟨a, (hc.block g0 (lt_of_block ha) (by simp)).trans ha⟩, ⟨b, (hc.block g1 (lt_of_block hb) (by simp)).trans hb⟩, ⟨c, (hc.block g2 (lt_of_block hcc) (by simp)).trans hcc⟩, h.laid.chg hc (by simp), h.chg.trans hc (by simp)⟩
theorem Awk3.drew {w wx : World} {g0 g1 g2 : Nat} {r x : Array Value} (h : Awk3 w g0 g1 g2 r x wx) : Awk3 w g0 g1 g2 r x wx.drew := h.step (Chg.drewN [] wx 1)
theorem range_of_row {wx : World} {g : Nat} {l : List Value} (h : ∃ fr, wx.heap[g]? = some (.cells l.toArray 23 fr)) : wx.rangeAt g 0 l := by
  intro j v hv
  obtain ⟨fr, hg⟩ := h
  rw [cell_of_row wx g _ _ _ _ hg, Nat.zero_add]
  simpa using hv
theorem Awk3.all {w wx : World} {g0 g1 g2 : Nat} {l m : List Value} (h : Awk3 w g0 g1 g2 l.toArray m.toArray wx) : wx.rangeAt g0 0 l ∧ wx.rangeAt g1 0 m ∧ wx.rangeAt g2 0 m ∧ Awk3 w g0 g1 g2 l.toArray m.toArray wx :=
  ⟨range_of_row h.r0, range_of_row h.r1, range_of_row h.r2, h⟩

set_option maxRecDepth 100000 in
set_option maxHeartbeats 8000000 in
theorem sha_texts (f : Nat → UInt8) (s : ByteArray) (hs : s.size ≤ 9223372036854775807) (W : World) (hL : Laid W) :
    Calls Tryd.prog 3 #[hashV f, .string s] W (Holds W) := by
  obtain ⟨Z, hZ, hz, hsz, hz1⟩ := zeroHash
  have HT : Hid (∀ w, Calls Tryd.prog 11 #[hashV f] w fun e w' => e = .returned (.string ⟨(textTo f 32).toArray⟩) ∧ Chg [] w w') := Lib.hid (fun w => (sha_text f w).mono fun e w' ⟨h1, h2⟩ => ⟨h1, chg_below h2⟩)
  have HR : Hid (∀ w, Calls Tryd.prog 12 #[hashV f] w fun e w' => e = .returned (.string ⟨(textTo f 32).toArray⟩) ∧ Chg [] w w') := Lib.hid (fun w => ref_text f w)
  generalize (⟨(textTo f 32).toArray⟩ : ByteArray) = T at HT HR
  have HS : Hid (∀ w, Calls Tryd.prog 9 #[.string s] w fun e w' => e = .returned (.tuple #[hashV (ofV s.data.toList), .bool (ofOk s.data.toList)]) ∧ Chg [] w w') := Lib.hid (fun w => sha_of s w hs)
  have HO : Hid (∀ w, s.size ≤ 1000000 → Calls Tryd.prog 10 #[.string s] w fun e w' => e = .returned (.tuple #[hashV (ofV s.data.toList), .bool (ofOk s.data.toList)]) ∧ Chg [] w w') := Lib.hid (fun w h => ref_of s w h)
  have heq : Hid (∀ w : World, (Op.equalIn 10000 23 (hashV (ofV s.data.toList)) (hashV (ofV s.data.toList))).run Tryd.prog w = .ok true w) := Lib.hid (fun w => by
    have h := run_eq_hash (ofV s.data.toList) (ofV s.data.toList) w
    rw [sameHash_self] at h
    unfold hashV at h ⊢
    rw [run_eql_struct] at h
    generalize (Op.equalIn 10000 23 (.agg (hashC (ofV s.data.toList))) (.agg (hashC (ofV s.data.toList)))).run Tryd.prog w = q at h ⊢
    cases q with
    | ok b w2 => simp only [Result.andThen, Result.ok.injEq, Value.bool.injEq] at h; rw [h.1, h.2]
    | halt x w2 => simp [Result.andThen] at h)
  clear hZ
  unfold hashV at *
  have hHs : (hashC f).size = 32 := hashC_size _
  have hH1 : (hashC f).all (·.oneCell') = true := hashC_one _
  have hXs : (hashC (ofV s.data.toList)).size = 32 := hashC_size _
  have hX1 : (hashC (ofV s.data.toList)).all (·.oneCell') = true := hashC_one _
  generalize hashC f = H at *
  generalize hashC (ofV s.data.toList) = X at *
  generalize ofOk s.data.toList = ok at *
  have N2 := Lib.hid (fun w => new_hash w Z X hsz hXs hX1)
  have h0 := Lib.hid (heap_alloc_new W (.cells H 23))
  have C0 := Chg.alloc [] W (.cells H 23)
  clear hH1 hX1 hz1
  by_cases hbig : 20000 < (s.size : Int)
  · go_enter Tryd.func3, Tryd.ntmps3
    go_wp2_with fail
    refine (sha_awake _ (hL.chg C0 (by simp))).mono ?_
    rintro e w1 ⟨rfl, C1⟩
    go_wp2_with fail
    go_ret
    exact ⟨rfl, C0.trans C1 (by simp)⟩
  · have hsm : s.size ≤ 1000000 := by omega
    go_enter Tryd.func3, Tryd.ntmps3
    go_wp2_with fail
    generalize W.alloc (.cells H 23) = w0 at *
    obtain ⟨g0, hg0⟩ : ∃ g, W.heap.size = g := ⟨_, rfl⟩
    rw [hg0] at h0 ⊢
    refine (HS.out _).mono ?_
    rintro e w1 ⟨rfl, C1⟩
    go_upto_region 4 with (refine wpList_store_x _ rfl 23 (.tmp 5) (.tmp 16) rfl _ (N2.out _) ?_)
    have C2 := C1.trans (Chg.alloc [] w1 (.cells X 23)) (by simp)
    have h12 := Lib.hid (heap_alloc_new w1 (.cells X 23))
    have h02 := Lib.hid ((C2.block g0 (lt_of_block h0.out) (by simp)).trans h0.out)
    have T2 := C0.trans C2 (by simp)
    clear h0 C0 C1 C2
    generalize w1.alloc (.cells X 23) = w2 at *
    obtain ⟨g1, hg1⟩ : ∃ g, w1.heap.size = g := ⟨_, rfl⟩
    rw [hg1] at h12 ⊢
    clear hg1
    go_wp2_with fail
    refine (HO.out _ hsm).mono ?_
    rintro e w3 ⟨rfl, C3⟩
    go_upto_region 5 with (refine wpList_store_x _ rfl 23 (.tmp 7) (.tmp 21) rfl _ (N2.out _) ?_)
    have C4 := C3.trans (Chg.alloc [] w3 (.cells X 23)) (by simp)
    have h24 := Lib.hid (heap_alloc_new w3 (.cells X 23))
    have h14 := Lib.hid ((C4.block g1 (lt_of_block h12.out) (by simp)).trans h12.out)
    have h04 := Lib.hid ((C4.block g0 (lt_of_block h02.out) (by simp)).trans h02.out)
    have T4 := T2.trans C4 (by simp)
    clear h02 h12 C3 C4 T2
    generalize w3.alloc (.cells X 23) = w4 at *
    obtain ⟨g2, hg2⟩ : ∃ g, w3.heap.size = g := ⟨_, rfl⟩
    rw [hg2] at h24 ⊢
    clear hg2
    obtain ⟨l, rfl⟩ : ∃ l : List Value, H = l.toArray := ⟨H.toList, by simp⟩
    obtain ⟨m, rfl⟩ : ∃ m : List Value, X = m.toArray := ⟨X.toList, by simp⟩
    have hu := Tryd.underlying23
    have hi : (Tryd.prog.info? 23).map (·.size) = some l.length := by rw [infoHash]; simp at hHs; rw [hHs]
    have hi2 : (Tryd.prog.info? 23).map (·.size) = some m.length := by rw [infoHash]; simp at hXs; rw [hXs]
    have A0 : Awk3 W g0 g1 g2 l.toArray m.toArray w4 := ⟨⟨_, h04.out⟩, ⟨_, h14.out⟩, ⟨_, h24.out⟩, hL.chg T4 (by simp), T4⟩
    have heq2 := heq.out
    clear h04 h14 h24 T4 hL N2 HS HO hz heq
    refine wp_region_held_drew (S := fun w' => w'.rangeAt g0 0 l ∧ w'.rangeAt g1 0 m ∧ w'.rangeAt g2 0 m ∧ Awk3 W g0 g1 g2 l.toArray m.toArray w') (by kernel_rfl) A0.drew.all (fun H0 => ?_)
    refine wpAnyH_take (i := 0) rfl (by kernel_rfl) (by kernel_rfl) (by kernel_rfl) (fun _ _ _ h => h) (yieldsIf_load_mid (by rfl) _ _ rfl _ _ rfl l _ (fun w' h => h.1) hu rfl hi) H0 ?_
    (try simp only [Act.put, List.getElem_toArray, List.getElem_cons_succ, List.getElem_cons_zero, List.setIfInBounds_toArray, List.set_cons_zero, List.set_cons_succ])
    refine wpAnyH_take (i := 2) rfl (by kernel_rfl) (by kernel_rfl) (by kernel_rfl) (fun _ _ _ h => h) (yieldsIf_load_mid (by rfl) _ _ rfl _ _ rfl l _ (fun w' h => h.1) hu rfl hi) H0 ?_
    (try simp only [Act.put, List.getElem_toArray, List.getElem_cons_succ, List.getElem_cons_zero, List.setIfInBounds_toArray, List.set_cons_zero, List.set_cons_succ])
    refine wpAnyH_ready (rs := [1]) (by kernel_rfl) (by simp) (AllReadyH.cons rfl (fun K hK => ?_) AllReadyH.nil)
    go_simp
    refine (HT.out _).mono ?_
    rintro e wH1 ⟨rfl, CH1⟩
    have A1 := H0.2.2.2.step CH1
    go_simp
    refine hK.out _ _ A1.all (fun H1 => ?_)
    clear hK K
    refine wpAnyH_ready (rs := [3]) (by kernel_rfl) (by simp) (AllReadyH.cons rfl (fun K hK => ?_) AllReadyH.nil)
    go_simp
    refine (HR.out _).mono ?_
    rintro e wH3 ⟨rfl, CH3⟩
    have A3 := H1.2.2.2.step CH3
    go_simp
    refine hK.out _ _ A3.all (fun H3 => ?_)
    clear hK K
    refine' wpAnyH_take (i := 4) (v := _) rfl (by kernel_rfl) (by kernel_rfl) (by kernel_rfl) (fun _ _ _ h => h) (Or.inl ⟨by rfl, ?hy4⟩) H3 ?rest4
    case hy4 =>
      intro w' hSw
      go_simp
      try with_reducible rfl
    (try simp only [Act.put, List.getElem_toArray, List.getElem_cons_succ, List.getElem_cons_zero, List.setIfInBounds_toArray, List.set_cons_zero, List.set_cons_succ])
    refine' wpAnyH_take (i := 5) (v := _) rfl (by kernel_rfl) (by kernel_rfl) (by kernel_rfl) (fun _ _ _ h => h) (Or.inl ⟨by rfl, ?hy5⟩) H3 ?rest5
    case hy5 =>
      intro w' hSw
      go_simp
      try with_reducible rfl
    (try simp only [Act.put, List.getElem_toArray, List.getElem_cons_succ, List.getElem_cons_zero, List.setIfInBounds_toArray, List.set_cons_zero, List.set_cons_succ])
    refine wpAnyH_take (i := 6) rfl (by kernel_rfl) (by kernel_rfl) (by kernel_rfl) (fun _ _ _ h => h) (yieldsIf_load_mid (by rfl) _ _ rfl _ _ rfl m _ (fun w' h => h.2.1) hu rfl hi2) H3 ?_
    (try simp only [Act.put, List.getElem_toArray, List.getElem_cons_succ, List.getElem_cons_zero, List.setIfInBounds_toArray, List.set_cons_zero, List.set_cons_succ])
    refine wpAnyH_take (i := 7) rfl (by kernel_rfl) (by kernel_rfl) (by kernel_rfl) (fun _ _ _ h => h) (yieldsIf_load_mid (by rfl) _ _ rfl _ _ rfl m _ (fun w' h => h.2.2.1) hu rfl hi2) H3 ?_
    (try simp only [Act.put, List.getElem_toArray, List.getElem_cons_succ, List.getElem_cons_zero, List.setIfInBounds_toArray, List.set_cons_zero, List.set_cons_succ])
    refine' wpAnyH_take (i := 8) (v := _) rfl (by kernel_rfl) (by kernel_rfl) (by kernel_rfl) (fun _ _ _ h => h) (Or.inl ⟨by rfl, ?hy8⟩) H3 ?rest8
    case hy8 =>
      intro w' hSw
      go_simp
      try with_reducible rfl
    (try simp only [Act.put, List.getElem_toArray, List.getElem_cons_succ, List.getElem_cons_zero, List.setIfInBounds_toArray, List.set_cons_zero, List.set_cons_succ])
    refine' wpAnyH_take (i := 9) (v := _) rfl (by kernel_rfl) (by kernel_rfl) (by kernel_rfl) (fun _ _ _ h => h) (Or.inl ⟨by rfl, ?hy9⟩) H3 ?rest9
    case hy9 =>
      intro w' hSw
      go_simp
      try with_reducible rfl
    (try simp only [Act.put, List.getElem_toArray, List.getElem_cons_succ, List.getElem_cons_zero, List.setIfInBounds_toArray, List.set_cons_zero, List.set_cons_succ])
    refine' wpAnyH_take (i := 10) (v := _) rfl (by kernel_rfl) (by kernel_rfl) (by kernel_rfl) (fun _ _ _ h => h) (Or.inl ⟨by rfl, ?hy10⟩) H3 ?rest10
    case hy10 =>
      intro w' hSw
      go_simp
      try with_reducible rfl
    (try simp only [Act.put, List.getElem_toArray, List.getElem_cons_succ, List.getElem_cons_zero, List.setIfInBounds_toArray, List.set_cons_zero, List.set_cons_succ])
    refine' wpAnyH_take (i := 11) (v := _) rfl (by kernel_rfl) (by kernel_rfl) (by kernel_rfl) (fun _ _ _ h => h) (Or.inl ⟨by rfl, ?hy11⟩) H3 ?rest11
    case hy11 =>
      intro w' hSw
      go_simp
      try with_reducible rfl
    (try simp only [Act.put, List.getElem_toArray, List.getElem_cons_succ, List.getElem_cons_zero, List.setIfInBounds_toArray, List.set_cons_zero, List.set_cons_succ])
    refine' wpAnyH_take (i := 12) (v := _) rfl (by kernel_rfl) (by kernel_rfl) (by kernel_rfl) (fun _ _ _ h => h) (Or.inl ⟨by rfl, ?hy12⟩) H3 ?rest12
    case hy12 =>
      intro w' hSw
      go_simp
      try with_reducible rfl
    (try simp only [Act.put, List.getElem_toArray, List.getElem_cons_succ, List.getElem_cons_zero, List.setIfInBounds_toArray, List.set_cons_zero, List.set_cons_succ])
    refine' wpAnyH_take (i := 13) (v := _) rfl (by kernel_rfl) (by kernel_rfl) (by kernel_rfl) (fun _ _ _ h => h) (Or.inl ⟨by rfl, ?hy13⟩) H3 ?rest13
    case hy13 =>
      intro w' hSw
      go_simp
      try with_reducible rfl
    (try simp only [Act.put, List.getElem_toArray, List.getElem_cons_succ, List.getElem_cons_zero, List.setIfInBounds_toArray, List.set_cons_zero, List.set_cons_succ])
    refine' wpAnyH_take (i := 14) (v := _) rfl (by kernel_rfl) (by kernel_rfl) (by kernel_rfl) (fun _ _ _ h => h) (Or.inl ⟨by rfl, ?hy14⟩) H3 ?rest14
    case hy14 =>
      intro w' hSw
      go_simp
      try with_reducible rfl
    (try simp only [Act.put, List.getElem_toArray, List.getElem_cons_succ, List.getElem_cons_zero, List.setIfInBounds_toArray, List.set_cons_zero, List.set_cons_succ])
    refine' wpAnyH_take (i := 15) (v := _) rfl (by kernel_rfl) (by kernel_rfl) (by kernel_rfl) (fun _ _ _ h => h) (Or.inl ⟨by rfl, ?hy15⟩) H3 ?rest15
    case hy15 =>
      intro w' hSw
      go_simp
      try with_reducible rfl
    (try simp only [Act.put, List.getElem_toArray, List.getElem_cons_succ, List.getElem_cons_zero, List.setIfInBounds_toArray, List.set_cons_zero, List.set_cons_succ])
    refine wpAnyH_ready (rs := [16]) (by kernel_rfl) (by simp) (AllReadyH.cons rfl (fun K hK => ?_) AllReadyH.nil)
    go_simp
    refine (sha_awake _ H3.2.2.2.laid).mono ?_
    rintro e wH5 ⟨rfl, CH5⟩
    have A5 := H3.2.2.2.step CH5
    go_simp
    refine hK.out _ _ A5.all (fun H5 => ?_)
    clear hK K
    refine' wpAnyH_take (i := 17) (v := _) rfl (by kernel_rfl) (by kernel_rfl) (by kernel_rfl) (fun _ _ _ h => h) (Or.inl ⟨by rfl, ?hy17⟩) H5 ?rest17
    case hy17 =>
      intro w' hSw
      go_simp
      try with_reducible rfl
    (try simp only [Act.put, List.getElem_toArray, List.getElem_cons_succ, List.getElem_cons_zero, List.setIfInBounds_toArray, List.set_cons_zero, List.set_cons_succ])
    refine' wpAnyH_take (i := 18) (v := _) rfl (by kernel_rfl) (by kernel_rfl) (by kernel_rfl) (fun _ _ _ h => h) (Or.inl ⟨by rfl, ?hy18⟩) H5 ?rest18
    case hy18 =>
      intro w' hSw
      go_simp
      try with_reducible rfl
    (try simp only [Act.put, List.getElem_toArray, List.getElem_cons_succ, List.getElem_cons_zero, List.setIfInBounds_toArray, List.set_cons_zero, List.set_cons_succ])
    refine wpAnyH_done (by kernel_rfl) ?_ _
    go_wp2_with fail
    go_ret
    exact ⟨rfl, A5.chg⟩
end Go.Proofs.YtccicfmaapaifaaDoor
