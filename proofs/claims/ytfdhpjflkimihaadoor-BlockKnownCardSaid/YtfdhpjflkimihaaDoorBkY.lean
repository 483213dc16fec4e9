/- The law's finds and awake. No conditions beyond those that each statement types. -/
import Derived.Test.YtfdhpjflkimihaaDoorBkX
namespace Go.Proofs.YtfdhpjflkimihaaDoor
open Go.RowKit

set_option maxRecDepth 100000 in
set_option maxHeartbeats 4000000 in
theorem law_finds (b : Nat) (F : Files) (S : List Nat) (nm : ByteArray) (n : Nat) (w : World) (hL : Laid w) (H : FinderAt w b F S) (hFl : F.length ≤ 30000) (hf : findL F (hkey (digest m_x16)) = some ((nm, n), m_x16))
    (hq : ∀ w, (binOp .eql 57 (.agg (plC (nm, n))) (.agg #[.string nm, .int .i64 n])).run Tryd.prog w = .ok (.bool true) w) :
    Calls Tryd.prog 38 #[.pointer (some ⟨b, 0, none⟩), .string (many 120 16), .string nm, .int .i64 n] w (Holds w) := by
  have HL := Lib.hid hL
  have HH := Lib.hid H
  have HFF := Lib.hid hf
  clear hL H hf
  go_enter Tryd.func38, Tryd.ntmps38
  go_wp2_with (refine wpList_bytes_of_str _ rfl 9 25 _ rfl 5 Tryd.underlying9 Tryd.underlying25 Tryd.underlying5 (many 120 16) rfl 16 rfl m_x16 rfl ?_)
  intro g c w1 hc M1
  have KS := sha_digest m_x16 (some ⟨g, 0, none⟩) c w1 (HL.out.chg M1.chg (by simp)) M1.src hc (by decide) (fun a ha => by cases ha; exact M1.new.2)
  rw [show m_x16.length = 16 from rfl, ← hkV_hkey] at KS
  have HKS := Lib.hid KS
  have HC1 := Lib.hid M1.chg
  clear KS M1 hc
  go_wp2_with fail
  refine HKS.out.mono ?_
  rintro e w2 ⟨rfl, C2⟩
  have HC2 := Lib.hid (HC1.out.trans C2 (by simp))
  have KF := blk_find b F S (hkey (digest m_x16)) w2 (HH.out.chg HC2.out (by simp)) hFl
  rw [HFF.out] at KF
  have HKF := Lib.hid KF
  clear KF C2 HC1 HKS HFF
  go_wp2_with fail
  refine HKF.out.mono ?_
  rintro e w3 ⟨C3, a3, c3, rfl, ho3, hn3⟩
  rw [show m_x16.length = 16 from rfl] at ho3 ⊢
  have HST := run_storeAt_new w3 57 #[.string ⟨#[]⟩, .int .i64 0] (plC (nm, n)) Tryd.infoPl rfl (plC_one (nm, n))
  have HC3 := Lib.hid (HC2.out.trans C3 (by simp))
  have HO3 := Lib.hid ho3
  clear ho3 hn3 C3 HC2 HKF
  go_upto_region 2 with (refine wpList_store_y 57 (.tmp 10) (.tmp 19) rfl rfl (.pointer (some ⟨w3.heap.size, 0, none⟩)) (.agg (plC (nm, n))) _ HST rfl rfl ?_)
  have hx4 := heap_alloc_new w3 (.cells (plC (nm, n)) 57)
  have C4 := Chg.alloc [] w3 (.cells (plC (nm, n)) 57)
  generalize w3.alloc (.cells (plC (nm, n)) 57) = w4 at *
  have hld := load_pl w4 _ (nm, n) hx4
  have hsr := ownsRow_src (ownsRow_chg HO3.out C4 (by simp))
  have HC4 := Lib.hid (HC3.out.trans C4 (by simp))
  clear HST HC3 HO3 C4
  go_wp2_with (first | (refine wpList_str_of_bytes _ rfl 25 9 (.tmp 23) rfl 5 Tryd.underlying25 Tryd.underlying5 Tryd.underlying9 a3 16 c3 rfl (many 120 16) rfl hsr ?_) | (refine wpList_load_y 57 (.tmp 10) rfl rfl (.pointer (some ⟨w3.heap.size, 0, none⟩)) (.agg (plC (nm, n))) hld rfl ?_))
  go_ret
  exact ⟨rfl, HC4.out⟩
def m_abc : List UInt8 := [97, 98, 99]
theorem abc_list : listO m_abc = some [digest m_abc] := by
  have h : partsL m_abc = [m_abc] := by decide
  have h2 : ¬ 4096 < m_abc.length := by decide
  simp [listO, listL, h, h2]
theorem src_litb (l : List UInt8) (w : World) (t : TypeId) (fr : Nat × Nat) : Src (w.alloc (.cells (bvs l).toArray t fr)) (some ⟨w.heap.size, 0, none⟩) (bvs l) := by
  have := src_row w (bvs l).toArray t fr
  simpa using this
set_option maxRecDepth 100000 in
set_option maxHeartbeats 4000000 in
theorem law_awake (w : World) (hL : Laid w) : Calls Tryd.prog 19 #[] w (Holds w) := by
  have HL := Lib.hid hL
  have kc := fun (w : World) (C : Array Value) (n c : Nat) => Lib.run_convert_bytes_const (P := Tryd.prog) w 25 5 C n c Tryd.underlying25 Tryd.underlying5
  clear hL
  go_enter Tryd.func19, Tryd.ntmps19
  go_wp2_with fail
  refine (law_two w HL.out).mono ?_
  rintro e w1 ⟨b, S, rfl, H1, hS1, C1⟩
  have CA := Chg.alloc [] w1 (.cells (bvs m_abc).toArray 5 (3, 4))
  have hsr := src_litb m_abc w1 5 (3, 4)
  have KL := blk_List m_abc (some ⟨w1.heap.size, 0, none⟩) 3 _ (HL.out.chg (C1.trans CA (by simp)) (by simp)) hsr (by decide)
  rw [abc_list] at KL
  have HKL := Lib.hid KL
  have HF := Lib.hid H1
  have HC1 := Lib.hid (C1.trans CA (by simp))
  have HCA := Lib.hid CA
  clear H1 hS1 C1 CA hsr KL
  go_wp2_with fail
  refine HKL.out.mono ?_
  rintro e w3 ⟨C3, ao, c, rfl, ho3, hn3⟩
  have HC3 := Lib.hid (HC1.out.trans C3 (by simp))
  have HF3 := Lib.hid ((HF.out.chg HCA.out (by simp)).chg C3 (by simp))
  obtain ⟨g, rfl⟩ := ownsRow_head ho3 (by decide)
  obtain ⟨R, hR⟩ : ∃ R, hashC (digest m_abc) = R := ⟨_, rfl⟩
  have HLD := Lib.hid (fun w' (C : Chg [] w3 w') => by
    have := load_of_list (L := [digest m_abc]) (ownsRow_chg ho3 C (by simp)) rfl (i := 0) (f := digest m_abc) rfl
    rw [hR] at this
    exact this)
  have hd : hashV (digest m_abc) = .agg R := by rw [hashV, hR]
  have HQ := Lib.hid (fun w' => by
    have := run_eq_hash (digest m_abc) (digest m_abc) w'
    rw [show sameHash (digest m_abc) (digest m_abc) = true by unfold sameHash; rw [List.all_eq_true]; intro i _; simp, hd] at this
    exact this)
  have KF := Lib.hid (fun w' (C : Chg [] w3 w') => law_finds b twoF S nmA 1 w' (HL.out.chg (HC3.out.trans C (by simp)) (by simp)) (HF3.out.chg C (by simp)) (by decide) find_two (fun _ => by kernel_rfl))
  have KSZ := Lib.hid (fun w' => blk_size 513 w')
  have KCT := Lib.hid (fun w' => blk_count 513 w')
  have KSM := Lib.hid (fun w' (C : Chg [] w3 w') (q : Nat) (hs : Src w' (some ⟨q, 0, none⟩) (bvs m_abc)) (hq : q < w'.heap.size) => by
    have := sha_digest m_abc (some ⟨q, 0, none⟩) 3 w' (HL.out.chg (HC3.out.trans C (by simp)) (by simp)) hs (by decide) (by decide) (fun a ha => by cases ha; exact hq)
    rw [hd] at this
    exact this)
  clear HKL ho3 hn3 C3 hR hd HF HC1 HCA
  rw [show [digest m_abc].length = 1 from rfl]
  go_upto_region 3 with (fail)
  refine wp_region_held_drew (S := fun w' => Chg [] w3 w') (by kernel_rfl) (Chg.drewN _ w3 1) (fun H0 => ?_)
  refine' wpAnyH_take (i := 0) (v := _) rfl (by kernel_rfl) (by kernel_rfl) (by kernel_rfl) (fun _ _ _ h => h) (Or.inl ⟨by rfl, ?hya0⟩) H0 ?resta0
  case hya0 =>
    intro w' hSw
    have s1 := hSw
    go_simp
    try with_reducible rfl
  (try simp only [Act.put, List.getElem_toArray, List.getElem_cons_zero, List.setIfInBounds_toArray, List.set_cons_zero, List.set_cons_succ])
  refine' wpAnyH_take (i := 1) (v := _) rfl (by kernel_rfl) (by kernel_rfl) (by kernel_rfl) (fun _ _ _ h => h) (Or.inl ⟨by rfl, ?hya1⟩) H0 ?resta1
  case hya1 =>
    intro w' hSw
    have s1 := hSw
    go_simp
    try with_reducible rfl
  (try simp only [Act.put, List.getElem_toArray, List.getElem_cons_succ, List.getElem_cons_zero, List.setIfInBounds_toArray, List.set_cons_zero, List.set_cons_succ])
  refine' wpAnyH_take (i := 2) (v := _) rfl (by kernel_rfl) (by kernel_rfl) (by kernel_rfl) (fun _ _ _ h => h) (Or.inl ⟨by rfl, ?hya2⟩) H0 ?resta2
  case hya2 =>
    intro w' hSw
    have s1 := hSw
    go_simp
    try with_reducible rfl
  (try simp only [Act.put, List.getElem_toArray, List.getElem_cons_succ, List.getElem_cons_zero, List.setIfInBounds_toArray, List.set_cons_zero, List.set_cons_succ])
  refine' wpAnyH_take (i := 3) (v := _) rfl (by kernel_rfl) (by kernel_rfl) (by kernel_rfl) (fun _ _ _ h => h) (Or.inl ⟨by rfl, ?hya3⟩) H0 ?resta3
  case hya3 =>
    intro w' hSw
    have s1 := hSw
    go_simp
    try with_reducible rfl
  (try simp only [Act.put, List.getElem_toArray, List.getElem_cons_succ, List.getElem_cons_zero, List.setIfInBounds_toArray, List.set_cons_zero, List.set_cons_succ])
  refine wpAnyH_ready (rs := [4]) (by kernel_rfl) (by simp) (AllReadyH.cons rfl (fun K hK => ?_) AllReadyH.nil)
  go_simp
  refine (repeat_one 120 16 (by omega) _).mono ?_
  rintro e wx ⟨rfl, Cx⟩
  go_simp
  refine hK.out _ _ (H0.trans Cx (by simp)) (fun H1 => ?_)
  clear hK K Cx
  refine wpAnyH_ready (rs := [5]) (by kernel_rfl) (by simp) (AllReadyH.cons rfl (fun K hK => ?_) AllReadyH.nil)
  go_simp
  refine (KF.out _ H1).mono ?_
  rintro e wx ⟨rfl, Cx⟩
  go_simp
  refine hK.out _ _ (H1.trans Cx (by simp)) (fun H2 => ?_)
  clear hK K Cx
  refine' wpAnyH_take (i := 6) (v := _) rfl (by kernel_rfl) (by kernel_rfl) (by kernel_rfl) (fun _ _ _ h => h) (Or.inl ⟨by rfl, ?hya6⟩) H2 ?resta6
  case hya6 =>
    intro w' hSw
    have s1 := hSw
    go_simp
    try with_reducible rfl
  (try simp only [Act.put, List.getElem_toArray, List.getElem_cons_succ, List.getElem_cons_zero, List.setIfInBounds_toArray, List.set_cons_zero, List.set_cons_succ])
  refine' wpAnyH_take (i := 7) (v := _) rfl (by kernel_rfl) (by kernel_rfl) (by kernel_rfl) (fun _ _ _ h => h) (Or.inl ⟨by rfl, ?hya7⟩) H2 ?resta7
  case hya7 =>
    intro w' hSw
    have s1 := hSw
    go_simp
    try with_reducible rfl
  (try simp only [Act.put, List.getElem_toArray, List.getElem_cons_succ, List.getElem_cons_zero, List.setIfInBounds_toArray, List.set_cons_zero, List.set_cons_succ])
  refine wpAnyH_ready (rs := [8]) (by kernel_rfl) (by simp) (AllReadyH.cons rfl (fun K hK => ?_) AllReadyH.nil)
  go_simp
  refine (KSZ.out _).mono ?_
  rintro e wx ⟨rfl, rfl⟩
  go_simp
  refine hK.out _ _ H2 (fun H3 => ?_)
  clear hK K
  refine' wpAnyH_take (i := 9) (v := _) rfl (by kernel_rfl) (by kernel_rfl) (by kernel_rfl) (fun _ _ _ h => h) (Or.inl ⟨by rfl, ?hya9⟩) H3 ?resta9
  case hya9 =>
    intro w' hSw
    have s1 := hSw
    go_simp
    try with_reducible rfl
  (try simp only [Act.put, List.getElem_toArray, List.getElem_cons_succ, List.getElem_cons_zero, List.setIfInBounds_toArray, List.set_cons_zero, List.set_cons_succ])
  refine' wpAnyH_take (i := 10) (v := _) rfl (by kernel_rfl) (by kernel_rfl) (by kernel_rfl) (fun _ _ _ h => h) (Or.inl ⟨by rfl, ?hya10⟩) H3 ?resta10
  case hya10 =>
    intro w' hSw
    have s1 := hSw
    go_simp
    try with_reducible rfl
  (try simp only [Act.put, List.getElem_toArray, List.getElem_cons_succ, List.getElem_cons_zero, List.setIfInBounds_toArray, List.set_cons_zero, List.set_cons_succ])
  refine' wpAnyH_take (i := 11) (v := _) rfl (by kernel_rfl) (by kernel_rfl) (by kernel_rfl) (fun _ _ _ h => h) (Or.inl ⟨by rfl, ?hya11⟩) H3 ?resta11
  case hya11 =>
    intro w' hSw
    have s1 := hSw
    go_simp
    try with_reducible rfl
  (try simp only [Act.put, List.getElem_toArray, List.getElem_cons_succ, List.getElem_cons_zero, List.setIfInBounds_toArray, List.set_cons_zero, List.set_cons_succ])
  refine wpAnyH_ready (rs := [12]) (by kernel_rfl) (by simp) (AllReadyH.cons rfl (fun K hK => ?_) AllReadyH.nil)
  go_simp
  refine (KCT.out _).mono ?_
  rintro e wx ⟨rfl, rfl⟩
  go_simp
  refine hK.out _ _ H3 (fun H4 => ?_)
  clear hK K
  refine' wpAnyH_take (i := 13) (v := _) rfl (by kernel_rfl) (by kernel_rfl) (by kernel_rfl) (fun _ _ _ h => h) (Or.inl ⟨by rfl, ?hya13⟩) H4 ?resta13
  case hya13 =>
    intro w' hSw
    have s1 := hSw
    go_simp
    try with_reducible rfl
  (try simp only [Act.put, List.getElem_toArray, List.getElem_cons_succ, List.getElem_cons_zero, List.setIfInBounds_toArray, List.set_cons_zero, List.set_cons_succ])
  refine' wpAnyH_take (i := 14) (v := _) rfl (by kernel_rfl) (by kernel_rfl) (by kernel_rfl) (fun _ _ _ h => h) (Or.inl ⟨by rfl, ?hya14⟩) H4 ?resta14
  case hya14 =>
    intro w' hSw
    have s1 := hSw
    go_simp
    try with_reducible rfl
  (try simp only [Act.put, List.getElem_toArray, List.getElem_cons_succ, List.getElem_cons_zero, List.setIfInBounds_toArray, List.set_cons_zero, List.set_cons_succ])
  refine' wpAnyH_take (i := 15) (v := _) rfl (by kernel_rfl) (by kernel_rfl) (by kernel_rfl) (fun _ _ _ h => h) (Or.inl ⟨by rfl, ?hya15⟩) H4 ?resta15
  case hya15 =>
    intro w' hSw
    have s1 := hSw
    go_simp
    try with_reducible rfl
  (try simp only [Act.put, List.getElem_toArray, List.getElem_cons_succ, List.getElem_cons_zero, List.setIfInBounds_toArray, List.set_cons_zero, List.set_cons_succ])
  refine' wpAnyH_take (i := 16) (v := _) rfl (by kernel_rfl) (by kernel_rfl) (by kernel_rfl) (fun _ _ _ h => h) (Or.inl ⟨by rfl, ?hya16⟩) H4 ?resta16
  case hya16 =>
    intro w' hSw
    have s1 := hSw
    go_simp
    try with_reducible rfl
  (try simp only [Act.put, List.getElem_toArray, List.getElem_cons_succ, List.getElem_cons_zero, List.setIfInBounds_toArray, List.set_cons_zero, List.set_cons_succ])
  refine' wpAnyH_take (i := 17) (v := _) rfl (by kernel_rfl) (by kernel_rfl) (by kernel_rfl) (fun _ _ _ h => h) (Or.inl ⟨by rfl, ?hya17⟩) H4 ?resta17
  case hya17 =>
    intro w' hSw
    have s1 := hSw
    go_simp
    try with_reducible rfl
  (try simp only [Act.put, List.getElem_toArray, List.getElem_cons_succ, List.getElem_cons_zero, List.setIfInBounds_toArray, List.set_cons_zero, List.set_cons_succ])
  refine' wpAnyH_take (i := 18) (v := _) rfl (by kernel_rfl) (by kernel_rfl) (by kernel_rfl) (fun _ _ _ h => h) (Or.inl ⟨by rfl, ?hya18⟩) H4 ?resta18
  case hya18 =>
    intro w' hSw
    have s1 := hSw
    go_simp
    try with_reducible rfl
  (try simp only [Act.put, List.getElem_toArray, List.getElem_cons_succ, List.getElem_cons_zero, List.setIfInBounds_toArray, List.set_cons_zero, List.set_cons_succ])
  refine' wpAnyH_take (i := 19) (v := _) rfl (by kernel_rfl) (by kernel_rfl) (by kernel_rfl) (fun _ _ _ h => h) (Or.inl ⟨by rfl, ?hya19⟩) H4 ?resta19
  case hya19 =>
    intro w' hSw
    have s1 := hSw
    go_simp
    try with_reducible rfl
  (try simp only [Act.put, List.getElem_toArray, List.getElem_cons_succ, List.getElem_cons_zero, List.setIfInBounds_toArray, List.set_cons_zero, List.set_cons_succ])
  refine' wpAnyH_take (i := 20) (v := _) rfl (by kernel_rfl) (by kernel_rfl) (by kernel_rfl) (fun _ _ _ h => h) (Or.inl ⟨by rfl, ?hya20⟩) H4 ?resta20
  case hya20 =>
    intro w' hSw
    have s1 := hSw
    go_simp
    try with_reducible rfl
  (try simp only [Act.put, List.getElem_toArray, List.getElem_cons_succ, List.getElem_cons_zero, List.setIfInBounds_toArray, List.set_cons_zero, List.set_cons_succ])
  refine' wpAnyH_take (i := 21) (v := _) rfl (by kernel_rfl) (by kernel_rfl) (by kernel_rfl) (fun _ _ _ h => h) (Or.inl ⟨by rfl, ?hya21⟩) H4 ?resta21
  case hya21 =>
    intro w' hSw
    have s1 := hSw
    go_simp
    try with_reducible rfl
  (try simp only [Act.put, List.getElem_toArray, List.getElem_cons_succ, List.getElem_cons_zero, List.setIfInBounds_toArray, List.set_cons_zero, List.set_cons_succ])
  refine' wpAnyH_take (i := 22) (v := _) rfl (by kernel_rfl) (by kernel_rfl) (by kernel_rfl) (fun _ _ _ h => h) (Or.inl ⟨by rfl, ?hya22⟩) H4 ?resta22
  case hya22 =>
    intro w' hSw
    have s1 := hSw
    go_simp
    try with_reducible rfl
  (try simp only [Act.put, List.getElem_toArray, List.getElem_cons_succ, List.getElem_cons_zero, List.setIfInBounds_toArray, List.set_cons_zero, List.set_cons_succ])
  refine' wpAnyH_take (i := 23) (v := _) rfl (by kernel_rfl) (by kernel_rfl) (by kernel_rfl) (fun _ _ _ h => h) (Or.inl ⟨by rfl, ?hya23⟩) H4 ?resta23
  case hya23 =>
    intro w' hSw
    have s1 := hSw
    go_simp
    try with_reducible rfl
  (try simp only [Act.put, List.getElem_toArray, List.getElem_cons_succ, List.getElem_cons_zero, List.setIfInBounds_toArray, List.set_cons_zero, List.set_cons_succ])
  refine' wpAnyH_take (i := 24) (v := _) rfl (by kernel_rfl) (by kernel_rfl) (by kernel_rfl) (fun _ _ _ h => h) (Or.inl ⟨by rfl, ?hya24⟩) H4 ?resta24
  case hya24 =>
    intro w' hSw
    have s1 := hSw
    go_simp
    try with_reducible rfl
  (try simp only [Act.put, List.getElem_toArray, List.getElem_cons_succ, List.getElem_cons_zero, List.setIfInBounds_toArray, List.set_cons_zero, List.set_cons_succ])
  refine' wpAnyH_take (i := 25) (v := _) rfl (by kernel_rfl) (by kernel_rfl) (by kernel_rfl) (fun _ _ _ h => h) (Or.inl ⟨by rfl, ?hya25⟩) H4 ?resta25
  case hya25 =>
    intro w' hSw
    have s1 := hSw
    go_simp
    try with_reducible rfl
  (try simp only [Act.put, List.getElem_toArray, List.getElem_cons_succ, List.getElem_cons_zero, List.setIfInBounds_toArray, List.set_cons_zero, List.set_cons_succ])
  refine' wpAnyH_take (i := 26) (v := _) rfl (by kernel_rfl) (by kernel_rfl) (by kernel_rfl) (fun _ _ _ h => h) (Or.inl ⟨by rfl, ?hya26⟩) H4 ?resta26
  case hya26 =>
    intro w' hSw
    have s1 := hSw
    go_simp
    try with_reducible rfl
  (try simp only [Act.put, List.getElem_toArray, List.getElem_cons_succ, List.getElem_cons_zero, List.setIfInBounds_toArray, List.set_cons_zero, List.set_cons_succ])
  refine' wpAnyH_take (i := 27) (v := .agg R) rfl (by kernel_rfl) (by kernel_rfl) (by kernel_rfl) (fun _ _ _ h => h) (Or.inl ⟨by rfl, ?hya27⟩) H4 ?resta27
  case hya27 =>
    intro w' hSw
    have s1 := hSw
    have hl := HLD.out w' s1
    simp [execOp, Act.eval, hl, Result.andThen]
  (try simp only [Act.put, List.getElem_toArray, List.getElem_cons_succ, List.getElem_cons_zero, List.setIfInBounds_toArray, List.set_cons_zero, List.set_cons_succ])
  refine wpAnyH_ready (rs := [28]) (by kernel_rfl) (by simp) (AllReadyH.cons rfl (fun K hK => ?_) AllReadyH.nil)
  go_simp
  refine hK.out _ _ (H4.trans (Chg.alloc [] _ _) (by simp)) (fun H5 => ?_)
  clear hK K
  refine wpAnyH_ready (rs := [29]) (by kernel_rfl) (by simp) (AllReadyH.cons rfl (fun K hK => ?_) AllReadyH.nil)
  go_simp
  refine hK.out _ _ (H4.trans (Chg.alloc [] _ (.cells (bvs m_abc).toArray 5 (3, 4))) (by simp)) (fun H6 => ?_)
  clear hK K
  refine wpAnyH_ready (rs := [30]) (by kernel_rfl) (by simp) (AllReadyH.cons rfl (fun K hK => ?_) AllReadyH.nil)
  go_simp
  refine (KSM.out _ H6 _ (src_litb m_abc _ 5 (3, 4)) (by simp)).mono ?_
  rintro e wx ⟨rfl, Cx⟩
  go_simp
  refine hK.out _ _ (H6.trans Cx (by simp)) (fun H7 => ?_)
  clear hK K Cx
  refine' wpAnyH_take (i := 31) (v := .bool true) rfl (by kernel_rfl) (by kernel_rfl) (by kernel_rfl) (fun _ _ _ h => h) (Or.inl ⟨by rfl, ?hya31⟩) H7 ?resta31
  case hya31 =>
    intro w' hSw
    have s1 := hSw
    have hqq := HQ.out w'
    simp [execOp, Act.eval, hash_guard, hqq, Result.andThen]
  (try simp only [Act.put, List.getElem_toArray, List.getElem_cons_succ, List.getElem_cons_zero, List.setIfInBounds_toArray, List.set_cons_zero, List.set_cons_succ])
  refine' wpAnyH_take (i := 32) (v := _) rfl (by kernel_rfl) (by kernel_rfl) (by kernel_rfl) (fun _ _ _ h => h) (Or.inl ⟨by rfl, ?hya32⟩) H7 ?resta32
  case hya32 =>
    intro w' hSw
    have s1 := hSw
    go_simp
    try with_reducible rfl
  (try simp only [Act.put, List.getElem_toArray, List.getElem_cons_succ, List.getElem_cons_zero, List.setIfInBounds_toArray, List.set_cons_zero, List.set_cons_succ])
  refine' wpAnyH_take (i := 33) (v := _) rfl (by kernel_rfl) (by kernel_rfl) (by kernel_rfl) (fun _ _ _ h => h) (Or.inl ⟨by rfl, ?hya33⟩) H7 ?resta33
  case hya33 =>
    intro w' hSw
    have s1 := hSw
    go_simp
    try with_reducible rfl
  (try simp only [Act.put, List.getElem_toArray, List.getElem_cons_succ, List.getElem_cons_zero, List.setIfInBounds_toArray, List.set_cons_zero])
  refine wpAnyH_done (by kernel_rfl) ?_ _
  go_wp2_with fail
  go_ret
  exact ⟨rfl, HC3.out.trans H7 (by simp)⟩
end Go.Proofs.YtfdhpjflkimihaaDoor
