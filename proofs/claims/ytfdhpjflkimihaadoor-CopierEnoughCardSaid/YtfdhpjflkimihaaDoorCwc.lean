/- Rows of files and of what was got, opened; law CopierLess, walked. No conditions beyond those that each statement types. -/
import Derived.Test.YtfdhpjflkimihaaDoorCwb
import Derived.Test.YtfdhpjflkimihaaDoorBkJd
import Derived.Test.YtfdhpjflkimihaaDoorBkFk
namespace Go.Proofs.YtfdhpjflkimihaaDoor
open Go.RowKit

theorem plT_nil (N i : Nat) : plT N [] i = [] := by
  unfold plT
  split
  · rw [List.drop_nil, List.take_nil]
  · rfl
theorem right_nil {r : RecV} {N i : Nat} (g : r.Good N) (hi : i < cntN N) : rightB r i [] = false := by
  have h1 := (cntN_lt g.le i).1 hi
  have h2 := (bszN_pos g.le).1
  rw [rightB_eq, g.lenP hi, decide_eq_false (by
    intro h
    have : (0 : Int) = (min (bszN N) (N - i * bszN N) : Nat) := h
    omega)]
  rfl
/-- What is asked with earlier bytes is asked without them. -/
theorem less_step {r : RecV} {N i : Nat} (g : r.Good N) (hi : i < cntN N) (T : List UInt8) (fo : HKey → Option (Pl × List UInt8)) (h : (stepPl r N T fo i).from_ = 4) : (stepPl r N [] fo i).from_ = 4 := by
  have h2 : stepPl r N [] fo i = stepSm r i (fo (hkey (r.dig i))) ((List.range i).find? (sameBlk r i)) := by
    unfold stepPl
    rw [if_neg (by rw [plT_nil, right_nil g hi]; decide)]
  unfold stepPl at h
  split at h
  · cases h
  · rw [h2]; exact h
theorem planL_at (r : RecV) (N : Nat) (T : List UInt8) (fo : HKey → Option (Pl × List UInt8)) {n k : Nat} (h : k < n) : (planL r N T fo n)[k]? = some (stepPl r N T fo k) := by
  unfold planL
  rw [List.getElem?_map, List.getElem?_range h]
  rfl
def recV0 : RecV := ⟨false, 0, 0, 0, []⟩
theorem recZ_is (w : World) : RecIs w recZ recV0 none 0 := ⟨rfl, rfl, rfl, rfl, rfl, rfl, Src.empty _ _, Nat.le_refl _, fun _ => rfl⟩
/-- From of a step in memory. -/
theorem from_cell {w : World} {so : Option Addr} {l : List StepV} (hs : Src w so (svs l)) {k : Nat} {s : StepV} (h : l[k]? = some s) : ∃ a, so = some a ∧ ∀ w', Chg [] w w' → w'.cell? ⟨(a.add (k * 5)).block, (a.add (k * 5)).off + 1, none⟩ = some (.int .i64 s.from_) := by
  have h1 := (List.getElem?_eq_some_iff.1 h).1
  obtain ⟨a, rfl, _⟩ := hs.lt (by
    rw [show (svs l).length = l.length * 5 from flat_length (enc := fun s : StepV => s.cells.toList) (size := 5) (fun _ => rfl) l]
    omega)
  exact ⟨a, rfl, fun w' C => src_flat (w := w') (a := a) (cells := fun s : StepV => s.cells.toList) (size := 5) (fun _ => rfl) ((hs.chg C (by simp)).cell a rfl) h 1 (.int .i64 s.from_) rfl⟩
set_option maxRecDepth 100000 in
set_option maxHeartbeats 8000000 in
theorem copier_less (bo : Option Addr) (bc : Nat) (b : List UInt8) (so : Option Addr) (c : Nat) (L : List FileV) (ta : Option Addr) (tc : Nat) (T : List UInt8) (w : World) (hL : Laid w)
    (hb : Src w bo (bvs b)) (hbc : b.length ≤ bc) (hF : FilesAt w so c L) (hT : Src w ta (bvs T)) (hT6 : T.length ≤ 9223372036854775807) (hTc : T.length ≤ tc) (hT0 : ta = none → tc = 0) :
    Calls Tryd.prog 10 #[.slice bo b.length bc, .slice so L.length c, .slice ta T.length tc] w (Holds w) := by
  have KA := Lib.hid (fun w' (C : Chg [] w w') => law_awake21 w' (hL.chg C (by simp)))
  have HL := Lib.hid hL
  have HT := Lib.hid hT
  have HFS := Lib.hid hF
  have HB := Lib.hid hb
  have KLG := Lib.hid (fun w' (C : Chg [] w w') => law_large21 recZ recV0 none 0 L so c ta T.length tc none 0 0 [] none 0 w' (recZ_is w') (hF.src.chg C (by simp)) hF.cap (Src.empty _ _) (Nat.le_refl _))
  obtain ⟨bn, hbn⟩ : ∃ bn, b.length = bn := ⟨_, rfl⟩
  obtain ⟨tn, htn⟩ : ∃ tn, T.length = tn := ⟨_, rfl⟩
  obtain ⟨Ln, hLn⟩ : ∃ Ln, L.length = Ln := ⟨_, rfl⟩
  have HBN := Lib.hid hbn
  have HTN := Lib.hid htn
  have HLN := Lib.hid hLn
  have HTC := Lib.hid (show T.length ≤ tc ∧ T.length ≤ 9223372036854775807 from ⟨hTc, hT6⟩)
  have HT0 := Lib.hid hT0
  have HBC := Lib.hid hbc
  rw [htn, hLn] at KLG
  rw [hbn, htn, hLn]
  clear hbn htn hLn hL hT hF hb hT6 hTc hT0 hbc
  go_enter Tryd.func10, Tryd.ntmps10
  by_cases h4 : 4096 < bn
  · have e4 : (4096 : Int) < bn := by omega
    go_wp2_with fail
    refine (KA.out _ (Chg.refl [] w)).mono ?_
    rintro e wa ⟨rfl, Ca⟩
    have HCA := Lib.hid ((Chg.refl [] w).trans Ca (by simp))
    clear Ca
    go_wp2_with fail
    go_ret
    exact ⟨rfl, HCA.out⟩
  · have e4 : ¬ (4096 : Int) < bn := by omega
    go_wp2_with fail
    refine (KLG.out w (Chg.refl _ _)).mono ?_
    rintro e w1 ⟨rfl, C1⟩
    have HC1 := Lib.hid C1
    clear C1
    obtain ⟨LB, hLB⟩ : ∃ LB, largeB recV0.L.length tn 0 L [] = LB := ⟨_, rfl⟩
    have HLB := Lib.hid hLB
    change Hid (largeB recV0.L.length tn 0 L [] = LB) at HLB
    rw [hLB]
    clear hLB KLG
    cases LB with
    | true =>
      go_wp2_with fail
      refine (KA.out _ HC1.out).mono ?_
      rintro e wa ⟨rfl, Ca⟩
      have HCA := Lib.hid (HC1.out.trans Ca (by simp))
      clear Ca
      go_wp2_with fail
      go_ret
      exact ⟨rfl, HCA.out⟩
    | false =>
      have HL10 := Lib.hid (largeB_no HLB.out).1
      have KW := Lib.hid (by
        have := law_wanted b bo bc w1 (HL.out.chg HC1.out (by simp)) (HB.out.chg HC1.out (by simp)) (by rw [HBN.out]; omega) HBC.out
        rewrite [HBN.out] at this
        exact this)
      clear HLB
      go_wp2_with fail
      refine KW.out.mono ?_
      rintro e w2 ⟨C2, RC, ao, rc, rfl, HR, hao, hone⟩
      have hx := heap_alloc_new w2 (.cells recZ 77)
      have CA := Chg.alloc [] w2 (.cells recZ 77)
      obtain ⟨Z, hZ⟩ : ∃ Z, recZ = Z := ⟨_, rfl⟩
      have hzr := zero_rec w2
      have hzs : Z.size = 27 := by rw [← hZ]; rfl
      rw [hZ] at hzr hx CA
      obtain ⟨hst, hh, hcg⟩ := setRow_one (V := RC) hx (by rw [HR.size]; exact infoRec) (by rw [hzs, HR.size]) hone
      have C3 := hcg w2 CA (Nat.le_refl _)
      go_upto_region 4 with (first | (refine wpList_alloc_x rfl 77 rfl (.agg Z) hzr ?_) | (refine wpList_store_y 77 (.tmp 7) (.tmp 26) rfl (by first | rfl | go_simp) (.pointer (some ⟨w2.heap.size, 0, none⟩)) (.agg RC) _ hst rfl rfl ?_))
      obtain ⟨q, hq⟩ : ∃ q, w2.heap.size = q := ⟨_, rfl⟩
      rw [hq] at hh C3 ⊢
      generalize (w2.alloc (.cells Z 77)).setRow q RC = w3 at *
      have HC3 := Lib.hid ((HC1.out.trans C2 (by simp)).trans C3 (by simp))
      have HX3 := Lib.hid hh
      have HRI := Lib.hid (HR.chg0 C3)
      have HRS := Lib.hid HR.size
      have HAO := Lib.hid hao
      clear C2 hx CA hzr hzs hst hh hcg C3 HR hao hone hq hZ KW
      have HG := Lib.hid (recV_good (d := b) (by rw [HBN.out]; omega))
      have KFN := Lib.hid (by
        have := law_finders21 L so c w3 (HL.out.chg HC3.out (by simp)) (HFS.out.chg HC3.out) HL10.out
        rewrite [HLN.out] at this
        exact this)
      go_wp2_with fail
      refine KFN.out.mono ?_
      rintro e w4 ⟨fb, bg, S, TT, rfl, hFS⟩
      have HFI := Lib.hid hFS
      have HC4 := Lib.hid (HC3.out.trans hFS.chg (by simp))
      have HX4 := Lib.hid ((hFS.chg.block q (lt_of_block HX3.out) (by simp)).trans HX3.out)
      have HR4 := Lib.hid (HRI.out.chg0 hFS.chg)
      have HFF : Hid ((filesF L).length ≤ 30000) := Lib.hid (by
        have h1 := filesF_len L L.length
        have h2 := HL10.out
        rw [List.take_length] at h1
        omega)
      have hldr := run_loadAt_rec w4 q RC _ HX4.out HRS.out
      have KP := Lib.hid (by
        have := cp_plan RC (recV b) ao rc b.length HG.out (some ⟨fb, 0, none⟩) (findL (filesF L)) ta tc T w4 (HL.out.chg HC4.out (by simp)) HR4.out (finds_at HFI.out.fin HFF.out) (findL_short _) (HT.out.chg HC4.out (by simp)) HTC.out.2 HTC.out.1 HT0.out
        rewrite [HTN.out] at this
        exact this)
      have HLS := Lib.hid (fun (k : Nat) (hk : k < cntN b.length) => less_step HG.out hk T (findL (filesF L)))
      have HPT := Lib.hid (fun (k : Nat) (hk : k < cntN b.length) => planL_at (recV b) b.length T (findL (filesF L)) hk)
      have HPN := Lib.hid (fun (k : Nat) (hk : k < cntN b.length) => planL_at (recV b) b.length [] (findL (filesF L)) hk)
      have HLT := Lib.hid (planL_len (recV b) b.length T (findL (filesF L)) (cntN b.length))
      have HLZ := Lib.hid (planL_len (recV b) b.length [] (findL (filesF L)) (cntN b.length))
      have hn32 := cntN_le b.length
      obtain ⟨n, hn⟩ : ∃ n, cntN b.length = n := ⟨_, rfl⟩
      have HNN := Lib.hid hn
      rw [hn] at KP HLS HPT HPN HLT HLZ hn32
      clear hFS HX3 HRI HC3 KFN hn
      go_wp2_with (refine wpList_load_y 77 (.tmp 7) rfl (by go_simp) (.pointer (some ⟨q, 0, none⟩)) (.agg RC) hldr rfl ?_)
      refine KP.out.mono ?_
      rintro e w5 ⟨C5, po, pc, rfl, hown, _⟩
      have HC5 := Lib.hid (HC4.out.trans C5 (by simp))
      have HX5 := Lib.hid ((C5.block q (lt_of_block HX4.out) (by simp)).trans HX4.out)
      have HS5 := Lib.hid (ownsRow_src_any hown)
      have HO5 := Lib.hid (show (planL (recV b) b.length T (findL (filesF L)) n).length ≤ pc from by
        obtain ⟨_, _, hv, hpc, _⟩ := ownsRow_slice hown
        cases hv
        exact hpc)
      rw [HLT.out] at HO5 ⊢
      have KP2 := Lib.hid (by
        have := cp_plan RC (recV b) ao rc b.length HG.out (some ⟨fb, 0, none⟩) (findL (filesF L)) none 0 [] w5 (HL.out.chg HC5.out (by simp)) (HR4.out.chg0 C5) (finds_at (HFI.out.keep0 C5).fin HFF.out) (findL_short _) (Src.empty _ _) (by simp) (by simp) (fun _ => rfl)
        rewrite [HNN.out] at this
        exact this)
      have hldr := run_loadAt_rec w5 q RC _ HX5.out HRS.out
      clear C5 hown KP HX4 HC4 HFI
      go_wp2_with (refine wpList_load_y 77 (.tmp 7) rfl (by go_simp) (.pointer (some ⟨q, 0, none⟩)) (.agg RC) hldr rfl ?_)
      refine KP2.out.mono ?_
      rintro e w6 ⟨C6, qo, qc, rfl, hown, _⟩
      have HC6 := Lib.hid (HC5.out.trans C6 (by simp))
      have HS6 := Lib.hid (ownsRow_src_any hown)
      have HS5' := Lib.hid (HS5.out.chg C6 (by simp))
      have HO6 := Lib.hid (show (planL (recV b) b.length [] (findL (filesF L)) n).length ≤ qc from by
        obtain ⟨_, _, hv, hpc, _⟩ := ownsRow_slice hown
        cases hv
        exact hpc)
      rw [HLZ.out] at HO6 ⊢
      have HCA := Lib.hid (fun (k : Nat) (hk : k < n) => from_cell HS5'.out (HPT.out k hk))
      have HCB := Lib.hid (fun (k : Nat) (hk : k < n) => from_cell HS6.out (HPN.out k hk))
      have hpc := HO5.out
      have hqc := HO6.out
      generalize stepPl (recV b) b.length T (findL (filesF L)) = SA at *
      generalize stepPl (recV b) b.length [] (findL (filesF L)) = SB at *
      clear C6 hown KP2 HX5 HC5 HS5 HS5' HS6 HO5 HO6 HPT HPN HLT HLZ hldr HR4 HRS HG
      go_wp2_with fail
      go_loopw [14] (fun v wr => ∃ k : Nat, v = .int .i64 (k : Int) ∧ k ≤ n ∧ Hid (Chg [] w6 wr)) (fun v _ => n - (intOf v).toNat)
      case atStart => exact ⟨0, rfl, Nat.zero_le _, Lib.hid (Chg.refl _ _)⟩
      case round =>
        obtain ⟨k, rfl, hk, HC⟩ := hrel
        by_cases hlt : k < n
        · have e1 : (k : Int) < n := Int.ofNat_lt.2 hlt
          have e0 : (0 : Int) ≤ k := Int.natCast_nonneg _
          have hk1 : k < pc := by omega
          have hk2 : k < qc := by omega
          obtain ⟨pa, rfl, hca⟩ := HCA.out k hlt
          obtain ⟨qa, rfl, hcb⟩ := HCB.out k hlt
          have hca := hca wr HC.out
          have hcb := hcb wr HC.out
          have hls := HLS.out k hlt
          generalize (SA k).from_ = fa at *
          generalize (SB k).from_ = fz at *
          by_cases h4 : fa = 4
          · have h5 := hls h4
            subst h4 h5
            clear hls
            go_wp2_with fail
            go_roundw
            case rel => exact ⟨k + 1, by go_num, hlt, HC⟩
            case measure => simp [intOf] <;> omega
          · clear hls
            have h6 : (fa == 4) = false := by simpa using h4
            go_wp2_with fail
            go_roundw
            case rel => exact ⟨k + 1, by go_num, hlt, HC⟩
            case measure => simp [intOf] <;> omega
        · have e1 : ¬ (k : Int) < n := fun h => hlt (Int.ofNat_lt.1 h)
          have HCE := Lib.hid (HC6.out.trans HC.out (by simp))
          go_wp2_with fail
          refine (KA.out _ HCE.out).mono ?_
          rintro e wa ⟨rfl, Ca⟩
          have HCA := Lib.hid (HCE.out.trans Ca (by simp))
          clear Ca
          go_wp2_with fail
          go_ret
          exact ⟨rfl, HCA.out⟩
end Go.Proofs.YtfdhpjflkimihaaDoor
/- Which files a finder has behind acts: those of the last acts of each name; what is found of their blocks. Plain; no conditions beyond those that each statement types. -/
namespace Go.Proofs.YtfdhpjflkimihaaDoor
open Go.RowKit

def shortA (a : ActV) : Bool := decide (a.long ≤ 4096)
theorem data_length (a : ActV) : a.data.length = min a.long.toNat 5000 := by rw [ActV.data, ActV.upto_length]; rfl
theorem shortA_iff (a : ActV) : shortA a = true ↔ a.data.length ≤ 4096 := by
  rw [data_length]
  unfold shortA
  rw [decide_eq_true_iff]
  omega
def fileA (a : ActV) : ByteArray × List UInt8 := (a.name, a.data)
def putA (F : Files) (a : ActV) : Files := if shortA a then Fadd F a.name a.data else F
def filesA (A : List ActV) : Files := A.foldl putA []
/-- Does one of these put a file of this name? -/
def laterA (r : List ActV) (nm : ByteArray) : Bool := r.any fun b => decide (b.name = nm) && shortA b
def keepA (r : List ActV) (a : ActV) : Bool := !laterA r a.name && shortA a
/-- The last act of each name. -/
def lastA : List ActV → List ActV
  | [] => []
  | a :: r => if keepA r a then a :: lastA r else lastA r
theorem laterA_cons (a : ActV) (r : List ActV) (nm : ByteArray) : laterA (a :: r) nm = ((decide (a.name = nm) && shortA a) || laterA r nm) := by unfold laterA; rw [List.any_cons]
theorem foldl_putA : ∀ (A : List ActV) (F : Files), A.foldl putA F = (F.filter fun p => !laterA A p.1) ++ (lastA A).map fileA
  | [], F => by
    have : (fun p : ByteArray × List UInt8 => !laterA [] p.1) = fun _ => true := rfl
    rw [this, List.filter_eq_self.2 (fun _ _ => rfl)]
    simp [lastA]
  | a :: r, F => by
    rw [List.foldl_cons, foldl_putA r, lastA]
    unfold putA keepA
    cases hs : shortA a with
    | false =>
      have : (fun p : ByteArray × List UInt8 => !laterA (a :: r) p.1) = fun p => !laterA r p.1 := by funext p; rw [laterA_cons, hs]; simp
      rw [this]
      simp
    | true =>
      have h1 : (fun p : ByteArray × List UInt8 => !laterA (a :: r) p.1) = fun p => !laterA r p.1 && !decide (p.1 = a.name) := by
        funext p
        rw [laterA_cons, hs, Bool.and_true, Bool.not_or, Bool.and_comm]
        congr 2
        rw [decide_eq_decide]
        exact ⟨fun h => h.symm, fun h => h.symm⟩
      rw [h1, if_pos rfl, Fadd, List.filter_append, Fdel, List.filter_filter, Bool.and_true]
      cases hl : laterA r a.name with
      | true => simp [hl]
      | false => simp [hl, fileA]
theorem filesA_last (A : List ActV) : filesA A = (lastA A).map fileA := by
  unfold filesA
  rw [foldl_putA]
  rfl
theorem filesA_succ {A : List ActV} {i : Nat} {a : ActV} (h : A[i]? = some a) : filesA (A.take (i + 1)) = putA (filesA (A.take i)) a := by
  unfold filesA
  rw [take_nextE h, List.foldl_append]
  rfl
theorem putA_nodup {F : Files} (h : (F.map (·.1)).Nodup) (a : ActV) : ((putA F a).map (·.1)).Nodup := by
  unfold putA
  split
  · exact (Fadd_nodup h).1
  · exact h
theorem filesA_nodup (A : List ActV) : ((filesA A).map (·.1)).Nodup := by
  unfold filesA
  suffices ∀ F : Files, (F.map (·.1)).Nodup → ((A.foldl putA F).map (·.1)).Nodup from this [] (by simp)
  induction A with
  | nil => exact fun _ h => h
  | cons a r ih => exact fun F h => ih _ (putA_nodup h a)
theorem putA_len (F : Files) (a : ActV) : (putA F a).length ≤ F.length + 1 := by
  unfold putA
  split
  · exact Fadd_len F _ _
  · exact Nat.le_succ _
theorem lastA_drop {A : List ActV} {i : Nat} {a : ActV} (h : A[i]? = some a) : lastA (A.drop i) = (if keepA (A.drop (i + 1)) a then [a] else []) ++ lastA (A.drop (i + 1)) := by
  obtain ⟨hlt, e⟩ := List.getElem?_eq_some_iff.1 h
  rw [List.drop_eq_getElem_cons hlt, e, lastA]
  split <;> rfl
theorem lastA_len (A : List ActV) : (lastA A).length ≤ A.length := by
  induction A with
  | nil => exact Nat.le_refl _
  | cons a r ih =>
    unfold lastA
    split
    · exact Nat.succ_le_succ ih
    · exact Nat.le_succ_of_le ih
theorem lastA_mem {A : List ActV} {a : ActV} (h : a ∈ lastA A) : a ∈ A ∧ shortA a = true := by
  induction A with
  | nil => cases h
  | cons b r ih =>
    unfold lastA at h
    split at h
    · rename_i hk
      rcases List.mem_cons.1 h with rfl | h
      · unfold keepA at hk
        rw [Bool.and_eq_true] at hk
        exact ⟨List.mem_cons_self, hk.2⟩
      · exact ⟨List.mem_cons_of_mem _ (ih h).1, (ih h).2⟩
    · exact ⟨List.mem_cons_of_mem _ (ih h).1, (ih h).2⟩
/-- The other finder: the last acts, from behind. -/
def backA (l : List ActV) (i : Nat) : Files := ((l.drop i).map fileA).reverse
theorem backA_step {A : List ActV} {i : Nat} {a : ActV} (h : (lastA A)[i]? = some a) : Fadd (backA (lastA A) (i + 1)) a.name a.data = backA (lastA A) i := by
  obtain ⟨hlt, e⟩ := List.getElem?_eq_some_iff.1 h
  have hn := filesA_nodup A
  rw [filesA_last, List.map_map] at hn
  have hd : (((lastA A).drop i).map (fun a => a.name)).Nodup := by
    rw [List.map_drop]
    exact hn.sublist (List.drop_sublist _ _)
  rw [List.drop_eq_getElem_cons hlt, e, List.map_cons, List.nodup_cons] at hd
  unfold backA Fadd
  rw [Fdel_none, List.drop_eq_getElem_cons hlt, e, List.map_cons, List.reverse_cons]
  · rfl
  · intro hm
    apply hd.1
    rw [List.map_reverse, List.mem_reverse, List.map_map] at hm
    exact hm
theorem backA_zero (A : List ActV) : backA (lastA A) 0 = (filesA A).reverse := by rw [filesA_last]; rfl
theorem backA_nodup (A : List ActV) : ((backA (lastA A) 0).map (·.1)).Nodup := by
  rw [backA_zero, List.map_reverse]
  exact (List.reverse_perm _).nodup_iff.2 (filesA_nodup A)
theorem backA_find (A : List ActV) (k : HKey) : findL (backA (lastA A) 0) k = findL (filesA A) k :=
  (findL_congr (filesA_nodup A) (backA_nodup A) (fun p => by rw [backA_zero, List.mem_reverse]) k).symm
theorem backA_len (l : List ActV) (i : Nat) : (backA l i).length ≤ l.length := by unfold backA; simp
theorem pickP_some {l : List Pl} {p : Pl} (h : p ∈ l) : ∃ m, pickP l = some m ∧ m ∈ l ∧ ∀ x ∈ l, ¬ pll x m := by
  cases l with
  | nil => cases h
  | cons q r =>
    refine ⟨minTo q r r.length, rfl, minTo_mem q r _, fun x hx => minTo_least q r r.length (Nat.le_refl _) x ?_⟩
    rw [List.take_of_length_le (Nat.le_refl _)]
    exact hx
/-- A block of a file that the finder has is found; what is found has that digest, and its name is no later one. -/
theorem order_find {A : List ActV} {i k : Nat} {a : ActV} {f : Nat → UInt8} (h : (lastA A)[i]? = some a) (hk : (listL a.data)[k]? = some f) :
    ∃ m xs, findL (filesA A) (hkey f) = some (m, xs) ∧ ¬ a.name.toList < m.1.toList ∧ sameHash (digest xs) f = true := by
  have hF : (a.name, a.data) ∈ filesA A := by rw [filesA_last]; exact List.mem_map.2 ⟨a, List.mem_of_getElem? h, rfl⟩
  have hkk : (keysL a.data)[k]? = some (hkey f) := by rw [keysL, List.getElem?_map, hk]; rfl
  obtain ⟨m, hm, hmem, hleast⟩ := pickP_some ((occ_mem (x := (a.name, k))).2 ⟨_, hF, hkk⟩)
  obtain ⟨d', hd', hkd⟩ := occ_mem.1 hmem
  have hdF := dataF_mem (filesA_nodup A) hd'
  have hlt : m.2 < cntN d'.length := by
    have := (List.getElem?_eq_some_iff.1 hkd).1
    rwa [keysL_length] at this
  refine ⟨m, partZ (dataF (filesA A) m.1) m.2, by unfold findL; rw [hm]; rfl, fun hl => hleast _ ((occ_mem (x := (a.name, k))).2 ⟨_, hF, hkk⟩) (.inl hl), ?_⟩
  rw [sameHash_hkey, decide_eq_true_iff, hdF]
  rw [keysL, List.getElem?_map, listL, List.getElem?_map, partsL_get hlt] at hkd
  have : partZ d' m.2 = partL d' m.2 := by unfold partZ; rw [if_pos ⟨by omega, by simpa using hlt⟩]; rfl
  rw [this]
  simpa using hkd
end Go.Proofs.YtfdhpjflkimihaaDoor
/- What a plan, what is asked and what is built of it are, of a record that was made of bytes: plain. No conditions beyond those that each statement types. -/
namespace Go.Proofs.YtfdhpjflkimihaaDoor
open Go.RowKit

theorem right_iff {r : RecV} {i : Nat} {xs : List UInt8} : rightB r i xs = true ↔ (xs.length : Int) = r.len i ∧ hkey (digest xs) = hkey (r.dig i) := by
  rw [rightB_eq, Bool.and_eq_true, decide_eq_true_iff, sameHash_hkey, decide_eq_true_iff]
theorem sameBlk_iff {r : RecV} {i k : Nat} : sameBlk r i k = true ↔ hkey (r.dig k) = hkey (r.dig i) ∧ r.len k = r.len i := by
  unfold sameBlk
  rw [Bool.and_eq_true, decide_eq_true_iff, sameHash_hkey, decide_eq_true_iff]
/-- The four ways of a step. -/
inductive StepIs (r : RecV) (N : Nat) (T : List UInt8) (fo : HKey → Option (Pl × List UInt8)) (i : Nat) (s : StepV) : Prop where
  | temp (h : rightB r i (plT N T i) = true) (e : s = ⟨i, 1, ⟨#[]⟩, 0, 0⟩)
  | same (k : Nat) (hk : k < i) (h : sameBlk r i k = true) (e : s = ⟨i, 3, ⟨#[]⟩, 0, k⟩)
  | found (m : Pl) (xs : List UInt8) (h : fo (hkey (r.dig i)) = some (m, xs)) (hl : (xs.length : Int) = r.len i) (e : s = ⟨i, 2, m.1, m.2, 0⟩)
  | ask (hn : ∀ k, k < i → sameBlk r i k = false) (hf : ∀ m xs, fo (hkey (r.dig i)) = some (m, xs) → (xs.length : Int) ≠ r.len i) (e : s = ⟨i, 4, ⟨#[]⟩, 0, 0⟩)
theorem step_is (r : RecV) (N : Nat) (T : List UInt8) (fo : HKey → Option (Pl × List UInt8)) (i : Nat) : StepIs r N T fo i (stepPl r N T fo i) := by
  unfold stepPl
  split
  · rename_i h
    exact .temp h rfl
  · cases hf : (List.range i).find? (sameBlk r i) with
    | some k =>
      rw [List.find?_range_eq_some] at hf
      exact .same k (List.mem_range.1 hf.2.1) hf.1 rfl
    | none =>
      have hn : ∀ k, k < i → sameBlk r i k = false := fun k hk => by
        have := List.find?_eq_none.1 hf k (List.mem_range.2 hk)
        simpa using this
      cases ho : fo (hkey (r.dig i)) with
      | none => exact .ask hn (fun m xs h => by rw [ho] at h; cases h) rfl
      | some p =>
        obtain ⟨m, xs⟩ := p
        by_cases hl : (xs.length : Int) = r.len i
        · refine .found m xs ho hl ?_
          show (if (xs.length : Int) = r.len i then _ else _) = _
          rw [if_pos hl]
        · refine .ask hn (fun m' xs' h => by rw [ho] at h; cases h; exact hl) ?_
          show (if (xs.length : Int) = r.len i then _ else _) = _
          rw [if_neg hl]
theorem StepIs.bad {r : RecV} {N : Nat} {T : List UInt8} {fo : HKey → Option (Pl × List UInt8)} {i : Nat} {s : StepV} (h : StepIs r N T fo i s) : badS i s = false := by
  unfold badS
  rw [decide_eq_false_iff_not]
  cases h with
  | temp h e => subst e; simp
  | same k hk h e => subst e; simp; omega
  | found m xs h hl e => subst e; simp
  | ask hn hf e => subst e; simp
theorem StepIs.four {r : RecV} {N : Nat} {T : List UInt8} {fo : HKey → Option (Pl × List UInt8)} {i : Nat} {s : StepV} (h : StepIs r N T fo i s) (h4 : s.from_ = 4) : (∀ k, k < i → sameBlk r i k = false) ∧ ∀ m xs, fo (hkey (r.dig i)) = some (m, xs) → (xs.length : Int) ≠ r.len i := by
  cases h with
  | temp h e => subst e; cases h4
  | same k hk h e => subst e; cases h4
  | found m xs h hl e => subst e; cases h4
  | ask hn hf e => exact ⟨hn, hf⟩
theorem plan_getD (r : RecV) (N : Nat) (T : List UInt8) (fo : HKey → Option (Pl × List UInt8)) {n k : Nat} (h : k < n) (z : StepV) : (planL r N T fo n).getD k z = stepPl r N T fo k := by
  rw [List.getD, planL_at r N T fo h]
  rfl
/-- A plan may be built. -/
theorem plan_may (r : RecV) (N : Nat) (T : List UInt8) (fo : HKey → Option (Pl × List UInt8)) (n : Nat) : mayB (planL r N T fo n) n = true := by
  unfold mayB
  rw [Bool.and_eq_true, decide_eq_true_iff, planL_len, List.all_eq_true]
  refine ⟨fun k hk => ?_, rfl⟩
  rw [plan_getD r N T fo (List.mem_range.1 hk), (step_is r N T fo k).bad]
  rfl
/-- Which blocks are asked. -/
def askN (r : RecV) (N : Nat) (T : List UInt8) (fo : HKey → Option (Pl × List UInt8)) (n : Nat) : List Nat := (List.range n).filter fun i => decide ((stepPl r N T fo i).from_ = 4)
theorem stepPl_blk (r : RecV) (N : Nat) (T : List UInt8) (fo : HKey → Option (Pl × List UInt8)) (i : Nat) : (stepPl r N T fo i).block = i := by
  cases step_is r N T fo i with
  | temp h e => rw [e]
  | same k hk h e => rw [e]
  | found m xs h hl e => rw [e]
  | ask hn hf e => rw [e]
theorem askL_plan (r : RecV) (N : Nat) (T : List UInt8) (fo : HKey → Option (Pl × List UInt8)) (n : Nat) : askL (planL r N T fo n) = (askN r N T fo n).map (fun i : Nat => (i : Int)) := by
  unfold askL planL askN
  rw [List.filter_map, List.map_map]
  refine List.map_congr_left (fun i _ => ?_)
  exact stepPl_blk r N T fo i
theorem askN_at {r : RecV} {N : Nat} {T : List UInt8} {fo : HKey → Option (Pl × List UInt8)} {n j x : Nat} (h : (askN r N T fo n)[j]? = some x) : x < n ∧ (∀ k, k < x → sameBlk r x k = false) ∧ ∀ m xs, fo (hkey (r.dig x)) = some (m, xs) → (xs.length : Int) ≠ r.len x := by
  have hm := List.mem_filter.1 (List.mem_of_getElem? h)
  exact ⟨List.mem_range.1 hm.1, (step_is r N T fo x).four (of_decide_eq_true hm.2)⟩
theorem askN_lt {r : RecV} {N : Nat} {T : List UInt8} {fo : HKey → Option (Pl × List UInt8)} {n i j x y : Nat} (hi : (askN r N T fo n)[i]? = some x) (hj : (askN r N T fo n)[j]? = some y) (h : j < i) : y < x := by
  have hp : (askN r N T fo n).Pairwise (· < ·) := List.pairwise_lt_range.filter _
  obtain ⟨h1, rfl⟩ := List.getElem?_eq_some_iff.1 hi
  obtain ⟨h2, rfl⟩ := List.getElem?_eq_some_iff.1 hj
  exact List.pairwise_iff_getElem.1 hp j i h2 h1 h
/-- No two of these are alike. -/
theorem asked_apart {r : RecV} {N : Nat} {T : List UInt8} {fo : HKey → Option (Pl × List UInt8)} {n i j x y : Nat} (hi : (askN r N T fo n)[i]? = some x) (hj : (askN r N T fo n)[j]? = some y) (h : j < i) : sameBlk r x y = false :=
  (askN_at hi).2.1 y (askN_lt hi hj h)
theorem askN_len (r : RecV) (N : Nat) (T : List UInt8) (fo : HKey → Option (Pl × List UInt8)) (n : Nat) : (askN r N T fo n).length ≤ n := Nat.le_trans (List.length_filter_le _ _) (by rw [List.length_range]; exact Nat.le_refl _)

/-- What a finder finds has the digest. -/
def FoRight (fo : HKey → Option (Pl × List UInt8)) : Prop := ∀ k m xs, fo k = some (m, xs) → hkey (digest xs) = k
theorem pickP_mem {l : List Pl} {m : Pl} (h : pickP l = some m) : m ∈ l := by
  cases l with
  | nil => cases h
  | cons q r =>
    have : minTo q r r.length = m := Option.some.inj h
    rw [← this]
    exact minTo_mem q r _
theorem findL_right {F : Files} (hn : (F.map (·.1)).Nodup) : FoRight (findL F) := by
  intro k m xs h
  unfold findL at h
  obtain ⟨m', hm', e⟩ := Option.map_eq_some_iff.1 h
  cases e
  obtain ⟨d', hd', hkd⟩ := occ_mem.1 (pickP_mem hm')
  have hlt : m.2 < cntN d'.length := by
    have := (List.getElem?_eq_some_iff.1 hkd).1
    rwa [keysL_length] at this
  rw [dataF_mem hn hd']
  rw [keysL, List.getElem?_map, listL, List.getElem?_map, partsL_get hlt] at hkd
  have : partZ d' m.2 = partL d' m.2 := by unfold partZ; rw [if_pos ⟨by omega, by simpa using hlt⟩]; rfl
  rw [this]
  simpa using hkd
/-- What stands in a finder's file is found. -/
theorem findL_has {F : Files} {nm : ByteArray} {d : List UInt8} (hF : (nm, d) ∈ F) {i : Nat} (hi : i < cntN d.length) : ∃ m xs, findL F (hkey (digest (partL d i))) = some (m, xs) := by
  have hkk : (keysL d)[i]? = some (hkey (digest (partL d i))) := by rw [keysL, List.getElem?_map, listL, List.getElem?_map, partsL_get hi]; rfl
  obtain ⟨m, hm, _⟩ := pickP_some ((occ_mem (x := (nm, i))).2 ⟨_, hF, hkk⟩)
  exact ⟨m, _, by unfold findL; rw [hm]; rfl⟩
theorem dig_recV {d : List UInt8} {i : Nat} (hi : i < cntN d.length) : (recV d).dig i = digest (partL d i) := by
  unfold RecV.dig recV
  rw [List.getD, listL, List.getElem?_map, partsL_get hi]
  rfl
theorem right_own {d : List UInt8} (h : d.length ≤ 4096) {i : Nat} (hi : i < cntN d.length) : rightB (recV d) i (partL d i) = true := by
  rw [right_iff, dig_recV hi, (recV_good h).lenP hi, partL_length]
  exact ⟨rfl, rfl⟩
/-- What was got for what was asked. -/
structure GotFor (r : RecV) (A : List Nat) (G : List GotV) : Prop where
  len : G.length = A.length
  at_ : ∀ (j : Nat) x g, A[j]? = some x → G[j]? = some g → g.block = (x : Int) ∧ rightB r x g.xs = true
theorem GotFor.ix {r : RecV} {A : List Nat} {G : List GotV} (h : GotFor r A G) {x : Nat} (hx : x ∈ A) : ∃ k, gotIx G x = some k ∧ rightB r x (G.getD k ⟨0, none, [], 0⟩).xs = true := by
  obtain ⟨j, hj, rfl⟩ := List.getElem_of_mem hx
  cases hg : gotIx G (A[j] : Nat) with
  | none =>
    exfalso
    unfold gotIx at hg
    rw [List.findIdx?_eq_none_iff] at hg
    have hj2 : j < G.length := by rw [h.len]; exact hj
    have h1 := hg G[j] (List.getElem_mem _)
    have h2 := (h.at_ j A[j] G[j] (List.getElem?_eq_getElem hj) (List.getElem?_eq_getElem hj2)).1
    simp [h2] at h1
  | some k =>
    obtain ⟨g, hgk, hb⟩ := gotIx_lt hg
    refine ⟨k, rfl, ?_⟩
    have hk : k < A.length := by rw [← h.len]; exact (List.getElem?_eq_some_iff.1 hgk).1
    obtain ⟨h1, h2⟩ := h.at_ k A[k] g (List.getElem?_eq_getElem hk) hgk
    rw [hb] at h1
    have h3 : A[k] = A[j] := by omega
    rw [List.getD, hgk]
    show rightB r A[j] g.xs = true
    rw [← h3]
    exact h2
/-- Each part of what is built is right. -/
theorem parts_right {r : RecV} {N : Nat} {T : List UInt8} {fo : HKey → Option (Pl × List UInt8)} {G : List GotV} (hfo : FoRight fo) {n : Nat} (hG : GotFor r (askN r N T fo n) G) :
    ∀ k, k ≤ n → ∀ i, i < k → rightB r i ((partsV r N T fo G (planL r N T fo n) k).getD i []) = true := by
  intro k
  induction k with
  | zero => exact fun _ i hi => absurd hi (Nat.not_lt_zero i)
  | succ k ih =>
    intro hk i hi
    have ih := ih (by omega)
    have hl := partsV_len r N T fo G (planL r N T fo n) k
    rw [partsV, plan_getD r N T fo (show k < n by omega)]
    by_cases hik : i < k
    · rw [List.getD, List.getElem?_append_left (by omega)]
      exact ih i hik
    · have : i = k := by omega
      subst this
      rw [List.getD, List.getElem?_append_right (by omega), hl, Nat.sub_self]
      show rightB r i (partV r N T fo G (partsV r N T fo G (planL r N T fo n) i) i (stepPl r N T fo i)) = true
      generalize partsV r N T fo G (planL r N T fo n) i = ps at *
      have hs := step_is r N T fo i
      have ha : (stepPl r N T fo i).from_ = 4 → i ∈ askN r N T fo n := fun h => List.mem_filter.2 ⟨List.mem_range.2 hk, decide_eq_true h⟩
      generalize stepPl r N T fo i = s at *
      unfold partV
      cases hs with
      | temp h e => subst e; exact h
      | same j hj h e =>
        subst e
        have h1 := right_iff.1 (ih j hj)
        have h2 := sameBlk_iff.1 h
        show rightB r i (ps.getD (j : Int).toNat []) = true
        rw [Int.toNat_natCast, right_iff, h1.1, h1.2]
        exact ⟨h2.2, h2.1⟩
      | found m xs h hl e =>
        subst e
        show rightB r i (fX (fo (hkey (r.dig i)))) = true
        rw [h, right_iff]
        exact ⟨hl, hfo _ _ _ h⟩
      | ask hn hf e =>
        subst e
        obtain ⟨j, hj, hr⟩ := hG.ix (ha rfl)
        show rightB r i (match gotIx G (i : Int) with | some k => (G.getD k ⟨0, none, [], 0⟩).xs | none => []) = true
        rw [hj]
        exact hr
/-- With what was asked the whole is built. -/
theorem build_right {r : RecV} {N : Nat} (g : r.Good N) {T : List UInt8} {fo : HKey → Option (Pl × List UInt8)} {G : List GotV} (hfo : FoRight fo) (hG : GotFor r (askN r N T fo (cntN N)) G) :
    buildV r N T fo G (planL r N T fo (cntN N)) = ⟨(partsV r N T fo G (planL r N T fo (cntN N)) (cntN N)).flatten, [], 0⟩ := by
  have hb : badV r (partsV r N T fo G (planL r N T fo (cntN N)) (cntN N)) = [] := by
    unfold badV
    rw [partsV_len, List.map_eq_nil_iff, List.filter_eq_nil_iff]
    intro i hi
    rw [parts_right hfo hG (cntN N) (Nat.le_refl _) i (List.mem_range.1 hi)]
    decide
  unfold buildV
  rw [planL_len, if_neg (by rw [g.want]; simp), if_neg (by rw [plan_may]; simp), if_neg (by rw [hb]; simp)]
/-- Parts as long as the blocks of a file of N bytes, one behind the other. -/
theorem parts_flat {N : Nat} (hN : N ≤ 4096) {ps : List (List UInt8)} (hl : ps.length = cntN N) (hp : ∀ i, i < cntN N → (ps.getD i []).length = min (bszN N) (N - i * bszN N)) :
    ps.flatten.length = N ∧ ∀ i, i < cntN N → partL ps.flatten i = ps.getD i [] := by
  have hb := (bszN_pos hN).1
  have key : ∀ k, k ≤ cntN N → (ps.take k).flatten.length = min (k * bszN N) N := by
    intro k
    induction k with
    | zero => intro _; simp
    | succ k ih =>
      intro hk
      have h1 := ih (by omega)
      have h2 := hp k (by omega)
      have h3 := (cntN_lt hN k).1 (by omega)
      have hk' : ps[k]? = some (ps.getD k []) := by
        have : k < ps.length := by omega
        rw [List.getD, List.getElem?_eq_getElem this]
        rfl
      rw [List.take_add_one, hk', List.flatten_append, List.length_append, h1]
      simp only [Option.toList_some, List.flatten_cons, List.flatten_nil, List.append_nil]
      rw [h2, Nat.add_mul, Nat.one_mul]
      omega
  have hlen : ps.flatten.length = N := by
    have h1 := key (cntN N) (Nat.le_refl _)
    have h2 := cntN_lt hN (cntN N)
    rw [← hl, List.take_length] at h1
    rw [h1, hl]
    omega
  refine ⟨hlen, fun i hi => ?_⟩
  have h1 := key i (by omega)
  have h3 := (cntN_lt hN i).1 hi
  have h2 := hp i hi
  have hi' : i < ps.length := by omega
  have e : ps.flatten = (ps.take i).flatten ++ (ps.getD i [] ++ (ps.drop (i + 1)).flatten) := by
    conv => lhs; rw [← List.take_append_drop i ps]
    rw [List.flatten_append, List.drop_eq_getElem_cons hi', List.flatten_cons, List.getD, List.getElem?_eq_getElem hi']
    rfl
  unfold partL
  rw [hlen, e, List.drop_append_of_le_length (by rw [h1]; omega), List.drop_eq_nil_of_le (by rw [h1]; omega), List.nil_append]
  by_cases hf : bszN N ≤ N - i * bszN N
  · rw [List.take_append_of_le_length (by omega), List.take_of_length_le (by omega)]
  · have h4 : (ps.drop (i + 1)).flatten.length = 0 := by
      have := congrArg List.length e
      rw [List.length_append, List.length_append, hlen, h1, h2] at this
      omega
    rw [List.eq_nil_of_length_eq_zero h4, List.append_nil, List.take_of_length_le (by omega)]
/-- What is built is as long as the file, and its blocks have the digests. -/
theorem built_list {d : List UInt8} (h : d.length ≤ 4096) {ps : List (List UInt8)} (hl : ps.length = cntN d.length) (hp : ∀ i, i < cntN d.length → rightB (recV d) i (ps.getD i []) = true) :
    ps.flatten.length = d.length ∧ (listL ps.flatten).length = cntN d.length ∧ ∀ i, i < cntN d.length → ∃ f, (listL ps.flatten)[i]? = some f ∧ sameHash f ((recV d).dig i) = true := by
  have hN := recV_good h
  obtain ⟨h1, h2⟩ := parts_flat h hl (fun i hi => by
    have := (right_iff.1 (hp i hi)).1
    rw [hN.lenP hi] at this
    omega)
  refine ⟨h1, by rw [listL_length, h1], fun i hi => ⟨digest (ps.getD i []), ?_, ?_⟩⟩
  · rw [listL, List.getElem?_map, partsL_get (by rw [h1]; exact hi), h2 i hi]
    rfl
  · rw [sameHash_hkey, decide_eq_true_iff]
    exact (right_iff.1 (hp i hi)).2
/-- With the whole file in temp none is asked. -/
theorem plan_whole {d : List UInt8} (h : d.length ≤ 4096) (fo : HKey → Option (Pl × List UInt8)) : askL (planL (recV d) d.length d fo (cntN d.length)) = [] := by
  rw [askL_plan, List.map_eq_nil_iff]
  unfold askN
  rw [List.filter_eq_nil_iff]
  intro i hi
  have hi := List.mem_range.1 hi
  have h3 := (cntN_lt h i).1 hi
  have hpl : plT d.length d i = partL d i := by
    rw [(plT_in (by omega)).1]
    unfold partL
    by_cases hf : bszN d.length ≤ d.length - i * bszN d.length
    · rw [Nat.min_eq_left hf]
    · rw [List.take_of_length_le (by rw [List.length_drop]; omega), List.take_of_length_le (by rw [List.length_drop]; omega)]
  unfold stepPl
  rw [hpl, if_pos (right_own h hi)]
  simp
end Go.Proofs.YtfdhpjflkimihaaDoor
/- Law CopierEnough, walked. No conditions beyond those that each statement types. -/
namespace Go.Proofs.YtfdhpjflkimihaaDoor
open Go.RowKit

def whN : ByteArray := ⟨#[119, 104, 111, 108, 101]⟩
theorem own_capM {w : World} {B : Nat} {e : TypeId} {size : Nat} {ao : Option Addr} {n c : Nat} {xs : List Value} (h : w.ownsRow B e size (.slice ao n c) n xs) : n ≤ c ∧ (ao = none → c = 0) := by
  obtain ⟨_, _, hv, h1, h2⟩ := ownsRow_slice h
  cases hv
  exact ⟨h1, fun h => (h2 h).2⟩
/-- A plan, what is asked, what was built and listed, in plain words. -/
def PlanM (w : World) (l : List StepV) (n : Nat) (e : Ending) (w' : World) : Prop := Chg [] w w' ∧ ∃ po pc, e = .returned (.tuple #[.slice po n pc, .int .i64 0]) ∧ Src w' po (svs l) ∧ n ≤ pc
theorem Planned.short {w : World} {l : List StepV} {e : Ending} {w' : World} (h : Planned w l e w') {n : Nat} (hn : l.length = n) : PlanM w l n e w' := by
  subst hn
  obtain ⟨C, po, pc, h1, h2, _⟩ := h
  exact ⟨C, po, pc, h1, ownsRow_src_any h2, (own_capM h2).1⟩
def IntsM (w : World) (l : List Int) (m : Nat) (e : Ending) (w' : World) : Prop := ∃ po pc, e = .returned (.slice po m pc) ∧ w'.ownsRow 0 3 1 (.slice po m pc) m (nvs l) ∧ Chg [] w w'
theorem IntsTo.short {w : World} {l : List Int} {e : Ending} {w' : World} (h : IntsTo w l e w') {m : Nat} (hm : l.length = m) : IntsM w l m e w' := by
  subst hm
  obtain ⟨po, pc, h1, h2, _, h4⟩ := h
  exact ⟨po, pc, h1, h2, h4⟩
theorem ints_cell {w : World} {so : Option Addr} {A : List Nat} (hs : Src w so (nvs (A.map fun i : Nat => (i : Int)))) {j x : Nat} (h : A[j]? = some x) : ∃ a, so = some a ∧ ∀ w', Chg [] w w' → w'.cell? (a.add j) = some (.int .i64 (x : Int)) := by
  have e : (nvs (A.map fun i : Nat => (i : Int)))[j]? = some (.int .i64 (x : Int)) := by
    unfold nvs
    rw [List.getElem?_map, List.getElem?_map, h]
    rfl
  obtain ⟨a, rfl, _⟩ := hs.lt (by have := (List.getElem?_eq_some_iff.1 e).1; omega)
  exact ⟨a, rfl, fun w' C => (hs.chg C (by simp)).cell a rfl j _ e⟩
theorem hash_at {w : World} {lo : Option Addr} {L : List (Nat → UInt8)} (hs : Src w lo (hvs L)) {i : Nat} {f : Nat → UInt8} (h : L[i]? = some f) :
    ∃ a, lo = some a ∧ ∀ w', Chg [] w w' → (Instr.loadAt 32 (.pointer (some (a.add (i * 32))))).run Tryd.prog w' = .ok (.agg (hashC f)) w' := by
  have h1 := (List.getElem?_eq_some_iff.1 h).1
  obtain ⟨a, rfl, _⟩ := hs.lt (by rw [hvs_length]; omega)
  exact ⟨a, rfl, fun w' C => load_blk (hs.chg C (by simp)) h⟩
def FoundN (w : World) (m : Pl) (n : Nat) (e : Ending) (w' : World) : Prop := Chg [] w w' ∧ ∃ ao c, e = .returned (.tuple #[.slice ao n c, .agg (plC m), .bool true]) ∧ n ≤ c
theorem FoundN.of {w : World} {m : Pl} {xs : List UInt8} {e : Ending} {w' : World} (h : Found w (some (m, xs)) e w') {n : Nat} (hn : xs.length = n) : FoundN w m n e w' := by
  subst hn
  obtain ⟨C, ao, c, h1, h2, _⟩ := h
  exact ⟨C, ao, c, h1, (own_capM h2).1⟩
def MadeN (w : World) (xs : List UInt8) (n : Nat) (e : Ending) (w' : World) : Prop := ∃ ao c, e = .returned (.slice ao n c) ∧ w'.ownsRow 0 5 1 (.slice ao n c) n (bvs xs) ∧ (∀ k, (Value.slice ao n c).ownBlock = some k → w.heap.size ≤ k) ∧ Chg [] w w'
theorem MadeB.short {w : World} {xs : List UInt8} {e : Ending} {w' : World} (h : MadeB w xs e w') {n : Nat} (hn : xs.length = n) : MadeN w xs n e w' := by
  subst hn
  exact h
/-- What was built with what was got: as long as the file, its blocks have the digests. -/
def BuiltM (w : World) (d : List UInt8) (N n : Nat) (e : Ending) (w' : World) : Prop :=
  Chg [] w w' ∧ ∃ X co cc no nc, e = .returned (.tuple #[.slice co N cc, .slice no 0 nc, .int .i64 0]) ∧ Src w' co (bvs X) ∧ N ≤ cc ∧ X.length = N ∧ (listL X).length = n ∧ ∀ i, i < n → ∃ f, (listL X)[i]? = some f ∧ sameHash f ((recV d).dig i) = true
def ListedM (w : World) (L : List (Nat → UInt8)) (n : Nat) (e : Ending) (w' : World) : Prop := Chg [] w w' ∧ ∃ lo lc, e = .returned (.tuple #[.slice lo n lc, .int .i64 0]) ∧ Src w' lo (hvs L) ∧ n ≤ lc
theorem build_enough {RC : Array Value} {ao : Option Addr} {rc : Nat} {d : List UInt8} (hd : d.length ≤ 4096) {fo : HKey → Option (Pl × List UInt8)} (hfo : FoRight fo) (hfs : ∀ k, (fX (fo k)).length ≤ 128) {po : Option Addr} {pc : Nat} {p ta : Option Addr} {tc : Nat} {T : List UInt8} {G : List GotV} {go : Option Addr} {gc : Nat} {w : World}
    (hL : Laid w) (H : RecIs w RC (recV d) ao rc) (hF : FindsAs w p fo) (hs : Src w ta (bvs T)) (hT : T.length ≤ 9223372036854775807) (htc : T.length ≤ tc) (h0 : ta = none → tc = 0)
    (hl : Src w po (svs (planL (recV d) d.length T fo (cntN d.length)))) (hlc : cntN d.length ≤ pc) (hG : GotsAt w go gc G) (hG6 : G.length ≤ 32) (hGx : ∀ (k : Nat) (g : GotV), G[k]? = some g → g.xs.length ≤ 1000000) (hGF : GotFor (recV d) (askN (recV d) d.length T fo (cntN d.length)) G) :
    Calls Tryd.prog 54 #[.agg RC, .slice po (cntN d.length) pc, .pointer p, .slice ta T.length tc, .slice go G.length gc] w (BuiltM w d d.length (cntN d.length)) := by
  have hn32 := cntN_le d.length
  have hlen := planL_len (recV d) d.length T fo (cntN d.length)
  have hb := built_list hd (partsV_len (recV d) d.length T fo G (planL (recV d) d.length T fo (cntN d.length)) (cntN d.length)) (parts_right hfo hGF (cntN d.length) (Nat.le_refl _))
  have := cp_build RC (recV d) ao rc d.length (recV_good hd) (planL (recV d) d.length T fo (cntN d.length)) po pc p fo ta tc T G go gc w hL H hF hfs hs hT htc h0 hl (by rw [hlen]; exact hlc) (by rw [hlen]; omega) hG (by omega) hGx
  rw [build_right (recV_good hd) hfo hGF, hlen] at this
  refine this.mono ?_
  rintro e w' ⟨C, co, cc, no, nc, rfl, h1, _, h2, _⟩
  refine ⟨C, _, co, cc, no, nc, ?_, ownsRow_src h1, ?_, hb.1, hb.2.1, hb.2.2⟩
  · show Ending.returned (.tuple #[.slice co (partsV (recV d) d.length T fo G (planL (recV d) d.length T fo (cntN d.length)) (cntN d.length)).flatten.length cc, .slice no 0 nc, .int .i64 0]) = _
    rw [hb.1]
  · rw [← hb.1]
    exact (own_capM h1).1
/-- Between the rounds: what was got so far. -/
structure EnG (w6 wr : World) (d : List UInt8) (A : List Nat) (k : Nat) (G : List GotV) (u : Value) : Prop where
  len : G.length = k
  C : Chg [] w6 wr
  row : wr.ownsRow 0 104 2 u k (gvs G)
  rowN : ∀ x, u.ownBlock = some x → w6.heap.size ≤ x
  at_ : ∀ (j : Nat) (g : GotV), G[j]? = some g → ∃ x, A[j]? = some x ∧ g.block = (x : Int) ∧ g.xs = partL d x ∧ PV wr u.ownBlock.toList (.slice g.ao g.xs.length g.cap) g.xs
theorem EnG.start (w : World) (d : List UInt8) (A : List Nat) : EnG w w d A 0 [] (.slice none 0 0) :=
  ⟨rfl, Chg.refl _ _, World.ownsRow_nil _ _ _ _, (fun x h => by cases h), (fun j g h => by simp at h)⟩
theorem PV.turned {w w' : World} {X Y S : List Nat} {pv : Value} {x : List UInt8} (h : PV w X pv x) (C : Chg S w w') (hS : ∀ k ∈ S, k ∈ X) (hY : ∀ k ∈ Y, k ∈ X ∨ w.heap.size ≤ k) : PV w' Y pv x :=
  (((h.grow (Y := Y ++ S) (fun k hk => by
    rcases List.mem_append.1 hk with hk | hk
    · exact hY k hk
    · exact .inl (hS k hk))).chg C (fun k hk => .inl (List.mem_append_right _ hk)))).grow (fun _ hk => .inl (List.mem_append_left _ hk))
theorem EnG.next {w6 wo wx w' : World} {d : List UInt8} {A : List Nat} {k : Nat} {G : List GotV} {u : Value} (h : EnG w6 wo d A k G u) (C : Chg [] wo wx) {x : Nat} (hx : A[k]? = some x) {go : Option Addr} {gc : Nat} (hp : PV wx u.ownBlock.toList (.slice go (partL d x).length gc) (partL d x)) {ao : Option Addr} {c : Nat}
    (ho : w'.ownsRow 0 104 2 (.slice ao (k + 1) c) (k + 1) (gvs G ++ [.int .i64 (x : Int), .slice go (partL d x).length gc])) (hg : wx.grownBy w' u.ownBlock) (hb : (Value.slice ao (k + 1) c).ownBlock = u.ownBlock ∨ (Value.slice ao (k + 1) c).ownBlock = some wx.heap.size) :
    EnG w6 w' d A (k + 1) (G ++ [⟨x, go, partL d x, gc⟩]) (.slice ao (k + 1) c) := by
  have C6 := h.C.trans C (by simp)
  have CG : Chg u.ownBlock.toList wx w' := Chg.grown hg (fun z hz => .inl (by simp [hz]))
  have hY : ∀ z ∈ (Value.slice ao (k + 1) c).ownBlock.toList, z ∈ u.ownBlock.toList ∨ wx.heap.size ≤ z := fun z hz => by
    rcases hb with e | e
    · left; rw [← e]; exact hz
    · right; rw [e] at hz; simp at hz; omega
  refine ⟨by rw [List.length_append, h.len]; rfl, C6.trans CG (fun z hz => .inr (h.rowN z (by simpa using hz))), ?_, fun z hz => ?_, fun j g hg => ?_⟩
  · have e : gvs (G ++ [⟨x, go, partL d x, gc⟩]) = gvs G ++ [.int .i64 (x : Int), .slice go (partL d x).length gc] := by unfold gvs; rw [List.flatMap_append]; rfl
    rw [e]
    exact ho
  · rcases hb with e | e
    · exact h.rowN z (by rw [← e]; exact hz)
    · rw [e] at hz
      cases hz
      exact C6.size
  · by_cases hj : j = k
    · subst hj
      rw [List.getElem?_append_right (by rw [h.len]; exact Nat.le_refl _), h.len, Nat.sub_self] at hg
      cases hg
      exact ⟨x, hx, rfl, rfl, hp.turned CG (fun _ hz => hz) hY⟩
    · have hl := (List.getElem?_eq_some_iff.1 hg).1
      rw [List.length_append, List.length_singleton, h.len] at hl
      rw [List.getElem?_append_left (by rw [h.len]; omega)] at hg
      obtain ⟨y, h1, h2, h3, h4⟩ := h.at_ j g hg
      exact ⟨y, h1, h2, h3, (h4.chg C (by simp)).turned CG (fun _ hz => hz) hY⟩
theorem EnG.gots {w6 wr : World} {d : List UInt8} {A : List Nat} {k : Nat} {G : List GotV} {ao : Option Addr} {c : Nat} (h : EnG w6 wr d A k G (.slice ao k c)) : GotsAt wr ao c G :=
  ⟨ownsRow_src_any h.row, by rw [h.len]; exact (own_capM h.row).1, (own_capM h.row).2, fun j g hg => by
    obtain ⟨_, _, _, _, h4⟩ := h.at_ j g hg
    exact h4.grow (by simp)⟩
set_option maxRecDepth 100000 in
set_option maxHeartbeats 8000000 in
theorem copier_enough (bo : Option Addr) (bc : Nat) (b : List UInt8) (so : Option Addr) (c : Nat) (L : List FileV) (ta : Option Addr) (tc : Nat) (T : List UInt8) (w : World) (hL : Laid w)
    (hb : Src w bo (bvs b)) (_hbm : b.length ≤ 9223372036854775807) (hbc : b.length ≤ bc) (hb0 : bo = none → bc = 0) (hF : FilesAt w so c L) (hT : Src w ta (bvs T)) (hT6 : T.length ≤ 9223372036854775807) (hTc : T.length ≤ tc) (hT0 : ta = none → tc = 0) :
    Calls Tryd.prog 14 #[.slice bo b.length bc, .slice so L.length c, .slice ta T.length tc] w (Holds w) := by
  have KA := Lib.hid (fun w' (C : Chg [] w w') => law_awake21 w' (hL.chg C (by simp)))
  have HL := Lib.hid hL
  have HT := Lib.hid hT
  have HFS := Lib.hid hF
  have HB := Lib.hid hb
  have HBS := Lib.hid (fun (h : 0 < b.length) a (ha : bo = some a) => show a.block < w.heap.size from by
    obtain ⟨a2, e, hl⟩ := hb.lt (by rw [bvs_length]; exact h)
    rw [ha] at e
    cases e
    exact hl)
  have KLG := Lib.hid (fun w' (C : Chg [] w w') => law_large21 recZ recV0 none 0 L so c ta T.length tc none 0 0 [] none 0 w' (recZ_is w') (hF.src.chg C (by simp)) hF.cap (Src.empty _ _) (Nat.le_refl _))
  obtain ⟨bn, hbn⟩ : ∃ bn, b.length = bn := ⟨_, rfl⟩
  obtain ⟨tn, htn⟩ : ∃ tn, T.length = tn := ⟨_, rfl⟩
  obtain ⟨Ln, hLn⟩ : ∃ Ln, L.length = Ln := ⟨_, rfl⟩
  have HBN := Lib.hid hbn
  have HTN := Lib.hid htn
  have HLN := Lib.hid hLn
  have HTC := Lib.hid (show T.length ≤ tc ∧ T.length ≤ 9223372036854775807 from ⟨hTc, hT6⟩)
  have HT0 := Lib.hid hT0
  have HB0 := Lib.hid hb0
  have HBC := Lib.hid hbc
  rw [htn, hLn] at KLG
  rw [hbn, htn, hLn]
  clear hbn htn hLn hL hT hF hb hT6 hTc hT0 hbc hb0 _hbm
  go_enter Tryd.func14, Tryd.ntmps14
  by_cases h4 : 4096 < bn
  · have e4 : (4096 : Int) < bn := by omega
    go_wp2_with fail
    refine (KA.out _ (Chg.refl [] w)).mono ?_
    rintro e wa ⟨rfl, Ca⟩
    have HCA := Lib.hid ((Chg.refl [] w).trans Ca (by simp))
    clear Ca
    go_wp2_with fail
    go_ret
    exact ⟨rfl, HCA.out⟩
  · have e4 : ¬ (4096 : Int) < bn := by omega
    have HB4 : Hid (b.length ≤ 4096) := Lib.hid (by rw [HBN.out]; omega)
    go_wp2_with fail
    refine (KLG.out w (Chg.refl _ _)).mono ?_
    rintro e w1 ⟨rfl, C1⟩
    have HC1 := Lib.hid C1
    clear C1
    obtain ⟨LB, hLB⟩ : ∃ LB, largeB recV0.L.length tn 0 L [] = LB := ⟨_, rfl⟩
    have HLB := Lib.hid hLB
    change Hid (largeB recV0.L.length tn 0 L [] = LB) at HLB
    rw [hLB]
    clear hLB KLG
    cases LB with
    | true =>
      go_wp2_with fail
      refine (KA.out _ HC1.out).mono ?_
      rintro e wa ⟨rfl, Ca⟩
      have HCA := Lib.hid (HC1.out.trans Ca (by simp))
      clear Ca
      go_wp2_with fail
      go_ret
      exact ⟨rfl, HCA.out⟩
    | false =>
      have HL10 := Lib.hid (largeB_no HLB.out).1
      have KW := Lib.hid (by
        have := law_wanted b bo bc w1 (HL.out.chg HC1.out (by simp)) (HB.out.chg HC1.out (by simp)) (by rw [HBN.out]; omega) HBC.out
        rewrite [HBN.out] at this
        exact this)
      clear HLB
      go_wp2_with fail
      refine KW.out.mono ?_
      rintro e w2 ⟨C2, RC, ao, rc, rfl, HR, _, hone⟩
      have hx := heap_alloc_new w2 (.cells recZ 77)
      have CA := Chg.alloc [] w2 (.cells recZ 77)
      obtain ⟨Z, hZ⟩ : ∃ Z, recZ = Z := ⟨_, rfl⟩
      have hzr := zero_rec w2
      have hzs : Z.size = 27 := by rw [← hZ]; rfl
      rw [hZ] at hzr hx CA
      obtain ⟨hst, hh, hcg⟩ := setRow_one (V := RC) hx (by rw [HR.size]; exact infoRec) (by rw [hzs, HR.size]) hone
      have C3 := hcg w2 CA (Nat.le_refl _)
      go_upto_region 4 with (first | (refine wpList_alloc_x rfl 77 rfl (.agg Z) hzr ?_) | (refine wpList_store_y 77 (.tmp 7) (.tmp 41) rfl (by first | rfl | go_simp) (.pointer (some ⟨w2.heap.size, 0, none⟩)) (.agg RC) _ hst rfl rfl ?_))
      obtain ⟨q, hq⟩ : ∃ q, w2.heap.size = q := ⟨_, rfl⟩
      rw [hq] at hh C3 ⊢
      generalize (w2.alloc (.cells Z 77)).setRow q RC = w3 at *
      have HC3 := Lib.hid ((HC1.out.trans C2 (by simp)).trans C3 (by simp))
      have HX3 := Lib.hid hh
      have HRI := Lib.hid (HR.chg0 C3)
      have HRS := Lib.hid HR.size
      clear C2 hx CA hzr hzs hst hh hcg C3 HR hone hq hZ KW HC1
      have KFN := Lib.hid (by
        have := law_finders21 L so c w3 (HL.out.chg HC3.out (by simp)) (HFS.out.chg HC3.out) HL10.out
        rewrite [HLN.out] at this
        exact this)
      go_wp2_with fail
      refine KFN.out.mono ?_
      rintro e w4 ⟨fb, bg, S, TT, rfl, hFS⟩
      have H34 := Lib.hid hFS.chg
      have HSN := Lib.hid hFS.newS
      have HFF : Hid ((filesF L).length ≤ 1000) := Lib.hid (by
        have h1 := filesF_len L L.length
        have h2 := HL10.out
        rw [List.take_length] at h1
        omega)
      have HF30 : Hid ((Fadd (filesF L) whN b).length ≤ 30000) := Lib.hid (by
        have h1 := Fadd_len (filesF L) whN b
        have h2 := HFF.out
        omega)
      have HFA := Lib.hid (finds_at hFS.fin (by have := HFF.out; omega))
      have HFR := Lib.hid (findL_right hFS.fin.1)
      have HLD := Lib.hid (fun w' (C : Chg [] w3 w') => run_loadAt_rec w' q RC _ ((C.block q (lt_of_block HX3.out) (by simp)).trans HX3.out) HRS.out)
      obtain ⟨n, hn⟩ : ∃ n, cntN b.length = n := ⟨_, rfl⟩
      have hn32 : n ≤ 32 := by rw [← hn]; exact cntN_le _
      have HNN := Lib.hid hn
      have hRL : (recV b).L.length = n := by rw [← hn]; exact listL_length b
      have hnr : n ≤ rc := by rw [← hRL]; exact HRI.out.cap
      have HCB := Lib.hid (fun w' (C : Chg [] w3 w') => show w'.cell? ⟨q, 23, none⟩ = some (.slice ao n rc) from by
        rw [cell_of_row _ _ _ _ _ _ ((C.block q (lt_of_block HX3.out) (by simp)).trans HX3.out), ← hRL]
        exact HRI.out.bl)
      have HDG := Lib.hid (fun x (hx : x < n) => show ∃ a, ao = some a ∧ ∀ w', Chg [] w3 w' → (Instr.loadAt 32 (.pointer (some (a.add (x * 32))))).run Tryd.prog w' = .ok (.agg (hashC ((recV b).dig x))) w' from
        hash_at HRI.out.src (by rw [RecV.dig, List.getD, List.getElem?_eq_getElem (by rw [hRL]; exact hx)]; rfl))
      have KLEN := Lib.hid (fun (x : Int) w' (C : Chg [] w3 w') => cp_length RC (recV b) ao rc x w' (HRI.out.chg0 C))
      have HPL := Lib.hid (fun T' fo => (planL_len (recV b) b.length T' fo (cntN b.length)).trans hn)
      have KPL := Lib.hid (fun w' (C : Chg [] w3 w') (p : Option Addr) (fo : HKey → Option (Pl × List UInt8)) (h1 : FindsAs w' p fo) (h2 : ∀ k, (fX (fo k)).length ≤ 128) => show Calls Tryd.prog 44 #[.agg RC, .pointer p, .slice ta tn tc] w' (PlanM w' (planL (recV b) b.length T fo n) n) from by
        have := (cp_plan RC (recV b) ao rc b.length (recV_good HB4.out) p fo ta tc T w' (HL.out.chg (HC3.out.trans C (by simp)) (by simp)) (HRI.out.chg0 C) h1 h2 (HT.out.chg (HC3.out.trans C (by simp)) (by simp)) HTC.out.2 HTC.out.1 HT0.out).mono (fun e w2 h => h.short (HPL.out T fo))
        rw [HTN.out, hn] at this
        exact this)
      have KPL2 := Lib.hid (fun w' (C : Chg [] w3 w') (h1 : FindsAs w' (some ⟨fb, 0, none⟩) (findL (Fadd (filesF L) whN b))) => KPL.out w' C (some ⟨fb, 0, none⟩) _ h1 (findL_short _))
      have KPL3 := Lib.hid (fun w' (C : Chg [] w3 w') => show Calls Tryd.prog 44 #[.agg RC, .pointer none, .slice bo bn bc] w' (PlanM w' (planL (recV b) b.length b (fun _ => none) n) n) from by
        have := (cp_plan RC (recV b) ao rc b.length (recV_good HB4.out) none (fun _ => none) bo bc b w' (HL.out.chg (HC3.out.trans C (by simp)) (by simp)) (HRI.out.chg0 C) (finds_none (noFinder_nil w')) (fun _ => Nat.zero_le _) (HB.out.chg (HC3.out.trans C (by simp)) (by simp)) (Nat.le_trans HB4.out (by decide)) HBC.out HB0.out).mono (fun e w2 h => h.short (HPL.out b (fun _ => none)))
        rw [hn, HBN.out] at this
        rw [HBN.out]
        exact this)
      have KASK := Lib.hid (fun (T' : List UInt8) (fo : HKey → Option (Pl × List UInt8)) (m : Nat) (hm : (askN (recV b) b.length T' fo n).length = m) (po : Option Addr) (pc : Nat) w' (hs : Src w' po (svs (planL (recV b) b.length T' fo n))) (hc : n ≤ pc) => show Calls Tryd.prog 50 #[.slice po n pc] w' (IntsM w' ((askN (recV b) b.length T' fo n).map fun i : Nat => (i : Int)) m) from by
        have hl : (planL (recV b) b.length T' fo n).length = n := planL_len _ _ _ _ _
        have := (cp_asked (planL (recV b) b.length T' fo n) po pc w' hs (by rw [hl]; exact hc) (by rw [hl]; omega)).mono (fun e w2 h => h.short (m := m) (by rw [askL_plan, List.length_map]; exact hm))
        rw [hl, askL_plan] at this
        exact this)
      have KAZ := Lib.hid (fun (po : Option Addr) (pc : Nat) w' (hs : Src w' po (svs (planL (recV b) b.length b (fun _ => none) n))) (hc : n ≤ pc) => show Calls Tryd.prog 50 #[.slice po n pc] w' (IntsM w' [] 0) from by
        have hl : (planL (recV b) b.length b (fun _ => none) n).length = n := planL_len _ _ _ _ _
        have hz : askL (planL (recV b) b.length b (fun _ => none) n) = [] := by rw [← hn]; exact plan_whole HB4.out _
        have := (cp_asked (planL (recV b) b.length b (fun _ => none) n) po pc w' hs (by rw [hl]; exact hc) (by rw [hl]; omega)).mono (fun e w2 h => h.short (m := 0) (by rw [hz]; rfl))
        rw [hl, hz] at this
        exact this)
      have KPA := Lib.hid (fun (x : Nat) (hx : x < n) (pl : Nat) (hpl : (partL b x).length = pl) w' (C : Chg [] w w') => show Calls Tryd.prog 22 #[.slice bo bn bc, .int .i64 (x : Int)] w' (MadeN w' (partL b x) pl) from by
        have := blk_Part b bo bc (x : Int) w' (HB.out.chg C (by simp)) HBC.out
        rw [show partZ b (x : Int) = partL b x from by unfold partZ; rw [if_pos ⟨by omega, by rw [hn]; simpa using hx⟩]; rfl, HBN.out] at this
        exact this.mono (fun e w2 h => h.short hpl))
      have KAD0 := Lib.hid (fun w' (C : Chg [] w w') (C4 : Chg [] w4 w') => show Calls Tryd.prog 31 #[.pointer (some ⟨fb, 0, none⟩), .string ⟨#[119, 104, 111, 108, 101]⟩, .slice bo bn bc] w' (Added w' fb (Fadd (filesF L) whN b) S 0) from by
        have := blk_addN fb (filesF L) S whN b bo bc w' (HL.out.chg C (by simp)) (hFS.fin.chg C4 (by simp)) (by have := HFF.out; omega) (HB.out.chg C (by simp)) HBC.out HB0.out (fun h a ha hm => by
          have h1 := HBS.out h a ha
          have h2 := HSN.out _ hm
          have h3 := HC3.out.size
          omega) HB4.out
        rw [HBN.out] at this
        exact this)
      have HWH := Lib.hid (fun x (hx : x < n) => show ∃ m xs, findL (Fadd (filesF L) whN b) (hkey ((recV b).dig x)) = some (m, xs) from by
        rw [dig_recV (by rw [hn]; exact hx)]
        exact findL_has (nm := whN) (by unfold Fadd; simp) (by rw [hn]; exact hx))
      have KLL := Lib.hid (fun (X : List UInt8) (co : Option Addr) (cc : Nat) w' (C : Chg [] w w') (hs : Src w' co (bvs X)) (hc : bn ≤ cc) (hX : X.length = bn) (hl : (listL X).length = n) => show Calls Tryd.prog 20 #[.slice co bn cc] w' (ListedM w' (listL X) n) from by
        have h4 : X.length ≤ 4096 := by rw [hX, ← HBN.out]; exact HB4.out
        have := blk_List X co cc w' (HL.out.chg C (by simp)) hs (by rw [hX]; exact hc)
        rw [show listO X = some (listL X) from by unfold listO; rw [if_neg (by omega)], hX] at this
        refine this.mono ?_
        rintro e w2 ⟨C2, lo, lc, rfl, ho, _⟩
        refine ⟨C2, lo, lc, by rw [hl], ownsRow_src_any ho, ?_⟩
        rw [← hl]
        exact (own_capM ho).1)
      obtain ⟨A, hA⟩ : ∃ A, askN (recV b) b.length T (findL (filesF L)) n = A := ⟨_, rfl⟩
      obtain ⟨am, ham⟩ : ∃ am, A.length = am := ⟨_, rfl⟩
      have HAM := Lib.hid ham
      have hamn : am ≤ n := by rw [← ham, ← hA]; exact askN_len _ _ _ _ _
      have HAXC := Lib.hid (fun (j x : Nat) (h : A[j]? = some x) => show x < cntN b.length from by rw [← hA] at h; rw [hn]; exact (askN_at h).1)
      have HAX := Lib.hid (fun (j x : Nat) (h : A[j]? = some x) => show x < n from by rw [← hA] at h; exact (askN_at h).1)
      have HAA := Lib.hid (fun (i j x y : Nat) (hi : A[i]? = some x) (hj : A[j]? = some y) (h : j < i) => show sameBlk (recV b) x y = false from by rw [← hA] at hi hj; exact asked_apart hi hj h)
      obtain ⟨A2, hA2⟩ : ∃ A2, askN (recV b) b.length T (findL (Fadd (filesF L) whN b)) n = A2 := ⟨_, rfl⟩
      obtain ⟨an2, han2⟩ : ∃ an2, A2.length = an2 := ⟨_, rfl⟩
      have HAN2 := Lib.hid han2
      have han2n : an2 ≤ n := by rw [← han2, ← hA2]; exact askN_len _ _ _ _ _
      have HAT2 := Lib.hid (fun (j x : Nat) (h : A2[j]? = some x) => show x < n ∧ ∀ m xs, findL (Fadd (filesF L) whN b) (hkey ((recV b).dig x)) = some (m, xs) → (xs.length : Int) ≠ (recV b).len x from by rw [← hA2] at h; exact ⟨(askN_at h).1, (askN_at h).2.2⟩)
      have KAS2 := Lib.hid (fun (po : Option Addr) (pc : Nat) w' (hs : Src w' po (svs (planL (recV b) b.length T (findL (Fadd (filesF L) whN b)) n))) (hc : n ≤ pc) => KASK.out T _ an2 (by rw [hA2]; exact han2) po pc w' hs hc)
      rw [hA2] at KAS2
      have KP := Lib.hid (KPL.out w4 H34.out (some ⟨fb, 0, none⟩) (findL (filesF L)) HFA.out (findL_short _))
      have KAS := Lib.hid (fun (po : Option Addr) (pc : Nat) w' (hs : Src w' po (svs (planL (recV b) b.length T (findL (filesF L)) n))) (hc : n ≤ pc) => KASK.out T _ am (by rw [hA]; exact ham) po pc w' hs hc)
      rw [hA] at KAS
      have KBD0 := Lib.hid (fun (po : Option Addr) (pc : Nat) (w5 : World) (hs : ∀ w', Chg [] w5 w' → Src w' po (svs (planL (recV b) b.length T (findL (filesF L)) n))) (hc : n ≤ pc) (G : List GotV) (go : Option Addr) (gc k : Nat) (w' : World) (C5 : Chg [] w5 w') (C : Chg [] w w') (C3 : Chg [] w3 w') (C4 : Chg [] w4 w') (hG : GotsAt w' go gc G) (hk : G.length = k) (hGx : ∀ (j : Nat) (g : GotV), G[j]? = some g → g.xs.length ≤ 1000000) (hGF : GotFor (recV b) A G) =>
        show Calls Tryd.prog 54 #[.agg RC, .slice po n pc, .pointer (some ⟨fb, 0, none⟩), .slice ta tn tc, .slice go k gc] w' (BuiltM w' b bn n) from by
        have := build_enough (po := po) (pc := pc) (p := some ⟨fb, 0, none⟩) HB4.out HFR.out (findL_short _) (HL.out.chg C (by simp)) (HRI.out.chg0 C3) (HFA.out.chg C4) (HT.out.chg C (by simp)) HTC.out.2 HTC.out.1 HT0.out (by rw [hn]; exact hs w' C5) (by rw [hn]; exact hc) hG (by rw [hGF.len, ham]; omega) hGx (by rw [hn, hA]; exact hGF)
        rw [hn, HTN.out, hk, HBN.out] at this
        exact this)
      have hldr := HLD.out w4 H34.out
      clear hFS KFN hA hA2 ham han2 hn hRL HPL KASK
      go_wp2_with (refine wpList_load_y 77 (.tmp 7) rfl (by go_simp) (.pointer (some ⟨q, 0, none⟩)) (.agg RC) hldr rfl ?_)
      refine KP.out.mono ?_
      rintro e w5 ⟨C5, po, pc, rfl, hs5, hpc⟩
      have H35 := Lib.hid (H34.out.trans C5 (by simp))
      have HC45 := Lib.hid C5
      have HS5 := Lib.hid hs5
      have KBD5 := Lib.hid (KBD0.out po pc w5 (fun w' C => HS5.out.chg C (by simp)) hpc)
      have KAS5 := Lib.hid (KAS.out po pc w5 hs5 hpc)
      have c23 := HCB.out w5 H35.out
      clear C5 hs5 hldr KP KAS KBD0
      go_wp2_with fail
      refine KAS5.out.mono ?_
      rintro e w6 ⟨xo, xc, rfl, hown, C6⟩
      have H36 := Lib.hid (H35.out.trans C6 (by simp))
      have H46 := Lib.hid (HC45.out.trans C6 (by simp))
      have hxc := (own_capM hown).1
      have HAC := Lib.hid (fun (j x : Nat) (h : A[j]? = some x) => ints_cell (ownsRow_src hown) h)
      have HGE := Lib.hid (fun k (hk : k < am) => show ∃ x, A[k]? = some x from ⟨_, List.getElem?_eq_getElem (by rw [HAM.out]; exact hk)⟩)
      have H56 := Lib.hid C6
      have KBD := Lib.hid (fun (G : List GotV) (go : Option Addr) (gc k : Nat) (w' : World) (C6 : Chg [] w6 w') (C : Chg [] w w') (C3 : Chg [] w3 w') (C4 : Chg [] w4 w') hG hk hGx hGF => KBD5.out G go gc k w' (H56.out.trans C6 (by simp)) C C3 C4 hG hk hGx hGF)
      clear hown C6 KAS5 c23 KBD5 HC45 H35 HS5
      go_wp2_with fail
      go_loopw [13, 14] (fun v13 v14 wr => ∃ (k c' : Nat) (ao' : Option Addr), v13 = .slice ao' k c' ∧ v14 = .int .i64 (k : Int) ∧ k ≤ am ∧ Hid (∃ G, EnG w6 wr b A k G (.slice ao' k c'))) (fun _ v _ => am - (intOf v).toNat)
      case atStart => exact ⟨0, 0, none, rfl, rfl, Nat.zero_le _, Lib.hid ⟨[], EnG.start w6 b A⟩⟩
      case round =>
        obtain ⟨k, c', ao', rfl, rfl, hk, HE⟩ := hrel
        by_cases hlt : k < am
        · have e1 : (k : Int) < am := Int.ofNat_lt.2 hlt
          have e0 : (0 : Int) ≤ k := Int.natCast_nonneg _
          obtain ⟨x, hxk⟩ := HGE.out k hlt
          have hxn := HAX.out k x hxk
          have HXN := Lib.hid hxn
          have hxi : (x : Int) < n := Int.ofNat_lt.2 hxn
          have hx0 : (0 : Int) ≤ x := Int.natCast_nonneg _
          have hxr : x < rc := by omega
          obtain ⟨xa, rfl, hcx⟩ := HAC.out k x hxk
          have HCX := Lib.hid hcx
          obtain ⟨ra, rfl, hdx⟩ := HDG.out x hxn
          have HDX := Lib.hid hdx
          have HXK := Lib.hid hxk
          obtain ⟨GG, hE⟩ := HE.out
          have HE2 := Lib.hid hE
          have H6R := Lib.hid hE.C
          have H3R := Lib.hid (H36.out.trans hE.C (by simp))
          clear hcx hdx hxk hE HE
          generalize wr = wo at *
          go_wp2_with fail
          go_loopw [15] (fun v wi => ∃ j : Nat, v = .int .i64 (j : Int) ∧ j ≤ k ∧ Hid (Chg [] wo wi)) (fun v _ => k - (intOf v).toNat)
          case atStart => exact ⟨0, rfl, Nat.zero_le _, Lib.hid (Chg.refl _ _)⟩
          case round =>
            obtain ⟨j, rfl, hj, HCI⟩ := hrel
            by_cases hjl : j < k
            · have e2 : (j : Int) < k := Int.ofNat_lt.2 hjl
              have e3 : (0 : Int) ≤ j := Int.natCast_nonneg _
              have hjc : j < xc := by omega
              have hja : j < am := by omega
              have e4 : (j : Int) < am := by omega
              have hkc : k < xc := by omega
              obtain ⟨y, hyj⟩ := HGE.out j (by omega)
              have hyn := HAX.out j y hyj
              have hyi : (y : Int) < n := Int.ofNat_lt.2 hyn
              have hy0 : (0 : Int) ≤ y := Int.natCast_nonneg _
              have hyr : y < rc := by omega
              obtain ⟨_, e, hcy⟩ := HAC.out j y hyj
              cases e
              have HCY := Lib.hid hcy
              obtain ⟨_, e, hdy⟩ := HDG.out y hyn
              cases e
              have HDY := Lib.hid hdy
              have HAP := Lib.hid (HAA.out k j x y HXK.out hyj hjl)
              have H3I := Lib.hid (H3R.out.trans HCI.out (by simp))
              have H6I := Lib.hid (H6R.out.trans HCI.out (by simp))
              clear hcy hdy
              have HQX := Lib.hid (fun w' => run_eq_hash ((recV b).dig x) ((recV b).dig y) w')
              have HSB : Hid (sameHash ((recV b).dig x) ((recV b).dig y) = true → (recV b).len x ≠ (recV b).len y) := Lib.hid (fun h1 h2 => by
                have h3 := HAP.out
                rw [Bool.eq_false_iff] at h3
                rw [sameHash_hkey, decide_eq_true_iff] at h1
                exact h3 (sameBlk_iff.2 ⟨h1.symm, h2.symm⟩))
              obtain ⟨Rx, hRx⟩ : ∃ Rx, hashC ((recV b).dig x) = Rx := ⟨_, rfl⟩
              obtain ⟨Ry, hRy⟩ : ∃ Ry, hashC ((recV b).dig y) = Ry := ⟨_, rfl⟩
              obtain ⟨SH, hSH⟩ : ∃ SH, sameHash ((recV b).dig x) ((recV b).dig y) = SH := ⟨_, rfl⟩
              have HQ : Hid (∀ w', (binOp .eql 32 (.agg Rx) (.agg Ry)).run Tryd.prog w' = .ok (.bool SH) w') := Lib.hid (fun w' => by
                have := HQX.out w'
                rwa [hashV, hashV, hRx, hRy, hSH] at this)
              rw [hRx] at HDX
              rw [hRy] at HDY
              rw [hSH] at HSB
              clear HQX HAP hRx hRy hSH hyj
              go_upto_region 16 with (fail)
              cases SH with
              | false =>
                refine wp_region_held_drew (S := fun w' => Chg [] wr w') (by kernel_rfl) ((Chg.drewN [] wr 1)) (fun H0 => ?_)
                refine' tkH (i := 0) (v := _) rfl (Or.inl ⟨by rfl, ?hym0⟩) H0 ?restm0
                case hym0 =>
                  intro w' hSw
                  have s1 := hSw
                  go_simp
                  try with_reducible rfl
                (try simp only [Act.put, List.getElem_toArray, List.getElem_cons_zero, List.setIfInBounds_toArray, List.set_cons_zero, List.set_cons_succ])
                refine' tkH (i := 1) (v := _) rfl (Or.inl ⟨by rfl, ?hym1⟩) H0 ?restm1
                case hym1 =>
                  intro w' hSw
                  have s1 := hSw
                  have hc := HCB.out w' (H3I.out.trans s1 (by simp))
                  go_simp
                  try with_reducible rfl
                (try simp only [Act.put, List.getElem_toArray, List.getElem_cons_succ, List.getElem_cons_zero, List.setIfInBounds_toArray, List.set_cons_zero, List.set_cons_succ])
                refine' tkH (i := 2) (v := _) rfl (Or.inl ⟨by rfl, ?hym2⟩) H0 ?restm2
                case hym2 =>
                  intro w' hSw
                  have s1 := hSw
                  go_simp
                  try with_reducible rfl
                (try simp only [Act.put, List.getElem_toArray, List.getElem_cons_succ, List.getElem_cons_zero, List.setIfInBounds_toArray, List.set_cons_zero, List.set_cons_succ])
                refine' tkH (i := 3) (v := _) rfl (Or.inl ⟨by rfl, ?hym3⟩) H0 ?restm3
                case hym3 =>
                  intro w' hSw
                  have s1 := hSw
                  go_simp
                  try with_reducible rfl
                (try simp only [Act.put, List.getElem_toArray, List.getElem_cons_succ, List.getElem_cons_zero, List.setIfInBounds_toArray, List.set_cons_zero, List.set_cons_succ])
                refine' tkH (i := 4) (v := _) rfl (Or.inl ⟨by rfl, ?hym4⟩) H0 ?restm4
                case hym4 =>
                  intro w' hSw
                  have s1 := hSw
                  go_simp
                  try with_reducible rfl
                (try simp only [Act.put, List.getElem_toArray, List.getElem_cons_succ, List.getElem_cons_zero, List.setIfInBounds_toArray, List.set_cons_zero, List.set_cons_succ])
                refine' tkH (i := 5) (v := _) rfl (Or.inl ⟨by rfl, ?hym5⟩) H0 ?restm5
                case hym5 =>
                  intro w' hSw
                  have s1 := hSw
                  have hc := HCX.out w' (H6I.out.trans s1 (by simp))
                  go_simp
                  try with_reducible rfl
                (try simp only [Act.put, List.getElem_toArray, List.getElem_cons_succ, List.getElem_cons_zero, List.setIfInBounds_toArray, List.set_cons_zero, List.set_cons_succ])
                refine' tkH (i := 6) (v := _) rfl (Or.inl ⟨by rfl, ?hym6⟩) H0 ?restm6
                case hym6 =>
                  intro w' hSw
                  have s1 := hSw
                  go_simp
                  try with_reducible rfl
                (try simp only [Act.put, List.getElem_toArray, List.getElem_cons_succ, List.getElem_cons_zero, List.setIfInBounds_toArray, List.set_cons_zero, List.set_cons_succ])
                refine' tkH (i := 7) (v := .agg Rx) rfl (Or.inl ⟨by rfl, ?hym7⟩) H0 ?restm7
                case hym7 =>
                  intro w' hSw
                  have s1 := hSw
                  have hl := HDX.out w' (H3I.out.trans s1 (by simp))
                  simp [execOp, Act.eval, hl, Result.andThen]
                (try simp only [Act.put, List.getElem_toArray, List.getElem_cons_succ, List.getElem_cons_zero, List.setIfInBounds_toArray, List.set_cons_zero, List.set_cons_succ])
                refine' tkH (i := 8) (v := _) rfl (Or.inl ⟨by rfl, ?hym8⟩) H0 ?restm8
                case hym8 =>
                  intro w' hSw
                  have s1 := hSw
                  go_simp
                  try with_reducible rfl
                (try simp only [Act.put, List.getElem_toArray, List.getElem_cons_succ, List.getElem_cons_zero, List.setIfInBounds_toArray, List.set_cons_zero, List.set_cons_succ])
                refine' tkH (i := 9) (v := _) rfl (Or.inl ⟨by rfl, ?hym9⟩) H0 ?restm9
                case hym9 =>
                  intro w' hSw
                  have s1 := hSw
                  have hc := HCB.out w' (H3I.out.trans s1 (by simp))
                  go_simp
                  try with_reducible rfl
                (try simp only [Act.put, List.getElem_toArray, List.getElem_cons_succ, List.getElem_cons_zero, List.setIfInBounds_toArray, List.set_cons_zero, List.set_cons_succ])
                refine' tkH (i := 10) (v := _) rfl (Or.inl ⟨by rfl, ?hym10⟩) H0 ?restm10
                case hym10 =>
                  intro w' hSw
                  have s1 := hSw
                  go_simp
                  try with_reducible rfl
                (try simp only [Act.put, List.getElem_toArray, List.getElem_cons_succ, List.getElem_cons_zero, List.setIfInBounds_toArray, List.set_cons_zero, List.set_cons_succ])
                refine' tkH (i := 11) (v := _) rfl (Or.inl ⟨by rfl, ?hym11⟩) H0 ?restm11
                case hym11 =>
                  intro w' hSw
                  have s1 := hSw
                  go_simp
                  try with_reducible rfl
                (try simp only [Act.put, List.getElem_toArray, List.getElem_cons_succ, List.getElem_cons_zero, List.setIfInBounds_toArray, List.set_cons_zero, List.set_cons_succ])
                refine' tkH (i := 12) (v := _) rfl (Or.inl ⟨by rfl, ?hym12⟩) H0 ?restm12
                case hym12 =>
                  intro w' hSw
                  have s1 := hSw
                  go_simp
                  try with_reducible rfl
                (try simp only [Act.put, List.getElem_toArray, List.getElem_cons_succ, List.getElem_cons_zero, List.setIfInBounds_toArray, List.set_cons_zero, List.set_cons_succ])
                refine' tkH (i := 13) (v := _) rfl (Or.inl ⟨by rfl, ?hym13⟩) H0 ?restm13
                case hym13 =>
                  intro w' hSw
                  have s1 := hSw
                  have hc := HCY.out w' (H6I.out.trans s1 (by simp))
                  go_simp
                  try with_reducible rfl
                (try simp only [Act.put, List.getElem_toArray, List.getElem_cons_succ, List.getElem_cons_zero, List.setIfInBounds_toArray, List.set_cons_zero, List.set_cons_succ])
                refine' tkH (i := 14) (v := _) rfl (Or.inl ⟨by rfl, ?hym14⟩) H0 ?restm14
                case hym14 =>
                  intro w' hSw
                  have s1 := hSw
                  go_simp
                  try with_reducible rfl
                (try simp only [Act.put, List.getElem_toArray, List.getElem_cons_succ, List.getElem_cons_zero, List.setIfInBounds_toArray, List.set_cons_zero, List.set_cons_succ])
                refine' tkH (i := 15) (v := .agg Ry) rfl (Or.inl ⟨by rfl, ?hym15⟩) H0 ?restm15
                case hym15 =>
                  intro w' hSw
                  have s1 := hSw
                  have hl := HDY.out w' (H3I.out.trans s1 (by simp))
                  simp [execOp, Act.eval, hl, Result.andThen]
                (try simp only [Act.put, List.getElem_toArray, List.getElem_cons_succ, List.getElem_cons_zero, List.setIfInBounds_toArray, List.set_cons_zero, List.set_cons_succ])
                refine' tkH (i := 16) (v := .bool false) rfl (Or.inl ⟨by rfl, ?hym16⟩) H0 ?restm16
                case hym16 =>
                  intro w' hSw
                  have s1 := hSw
                  have hqq := HQ.out w'
                  simp [execOp, Act.eval, hash_guard, hqq, Result.andThen]
                (try simp only [Act.put, List.getElem_toArray, List.getElem_cons_succ, List.getElem_cons_zero, List.setIfInBounds_toArray, List.set_cons_zero, List.set_cons_succ])
                refine' tkH (i := 17) (v := _) rfl (Or.inl ⟨by rfl, ?hym17⟩) H0 ?restm17
                case hym17 =>
                  intro w' hSw
                  have s1 := hSw
                  go_simp
                  try with_reducible rfl
                (try simp only [Act.put, List.getElem_toArray, List.getElem_cons_succ, List.getElem_cons_zero, List.setIfInBounds_toArray, List.set_cons_zero, List.set_cons_succ])
                refine tkH (i := 18) (v := undef) rfl (Or.inr ⟨by rfl, rfl⟩) H0 ?_
                (try simp only [Act.put, List.getElem_toArray, List.getElem_cons_succ, List.getElem_cons_zero, List.setIfInBounds_toArray, List.set_cons_zero, List.set_cons_succ])
                refine tkH (i := 19) (v := undef) rfl (Or.inr ⟨by rfl, rfl⟩) H0 ?_
                (try simp only [Act.put, List.getElem_toArray, List.getElem_cons_succ, List.getElem_cons_zero, List.setIfInBounds_toArray, List.set_cons_zero, List.set_cons_succ])
                refine tkH (i := 20) (v := undef) rfl (Or.inr ⟨by rfl, rfl⟩) H0 ?_
                (try simp only [Act.put, List.getElem_toArray, List.getElem_cons_succ, List.getElem_cons_zero, List.setIfInBounds_toArray, List.set_cons_zero, List.set_cons_succ])
                refine tkH (i := 21) (v := undef) rfl (Or.inr ⟨by rfl, rfl⟩) H0 ?_
                (try simp only [Act.put, List.getElem_toArray, List.getElem_cons_succ, List.getElem_cons_zero, List.setIfInBounds_toArray, List.set_cons_zero, List.set_cons_succ])
                refine tkH (i := 22) (v := undef) rfl (Or.inr ⟨by rfl, rfl⟩) H0 ?_
                (try simp only [Act.put, List.getElem_toArray, List.getElem_cons_succ, List.getElem_cons_zero, List.setIfInBounds_toArray, List.set_cons_zero, List.set_cons_succ])
                refine tkH (i := 23) (v := undef) rfl (Or.inr ⟨by rfl, rfl⟩) H0 ?_
                (try simp only [Act.put, List.getElem_toArray, List.getElem_cons_succ, List.getElem_cons_zero, List.setIfInBounds_toArray, List.set_cons_zero, List.set_cons_succ])
                refine tkH (i := 24) (v := undef) rfl (Or.inr ⟨by rfl, rfl⟩) H0 ?_
                (try simp only [Act.put, List.getElem_toArray, List.getElem_cons_succ, List.getElem_cons_zero, List.setIfInBounds_toArray, List.set_cons_zero, List.set_cons_succ])
                refine tkH (i := 25) (v := undef) rfl (Or.inr ⟨by rfl, rfl⟩) H0 ?_
                (try simp only [Act.put, List.getElem_toArray, List.getElem_cons_succ, List.getElem_cons_zero, List.setIfInBounds_toArray, List.set_cons_zero, List.set_cons_succ])
                refine tkH (i := 26) (v := undef) rfl (Or.inr ⟨by rfl, rfl⟩) H0 ?_
                (try simp only [Act.put, List.getElem_toArray, List.getElem_cons_succ, List.getElem_cons_zero, List.setIfInBounds_toArray, List.set_cons_zero, List.set_cons_succ])
                refine tkH (i := 27) (v := undef) rfl (Or.inr ⟨by rfl, rfl⟩) H0 ?_
                (try simp only [Act.put, List.getElem_toArray, List.getElem_cons_succ, List.getElem_cons_zero, List.setIfInBounds_toArray, List.set_cons_zero, List.set_cons_succ])
                refine tkH (i := 28) (v := undef) rfl (Or.inr ⟨by rfl, rfl⟩) H0 ?_
                (try simp only [Act.put, List.getElem_toArray, List.getElem_cons_succ, List.getElem_cons_zero, List.setIfInBounds_toArray, List.set_cons_zero, List.set_cons_succ])
                refine tkH (i := 29) (v := undef) rfl (Or.inr ⟨by rfl, rfl⟩) H0 ?_
                (try simp only [Act.put, List.getElem_toArray, List.getElem_cons_succ, List.getElem_cons_zero, List.setIfInBounds_toArray, List.set_cons_zero, List.set_cons_succ])
                refine tkH (i := 30) (v := undef) rfl (Or.inr ⟨by rfl, rfl⟩) H0 ?_
                (try simp only [Act.put, List.getElem_toArray, List.getElem_cons_succ, List.getElem_cons_zero, List.setIfInBounds_toArray, List.set_cons_zero, List.set_cons_succ])
                refine' tkH (i := 31) (v := _) rfl (Or.inl ⟨by rfl, ?hym31⟩) H0 ?restm31
                case hym31 =>
                  intro w' hSw
                  have s1 := hSw
                  go_simp
                  try with_reducible rfl
                (try simp only [Act.put, List.getElem_toArray, List.getElem_cons_succ, List.getElem_cons_zero, List.setIfInBounds_toArray, List.set_cons_zero, List.set_cons_succ])
                refine wpAnyH_done (by kernel_rfl) ?_ _
                have HCN := Lib.hid (HCI.out.trans H0 (by simp))
                clear H0 HCI H3I H6I
                go_wp2_with fail
                go_roundw
                case rel => exact ⟨j + 1, by go_num, hjl, HCN⟩
                case measure => simp [intOf] <;> omega
              | true =>
                have hm := HSB.out rfl
                have KLx := Lib.hid (fun w' (C : Chg [] w3 w') => KLEN.out (x : Int) w' C)
                have KLy := Lib.hid (fun w' (C : Chg [] w3 w') => KLEN.out (y : Int) w' C)
                clear HSB
                generalize (recV b).len (x : Int) = Lx at *
                generalize (recV b).len (y : Int) = Ly at *
                refine wp_region_held_drew (S := fun w' => Chg [] wr w') (by kernel_rfl) ((Chg.drewN [] wr 1)) (fun H0 => ?_)
                refine' tkH (i := 0) (v := _) rfl (Or.inl ⟨by rfl, ?hyy0⟩) H0 ?resty0
                case hyy0 =>
                  intro w' hSw
                  have s1 := hSw
                  go_simp
                  try with_reducible rfl
                (try simp only [Act.put, List.getElem_toArray, List.getElem_cons_zero, List.setIfInBounds_toArray, List.set_cons_zero, List.set_cons_succ])
                refine' tkH (i := 1) (v := _) rfl (Or.inl ⟨by rfl, ?hyy1⟩) H0 ?resty1
                case hyy1 =>
                  intro w' hSw
                  have s1 := hSw
                  have hc := HCB.out w' (H3I.out.trans s1 (by simp))
                  go_simp
                  try with_reducible rfl
                (try simp only [Act.put, List.getElem_toArray, List.getElem_cons_succ, List.getElem_cons_zero, List.setIfInBounds_toArray, List.set_cons_zero, List.set_cons_succ])
                refine' tkH (i := 2) (v := _) rfl (Or.inl ⟨by rfl, ?hyy2⟩) H0 ?resty2
                case hyy2 =>
                  intro w' hSw
                  have s1 := hSw
                  go_simp
                  try with_reducible rfl
                (try simp only [Act.put, List.getElem_toArray, List.getElem_cons_succ, List.getElem_cons_zero, List.setIfInBounds_toArray, List.set_cons_zero, List.set_cons_succ])
                refine' tkH (i := 3) (v := _) rfl (Or.inl ⟨by rfl, ?hyy3⟩) H0 ?resty3
                case hyy3 =>
                  intro w' hSw
                  have s1 := hSw
                  go_simp
                  try with_reducible rfl
                (try simp only [Act.put, List.getElem_toArray, List.getElem_cons_succ, List.getElem_cons_zero, List.setIfInBounds_toArray, List.set_cons_zero, List.set_cons_succ])
                refine' tkH (i := 4) (v := _) rfl (Or.inl ⟨by rfl, ?hyy4⟩) H0 ?resty4
                case hyy4 =>
                  intro w' hSw
                  have s1 := hSw
                  go_simp
                  try with_reducible rfl
                (try simp only [Act.put, List.getElem_toArray, List.getElem_cons_succ, List.getElem_cons_zero, List.setIfInBounds_toArray, List.set_cons_zero, List.set_cons_succ])
                refine' tkH (i := 5) (v := _) rfl (Or.inl ⟨by rfl, ?hyy5⟩) H0 ?resty5
                case hyy5 =>
                  intro w' hSw
                  have s1 := hSw
                  have hc := HCX.out w' (H6I.out.trans s1 (by simp))
                  go_simp
                  try with_reducible rfl
                (try simp only [Act.put, List.getElem_toArray, List.getElem_cons_succ, List.getElem_cons_zero, List.setIfInBounds_toArray, List.set_cons_zero, List.set_cons_succ])
                refine' tkH (i := 6) (v := _) rfl (Or.inl ⟨by rfl, ?hyy6⟩) H0 ?resty6
                case hyy6 =>
                  intro w' hSw
                  have s1 := hSw
                  go_simp
                  try with_reducible rfl
                (try simp only [Act.put, List.getElem_toArray, List.getElem_cons_succ, List.getElem_cons_zero, List.setIfInBounds_toArray, List.set_cons_zero, List.set_cons_succ])
                refine' tkH (i := 7) (v := .agg Rx) rfl (Or.inl ⟨by rfl, ?hyy7⟩) H0 ?resty7
                case hyy7 =>
                  intro w' hSw
                  have s1 := hSw
                  have hl := HDX.out w' (H3I.out.trans s1 (by simp))
                  simp [execOp, Act.eval, hl, Result.andThen]
                (try simp only [Act.put, List.getElem_toArray, List.getElem_cons_succ, List.getElem_cons_zero, List.setIfInBounds_toArray, List.set_cons_zero, List.set_cons_succ])
                refine' tkH (i := 8) (v := _) rfl (Or.inl ⟨by rfl, ?hyy8⟩) H0 ?resty8
                case hyy8 =>
                  intro w' hSw
                  have s1 := hSw
                  go_simp
                  try with_reducible rfl
                (try simp only [Act.put, List.getElem_toArray, List.getElem_cons_succ, List.getElem_cons_zero, List.setIfInBounds_toArray, List.set_cons_zero, List.set_cons_succ])
                refine' tkH (i := 9) (v := _) rfl (Or.inl ⟨by rfl, ?hyy9⟩) H0 ?resty9
                case hyy9 =>
                  intro w' hSw
                  have s1 := hSw
                  have hc := HCB.out w' (H3I.out.trans s1 (by simp))
                  go_simp
                  try with_reducible rfl
                (try simp only [Act.put, List.getElem_toArray, List.getElem_cons_succ, List.getElem_cons_zero, List.setIfInBounds_toArray, List.set_cons_zero, List.set_cons_succ])
                refine' tkH (i := 10) (v := _) rfl (Or.inl ⟨by rfl, ?hyy10⟩) H0 ?resty10
                case hyy10 =>
                  intro w' hSw
                  have s1 := hSw
                  go_simp
                  try with_reducible rfl
                (try simp only [Act.put, List.getElem_toArray, List.getElem_cons_succ, List.getElem_cons_zero, List.setIfInBounds_toArray, List.set_cons_zero, List.set_cons_succ])
                refine' tkH (i := 11) (v := _) rfl (Or.inl ⟨by rfl, ?hyy11⟩) H0 ?resty11
                case hyy11 =>
                  intro w' hSw
                  have s1 := hSw
                  go_simp
                  try with_reducible rfl
                (try simp only [Act.put, List.getElem_toArray, List.getElem_cons_succ, List.getElem_cons_zero, List.setIfInBounds_toArray, List.set_cons_zero, List.set_cons_succ])
                refine' tkH (i := 12) (v := _) rfl (Or.inl ⟨by rfl, ?hyy12⟩) H0 ?resty12
                case hyy12 =>
                  intro w' hSw
                  have s1 := hSw
                  go_simp
                  try with_reducible rfl
                (try simp only [Act.put, List.getElem_toArray, List.getElem_cons_succ, List.getElem_cons_zero, List.setIfInBounds_toArray, List.set_cons_zero, List.set_cons_succ])
                refine' tkH (i := 13) (v := _) rfl (Or.inl ⟨by rfl, ?hyy13⟩) H0 ?resty13
                case hyy13 =>
                  intro w' hSw
                  have s1 := hSw
                  have hc := HCY.out w' (H6I.out.trans s1 (by simp))
                  go_simp
                  try with_reducible rfl
                (try simp only [Act.put, List.getElem_toArray, List.getElem_cons_succ, List.getElem_cons_zero, List.setIfInBounds_toArray, List.set_cons_zero, List.set_cons_succ])
                refine' tkH (i := 14) (v := _) rfl (Or.inl ⟨by rfl, ?hyy14⟩) H0 ?resty14
                case hyy14 =>
                  intro w' hSw
                  have s1 := hSw
                  go_simp
                  try with_reducible rfl
                (try simp only [Act.put, List.getElem_toArray, List.getElem_cons_succ, List.getElem_cons_zero, List.setIfInBounds_toArray, List.set_cons_zero, List.set_cons_succ])
                refine' tkH (i := 15) (v := .agg Ry) rfl (Or.inl ⟨by rfl, ?hyy15⟩) H0 ?resty15
                case hyy15 =>
                  intro w' hSw
                  have s1 := hSw
                  have hl := HDY.out w' (H3I.out.trans s1 (by simp))
                  simp [execOp, Act.eval, hl, Result.andThen]
                (try simp only [Act.put, List.getElem_toArray, List.getElem_cons_succ, List.getElem_cons_zero, List.setIfInBounds_toArray, List.set_cons_zero, List.set_cons_succ])
                refine' tkH (i := 16) (v := .bool true) rfl (Or.inl ⟨by rfl, ?hyy16⟩) H0 ?resty16
                case hyy16 =>
                  intro w' hSw
                  have s1 := hSw
                  have hqq := HQ.out w'
                  simp [execOp, Act.eval, hash_guard, hqq, Result.andThen]
                (try simp only [Act.put, List.getElem_toArray, List.getElem_cons_succ, List.getElem_cons_zero, List.setIfInBounds_toArray, List.set_cons_zero, List.set_cons_succ])
                refine' tkH (i := 17) (v := _) rfl (Or.inl ⟨by rfl, ?hyy17⟩) H0 ?resty17
                case hyy17 =>
                  intro w' hSw
                  have s1 := hSw
                  go_simp
                  try with_reducible rfl
                (try simp only [Act.put, List.getElem_toArray, List.getElem_cons_succ, List.getElem_cons_zero, List.setIfInBounds_toArray, List.set_cons_zero, List.set_cons_succ])
                refine' tkH (i := 18) (v := .agg RC) rfl (Or.inl ⟨by rfl, ?hyy18⟩) H0 ?resty18
                case hyy18 =>
                  intro w' hSw
                  have s1 := hSw
                  have hl := HLD.out w' (H3I.out.trans s1 (by simp))
                  simp [execOp, Act.eval, hl, Result.andThen]
                (try simp only [Act.put, List.getElem_toArray, List.getElem_cons_succ, List.getElem_cons_zero, List.setIfInBounds_toArray, List.set_cons_zero, List.set_cons_succ])
                refine' tkH (i := 19) (v := _) rfl (Or.inl ⟨by rfl, ?hyy19⟩) H0 ?resty19
                case hyy19 =>
                  intro w' hSw
                  have s1 := hSw
                  go_simp
                  try with_reducible rfl
                (try simp only [Act.put, List.getElem_toArray, List.getElem_cons_succ, List.getElem_cons_zero, List.setIfInBounds_toArray, List.set_cons_zero, List.set_cons_succ])
                refine' tkH (i := 20) (v := _) rfl (Or.inl ⟨by rfl, ?hyy20⟩) H0 ?resty20
                case hyy20 =>
                  intro w' hSw
                  have s1 := hSw
                  go_simp
                  try with_reducible rfl
                (try simp only [Act.put, List.getElem_toArray, List.getElem_cons_succ, List.getElem_cons_zero, List.setIfInBounds_toArray, List.set_cons_zero, List.set_cons_succ])
                refine' tkH (i := 21) (v := _) rfl (Or.inl ⟨by rfl, ?hyy21⟩) H0 ?resty21
                case hyy21 =>
                  intro w' hSw
                  have s1 := hSw
                  go_simp
                  try with_reducible rfl
                (try simp only [Act.put, List.getElem_toArray, List.getElem_cons_succ, List.getElem_cons_zero, List.setIfInBounds_toArray, List.set_cons_zero, List.set_cons_succ])
                refine' tkH (i := 22) (v := _) rfl (Or.inl ⟨by rfl, ?hyy22⟩) H0 ?resty22
                case hyy22 =>
                  intro w' hSw
                  have s1 := hSw
                  have hc := HCX.out w' (H6I.out.trans s1 (by simp))
                  go_simp
                  try with_reducible rfl
                (try simp only [Act.put, List.getElem_toArray, List.getElem_cons_succ, List.getElem_cons_zero, List.setIfInBounds_toArray, List.set_cons_zero, List.set_cons_succ])
                refine' tkH (i := 24) (v := .agg RC) rfl (Or.inl ⟨by rfl, ?hyy24⟩) H0 ?resty24
                case hyy24 =>
                  intro w' hSw
                  have s1 := hSw
                  have hl := HLD.out w' (H3I.out.trans s1 (by simp))
                  simp [execOp, Act.eval, hl, Result.andThen]
                (try simp only [Act.put, List.getElem_toArray, List.getElem_cons_succ, List.getElem_cons_zero, List.setIfInBounds_toArray, List.set_cons_zero, List.set_cons_succ])
                refine' tkH (i := 25) (v := _) rfl (Or.inl ⟨by rfl, ?hyy25⟩) H0 ?resty25
                case hyy25 =>
                  intro w' hSw
                  have s1 := hSw
                  go_simp
                  try with_reducible rfl
                (try simp only [Act.put, List.getElem_toArray, List.getElem_cons_succ, List.getElem_cons_zero, List.setIfInBounds_toArray, List.set_cons_zero, List.set_cons_succ])
                refine' tkH (i := 26) (v := _) rfl (Or.inl ⟨by rfl, ?hyy26⟩) H0 ?resty26
                case hyy26 =>
                  intro w' hSw
                  have s1 := hSw
                  go_simp
                  try with_reducible rfl
                (try simp only [Act.put, List.getElem_toArray, List.getElem_cons_succ, List.getElem_cons_zero, List.setIfInBounds_toArray, List.set_cons_zero, List.set_cons_succ])
                refine' tkH (i := 27) (v := _) rfl (Or.inl ⟨by rfl, ?hyy27⟩) H0 ?resty27
                case hyy27 =>
                  intro w' hSw
                  have s1 := hSw
                  go_simp
                  try with_reducible rfl
                (try simp only [Act.put, List.getElem_toArray, List.getElem_cons_succ, List.getElem_cons_zero, List.setIfInBounds_toArray, List.set_cons_zero, List.set_cons_succ])
                refine' tkH (i := 28) (v := _) rfl (Or.inl ⟨by rfl, ?hyy28⟩) H0 ?resty28
                case hyy28 =>
                  intro w' hSw
                  have s1 := hSw
                  have hc := HCY.out w' (H6I.out.trans s1 (by simp))
                  go_simp
                  try with_reducible rfl
                (try simp only [Act.put, List.getElem_toArray, List.getElem_cons_succ, List.getElem_cons_zero, List.setIfInBounds_toArray, List.set_cons_zero, List.set_cons_succ])
                refine wpAnyH_ready (rs := [23]) (by kernel_rfl) (by simp) (AllReadyH.cons rfl (fun K hK => ?_) AllReadyH.nil)
                go_simp
                refine (KLx.out _ (H3I.out.trans H0 (by simp))).mono ?_
                rintro e wy23 ⟨rfl, Cy⟩
                go_simp
                refine hK.out _ _ (H0.trans Cy (by simp)) (fun H1 => ?_)
                clear hK K Cy
                refine wpAnyH_ready (rs := [29]) (by kernel_rfl) (by simp) (AllReadyH.cons rfl (fun K hK => ?_) AllReadyH.nil)
                go_simp
                refine (KLy.out _ (H3I.out.trans H1 (by simp))).mono ?_
                rintro e wy29 ⟨rfl, Cy⟩
                go_simp
                refine hK.out _ _ (H1.trans Cy (by simp)) (fun H2 => ?_)
                clear hK K Cy
                refine' tkH (i := 30) (v := .bool false) rfl (Or.inl ⟨by rfl, ?hyy30⟩) H2 ?resty30
                case hyy30 =>
                  intro w' hSw
                  have s1 := hSw
                  go_simp
                  try (first | exact hm | simp [hm])
                (try simp only [Act.put, List.getElem_toArray, List.getElem_cons_succ, List.getElem_cons_zero, List.setIfInBounds_toArray, List.set_cons_zero, List.set_cons_succ])
                refine' tkH (i := 31) (v := _) rfl (Or.inl ⟨by rfl, ?hyy31⟩) H2 ?resty31
                case hyy31 =>
                  intro w' hSw
                  have s1 := hSw
                  go_simp
                  try with_reducible rfl
                (try simp only [Act.put, List.getElem_toArray, List.getElem_cons_succ, List.getElem_cons_zero, List.setIfInBounds_toArray, List.set_cons_zero, List.set_cons_succ])
                refine wpAnyH_done (by kernel_rfl) ?_ _
                have HCN := Lib.hid (HCI.out.trans H2 (by simp))
                clear H0 HCI H3I H6I
                go_wp2_with fail
                go_roundw
                case rel => exact ⟨j + 1, by go_num, hjl, HCN⟩
                case measure => simp [intOf] <;> omega
            · have e2 : ¬ (j : Int) < k := fun h => hjl (Int.ofNat_lt.1 h)
              have H3I := Lib.hid (H3R.out.trans HCI.out (by simp))
              have H6I := Lib.hid (H6R.out.trans HCI.out (by simp))
              have HCI6 := Lib.hid ((HC3.out.trans H3I.out (by simp)))
              have hkc : k < xc := by omega
              obtain ⟨i0, hi0, hz0, hz1, hz2⟩ := info_parts infoGotU
              have HAB : Hid (k + 1 ≤ maxLen ∧ (k + 1) * 32 ≤ 140737488355328) := Lib.hid (by unfold maxLen; omega)
              obtain ⟨pl, hpl⟩ : ∃ pl, (partL b x).length = pl := ⟨_, rfl⟩
              have HPLN := Lib.hid hpl
              have KPT := Lib.hid (fun w' (C : Chg [] w w') => KPA.out x HXN.out pl hpl w' C)
              clear hpl hj
              go_upto_region 18 with (fail)
              have HCHG := Lib.hid (fun w' (C : Chg (Value.slice ao' k c').ownBlock.toList wr w') => show Chg [] w6 w' from H6I.out.trans C (fun z hz => .inr (HE2.out.rowN z (by simpa using hz))))
              refine wp_region_held_drew (S := fun w' => Chg (Value.slice ao' k c').ownBlock.toList wr w') (by kernel_rfl) ((Chg.drewN _ wr 1)) (fun H0 => ?_)
              refine' tkH (i := 0) (v := _) rfl (Or.inl ⟨by rfl, ?hyp0⟩) H0 ?restp0
              case hyp0 =>
                intro w' hSw
                have s1 := hSw
                go_simp
                try with_reducible rfl
              (try simp only [Act.put, List.getElem_toArray, List.getElem_cons_zero, List.setIfInBounds_toArray, List.set_cons_zero, List.set_cons_succ])
              refine' tkH (i := 1) (v := _) rfl (Or.inl ⟨by rfl, ?hyp1⟩) H0 ?restp1
              case hyp1 =>
                intro w' hSw
                have s1 := hSw
                go_simp
                try with_reducible rfl
              (try simp only [Act.put, List.getElem_toArray, List.getElem_cons_succ, List.getElem_cons_zero, List.setIfInBounds_toArray, List.set_cons_zero, List.set_cons_succ])
              refine' tkH (i := 2) (v := _) rfl (Or.inl ⟨by rfl, ?hyp2⟩) H0 ?restp2
              case hyp2 =>
                intro w' hSw
                have s1 := hSw
                go_simp
                try with_reducible rfl
              (try simp only [Act.put, List.getElem_toArray, List.getElem_cons_succ, List.getElem_cons_zero, List.setIfInBounds_toArray, List.set_cons_zero, List.set_cons_succ])
              refine' tkH (i := 3) (v := _) rfl (Or.inl ⟨by rfl, ?hyp3⟩) H0 ?restp3
              case hyp3 =>
                intro w' hSw
                have s1 := hSw
                go_simp
                try with_reducible rfl
              (try simp only [Act.put, List.getElem_toArray, List.getElem_cons_succ, List.getElem_cons_zero, List.setIfInBounds_toArray, List.set_cons_zero, List.set_cons_succ])
              refine' tkH (i := 4) (v := _) rfl (Or.inl ⟨by rfl, ?hyp4⟩) H0 ?restp4
              case hyp4 =>
                intro w' hSw
                have s1 := hSw
                have hc := HCX.out w' (HCHG.out w' s1)
                go_simp
                try with_reducible rfl
              (try simp only [Act.put, List.getElem_toArray, List.getElem_cons_succ, List.getElem_cons_zero, List.setIfInBounds_toArray, List.set_cons_zero, List.set_cons_succ])
              refine' tkH (i := 5) (v := _) rfl (Or.inl ⟨by rfl, ?hyp5⟩) H0 ?restp5
              case hyp5 =>
                intro w' hSw
                have s1 := hSw
                go_simp
                try with_reducible rfl
              (try simp only [Act.put, List.getElem_toArray, List.getElem_cons_succ, List.getElem_cons_zero, List.setIfInBounds_toArray, List.set_cons_zero, List.set_cons_succ])
              refine' tkH (i := 6) (v := _) rfl (Or.inl ⟨by rfl, ?hyp6⟩) H0 ?restp6
              case hyp6 =>
                intro w' hSw
                have s1 := hSw
                go_simp
                try with_reducible rfl
              (try simp only [Act.put, List.getElem_toArray, List.getElem_cons_succ, List.getElem_cons_zero, List.setIfInBounds_toArray, List.set_cons_zero, List.set_cons_succ])
              refine' tkH (i := 7) (v := _) rfl (Or.inl ⟨by rfl, ?hyp7⟩) H0 ?restp7
              case hyp7 =>
                intro w' hSw
                have s1 := hSw
                go_simp
                try with_reducible rfl
              (try simp only [Act.put, List.getElem_toArray, List.getElem_cons_succ, List.getElem_cons_zero, List.setIfInBounds_toArray, List.set_cons_zero, List.set_cons_succ])
              refine' tkH (i := 8) (v := _) rfl (Or.inl ⟨by rfl, ?hyp8⟩) H0 ?restp8
              case hyp8 =>
                intro w' hSw
                have s1 := hSw
                go_simp
                try with_reducible rfl
              (try simp only [Act.put, List.getElem_toArray, List.getElem_cons_succ, List.getElem_cons_zero, List.setIfInBounds_toArray, List.set_cons_zero, List.set_cons_succ])
              refine' tkH (i := 9) (v := _) rfl (Or.inl ⟨by rfl, ?hyp9⟩) H0 ?restp9
              case hyp9 =>
                intro w' hSw
                have s1 := hSw
                have hc := HCX.out w' (HCHG.out w' s1)
                go_simp
                try with_reducible rfl
              (try simp only [Act.put, List.getElem_toArray, List.getElem_cons_succ, List.getElem_cons_zero, List.setIfInBounds_toArray, List.set_cons_zero, List.set_cons_succ])
              refine wpAnyH_ready (rs := [10]) (by kernel_rfl) (by simp) (AllReadyH.cons rfl (fun K hK => ?_) AllReadyH.nil)
              go_simp
              refine (KPT.out _ (HCI6.out.trans (Chg.drewN [] wr 1) (by simp))).mono ?_
              rintro e w10 ⟨go, gc, rfl, hpo, hpn, C10⟩
              have HPO := Lib.hid hpo
              have HPN := Lib.hid hpn
              have HC10 := Lib.hid (show Chg [] wr w10 from (Chg.drewN [] wr 1).trans C10 (by simp))
              go_simp
              refine hK.out _ _ (HC10.out.mono (by simp)) (fun H1 => ?_)
              clear hK K hpo hpn C10
              refine' tkH (i := 11) (v := _) rfl (Or.inl ⟨by rfl, ?hyp11⟩) H1 ?restp11
              case hyp11 =>
                intro w' hSw
                have s1 := hSw
                go_simp
                try with_reducible rfl
              (try simp only [Act.put, List.getElem_toArray, List.getElem_cons_succ, List.getElem_cons_zero, List.setIfInBounds_toArray, List.set_cons_zero, List.set_cons_succ])
              refine wpAnyH_ready (rs := [12]) (by kernel_rfl) (by simp) (AllReadyH.cons rfl (fun K hK => ?_) AllReadyH.nil)
              have CB := Chg.alloc [] w10 (.cells #[.int .i64 (x : Int), .slice go pl gc] 104)
              have HSRC := Lib.hid (src_row w10 #[.int .i64 (x : Int), .slice go pl gc] 104 (0, 0))
              have HCX1 := Lib.hid (HC10.out.trans CB (by simp))
              have HCX0 := Lib.hid (HCI.out.trans HCX1.out (by simp))
              have HOW := Lib.hid (ownsRow_chg HE2.out.row HCX0.out (by simp))
              have HPV : Hid (PV (w10.alloc (.cells #[.int .i64 (x : Int), .slice go pl gc] 104)) (Value.slice ao' k c').ownBlock.toList (.slice go (partL b x).length gc) (partL b x)) := Lib.hid (by
                refine PV.own (ownsRow_chg (by rw [HPLN.out]; exact HPO.out) CB (by simp)) (fun z hz hm => ?_)
                rw [HPLN.out] at hz
                have h1 : wr.heap.size ≤ z := HPN.out z hz
                have h2 := ownsRow_lt HE2.out.row z (by simpa using hm)
                have h3 := HCI.out.size
                omega)
              go_simp
              refine hK.out _ _ (HCX1.out.mono (by simp)) (fun H2 => ?_)
              clear hK K CB
              refine wpAnyH_ready (rs := [13]) (by kernel_rfl) (by simp) (AllReadyH.cons rfl (fun K hK => ?_) AllReadyH.nil)
              refine step_append_x _ rfl _ _ 87 rfl 104 i0 _ 2 32 Tryd.underlying87 hi0 hz0 hz1 hz2 rfl (by decide) (.slice ao' k c') k (gvs GG) rfl HOW.out (some ⟨w10.heap.size, 0, none⟩) 1 1 [.int .i64 (x : Int), .slice go pl gc] rfl rfl HSRC.out (fun h => by cases h) (by simp [Value.oneCell']) HAB.out.1 HAB.out.2 ?_
              intro ao2 c3 w12 hown5 hgr hblk
              have HE3 : Hid (∃ G, EnG w6 w12 b A (k + 1) G (.slice ao2 (k + 1) c3)) := Lib.hid ⟨_, HE2.out.next HCX0.out HXK.out HPV.out (by rw [HPLN.out]; exact hown5) hgr hblk⟩
              have HC12 := Lib.hid (show Chg (Value.slice ao' k c').ownBlock.toList wr w12 from (HCX1.out.mono (by simp)).trans (Chg.grown hgr (S := (Value.slice ao' k c').ownBlock.toList) (fun z hz => .inl (by simp [hz]))) (fun z hz => .inl hz))
              refine hK.out _ _ HC12.out (fun H3 => ?_)
              clear hK K hown5 hgr hblk
              refine' tkH (i := 14) (v := _) rfl (Or.inl ⟨by rfl, ?hyp14⟩) H3 ?restp14
              case hyp14 =>
                intro w' hSw
                have s1 := hSw
                go_simp
                try with_reducible rfl
              (try simp only [Act.put, List.getElem_toArray, List.getElem_cons_succ, List.getElem_cons_zero, List.setIfInBounds_toArray, List.set_cons_zero, List.set_cons_succ])
              refine wpAnyH_done (by kernel_rfl) ?_ _
              clear H0 H1 H2 H3 HSRC HOW HPV HPO HPN HC10 HCX0 hi0 hz0 hz1 hz2 HE2 KPT HCI
              go_wp2_with fail
              go_roundw
              case rel => exact ⟨k + 1, c3, ao2, rfl, by go_num, hlt, HE3⟩
              case measure => simp [intOf] <;> omega
        · have e1 : ¬ (k : Int) < am := fun h => hlt (Int.ofNat_lt.1 h)
          have hka : k = am := by omega
          obtain ⟨G, hE⟩ := HE.out
          have HGF := Lib.hid (show GotFor (recV b) A G from ⟨by rw [hE.len, HAM.out]; exact hka, fun j x g hx hg => by
            obtain ⟨x', h1, h2, h3, _⟩ := hE.at_ j g hg
            rw [hx] at h1
            cases h1
            exact ⟨h2, by rw [h3]; exact right_own HB4.out (HAXC.out j x hx)⟩⟩)
          have HGA := Lib.hid (hE.gots)
          have HGL := Lib.hid (show G.length = k from hE.len)
          have HG1 := Lib.hid (fun (j : Nat) (g : GotV) (h : G[j]? = some g) => show g.xs.length ≤ 1000000 from by
            obtain ⟨x', _, _, h3, _⟩ := hE.at_ j g h
            rw [h3, partL_length]
            have := bszN_le b.length
            omega)
          have H6R := Lib.hid hE.C
          have H3R := Lib.hid (H36.out.trans hE.C (by simp))
          have HCR := Lib.hid (HC3.out.trans H3R.out (by simp))
          have H4R := Lib.hid (H46.out.trans hE.C (by simp))
          have KB := Lib.hid (KBD.out G ao' c' k wr H6R.out HCR.out H3R.out H4R.out HGA.out HGL.out HG1.out HGF.out)
          have hldr := HLD.out wr H3R.out
          clear hE HE HGF HGA HGL HG1 hk hka
          go_wp2_with (refine wpList_load_y 77 (.tmp 7) rfl (by go_simp) (.pointer (some ⟨q, 0, none⟩)) (.agg RC) hldr rfl ?_)
          refine KB.out.mono ?_
          rintro e w8 ⟨C8, X, co, cc, no, nc, rfl, hc8, hcc, hXn, hXl, hXf⟩
          have H38 := Lib.hid (H3R.out.trans C8 (by simp))
          have H48 := Lib.hid (H4R.out.trans C8 (by simp))
          have HC8 := Lib.hid (HC3.out.trans H38.out (by simp))
          have HXN := Lib.hid hXn
          have HXL := Lib.hid hXl
          have HLF := Lib.hid hXf
          have KLS := Lib.hid (KLL.out X co cc w8 HC8.out hc8 hcc hXn hXl)
          clear C8 hldr KB hc8 hXn hXl hXf
          go_wp2_with fail
          refine KLS.out.mono ?_
          rintro e w9 ⟨C9, lo, lc, rfl, hl9, hlc⟩
          have H39 := Lib.hid (H38.out.trans C9 (by simp))
          have H49 := Lib.hid (H48.out.trans C9 (by simp))
          have HC9 := Lib.hid (HC3.out.trans H39.out (by simp))
          have HDF := Lib.hid (fun (i : Nat) (f : Nat → UInt8) (h : (listL X)[i]? = some f) => hash_at hl9 h)
          have c23 := HCB.out w9 H39.out
          clear C9 hl9 KLS H38 H48 HC8
          go_wp2_with fail
          go_loopw [21] (fun v wr => ∃ k : Nat, v = .int .i64 (k : Int) ∧ k ≤ n ∧ Hid (Chg [] w9 wr)) (fun v _ => n - (intOf v).toNat)
          case atStart => exact ⟨0, rfl, Nat.zero_le _, Lib.hid (Chg.refl _ _)⟩
          case round =>
            obtain ⟨k, rfl, hk, HC⟩ := hrel
            by_cases hlt : k < n
            · have e1 : (k : Int) < n := Int.ofNat_lt.2 hlt
              have e0 : (0 : Int) ≤ k := Int.natCast_nonneg _
              have hkr : k < rc := by omega
              have hkl : k < lc := by omega
              obtain ⟨ra, rfl, hdx⟩ := HDG.out k hlt
              have HDX := Lib.hid hdx
              obtain ⟨f, hf, hsf⟩ := HLF.out k hlt
              obtain ⟨la, rfl, hdl⟩ := HDF.out k f hf
              have HDL := Lib.hid hdl
              have HQX := Lib.hid (fun w' => run_neq_hash f ((recV b).dig k) w')
              obtain ⟨Rx, hRx⟩ : ∃ Rx, hashC f = Rx := ⟨_, rfl⟩
              obtain ⟨Ry, hRy⟩ : ∃ Ry, hashC ((recV b).dig k) = Ry := ⟨_, rfl⟩
              have HQ : Hid (∀ w', (binOp .neq 32 (.agg Rx) (.agg Ry)).run Tryd.prog w' = .ok (.bool false) w') := Lib.hid (fun w' => by
                have := HQX.out w'
                rwa [hsf, hashV, hashV, hRx, hRy] at this)
              rw [hRx] at HDL
              rw [hRy] at HDX
              have H9I := Lib.hid HC.out
              have H3I := Lib.hid (H39.out.trans HC.out (by simp))
              clear hdx hdl hf hsf HQX hRx hRy
              go_upto_region 26 with (fail)
              refine wp_region_held_drew (S := fun w' => Chg [] wr w') (by kernel_rfl) ((Chg.drewN [] wr 1)) (fun H0 => ?_)
              refine' tkH (i := 0) (v := _) rfl (Or.inl ⟨by rfl, ?hyl0⟩) H0 ?restl0
              case hyl0 =>
                intro w' hSw
                have s1 := hSw
                go_simp
                try with_reducible rfl
              (try simp only [Act.put, List.getElem_toArray, List.getElem_cons_zero, List.setIfInBounds_toArray, List.set_cons_zero, List.set_cons_succ])
              refine' tkH (i := 1) (v := _) rfl (Or.inl ⟨by rfl, ?hyl1⟩) H0 ?restl1
              case hyl1 =>
                intro w' hSw
                have s1 := hSw
                go_simp
                try with_reducible rfl
              (try simp only [Act.put, List.getElem_toArray, List.getElem_cons_succ, List.getElem_cons_zero, List.setIfInBounds_toArray, List.set_cons_zero, List.set_cons_succ])
              refine' tkH (i := 2) (v := _) rfl (Or.inl ⟨by rfl, ?hyl2⟩) H0 ?restl2
              case hyl2 =>
                intro w' hSw
                have s1 := hSw
                go_simp
                try with_reducible rfl
              (try simp only [Act.put, List.getElem_toArray, List.getElem_cons_succ, List.getElem_cons_zero, List.setIfInBounds_toArray, List.set_cons_zero, List.set_cons_succ])
              refine' tkH (i := 3) (v := .agg Rx) rfl (Or.inl ⟨by rfl, ?hyl3⟩) H0 ?restl3
              case hyl3 =>
                intro w' hSw
                have s1 := hSw
                have hl := HDL.out w' (H9I.out.trans s1 (by simp))
                simp [execOp, Act.eval, hl, Result.andThen]
              (try simp only [Act.put, List.getElem_toArray, List.getElem_cons_succ, List.getElem_cons_zero, List.setIfInBounds_toArray, List.set_cons_zero, List.set_cons_succ])
              refine' tkH (i := 4) (v := _) rfl (Or.inl ⟨by rfl, ?hyl4⟩) H0 ?restl4
              case hyl4 =>
                intro w' hSw
                have s1 := hSw
                go_simp
                try with_reducible rfl
              (try simp only [Act.put, List.getElem_toArray, List.getElem_cons_succ, List.getElem_cons_zero, List.setIfInBounds_toArray, List.set_cons_zero, List.set_cons_succ])
              refine' tkH (i := 5) (v := _) rfl (Or.inl ⟨by rfl, ?hyl5⟩) H0 ?restl5
              case hyl5 =>
                intro w' hSw
                have s1 := hSw
                have hc := HCB.out w' (H3I.out.trans s1 (by simp))
                go_simp
                try with_reducible rfl
              (try simp only [Act.put, List.getElem_toArray, List.getElem_cons_succ, List.getElem_cons_zero, List.setIfInBounds_toArray, List.set_cons_zero, List.set_cons_succ])
              refine' tkH (i := 6) (v := _) rfl (Or.inl ⟨by rfl, ?hyl6⟩) H0 ?restl6
              case hyl6 =>
                intro w' hSw
                have s1 := hSw
                go_simp
                try with_reducible rfl
              (try simp only [Act.put, List.getElem_toArray, List.getElem_cons_succ, List.getElem_cons_zero, List.setIfInBounds_toArray, List.set_cons_zero, List.set_cons_succ])
              refine' tkH (i := 7) (v := _) rfl (Or.inl ⟨by rfl, ?hyl7⟩) H0 ?restl7
              case hyl7 =>
                intro w' hSw
                have s1 := hSw
                go_simp
                try with_reducible rfl
              (try simp only [Act.put, List.getElem_toArray, List.getElem_cons_succ, List.getElem_cons_zero, List.setIfInBounds_toArray, List.set_cons_zero, List.set_cons_succ])
              refine' tkH (i := 8) (v := .agg Ry) rfl (Or.inl ⟨by rfl, ?hyl8⟩) H0 ?restl8
              case hyl8 =>
                intro w' hSw
                have s1 := hSw
                have hl := HDX.out w' (H3I.out.trans s1 (by simp))
                simp [execOp, Act.eval, hl, Result.andThen]
              (try simp only [Act.put, List.getElem_toArray, List.getElem_cons_succ, List.getElem_cons_zero, List.setIfInBounds_toArray, List.set_cons_zero, List.set_cons_succ])
              refine' tkH (i := 9) (v := .bool false) rfl (Or.inl ⟨by rfl, ?hyl9⟩) H0 ?restl9
              case hyl9 =>
                intro w' hSw
                have s1 := hSw
                have hqq := HQ.out w'
                simp [execOp, Act.eval, hash_guardn, hqq, Result.andThen]
              (try simp only [Act.put, List.getElem_toArray, List.getElem_cons_succ, List.getElem_cons_zero, List.setIfInBounds_toArray, List.set_cons_zero, List.set_cons_succ])
              refine wpAnyH_done (by kernel_rfl) ?_ _
              have HCN := Lib.hid (HC.out.trans H0 (by simp))
              clear H0 HC H9I H3I
              go_wp2_with fail
              go_roundw
              case rel => exact ⟨k + 1, by go_num, hlt, HCN⟩
              case measure => simp [intOf] <;> omega
            · have e1 : ¬ (k : Int) < n := fun h => hlt (Int.ofNat_lt.1 h)
              have HCE := Lib.hid (HC9.out.trans HC.out (by simp))
              have H3E := Lib.hid (H39.out.trans HC.out (by simp))
              have H4E := Lib.hid (H49.out.trans HC.out (by simp))
              have KAD := Lib.hid (KAD0.out wr HCE.out H4E.out)
              clear hk
              go_wp2_with fail
              refine KAD.out.mono ?_
              rintro e w11 ⟨rfl, S', hF', C11, hS'⟩
              have H311 := Lib.hid (show Chg [] w3 w11 from H3E.out.trans C11 (fun z hz => .inr (HSN.out z hz)))
              have HC11 := Lib.hid (HC3.out.trans H311.out (by simp))
              have HFN11 := Lib.hid (finds_at hF' HF30.out)
              clear C11 hF' hS' KAD HCE H3E H4E HC
              have hldr := HLD.out w11 H311.out
              have KP5 := Lib.hid (KPL2.out w11 H311.out HFN11.out)
              go_wp2_with (refine wpList_load_y 77 (.tmp 7) rfl (by go_simp) (.pointer (some ⟨q, 0, none⟩)) (.agg RC) hldr rfl ?_)
              refine KP5.out.mono ?_
              rintro e w12 ⟨C12, mo, mc, rfl, hm12, hmc⟩
              have H312 := Lib.hid (H311.out.trans C12 (by simp))
              have H1112 := Lib.hid C12
              have HM12 := Lib.hid hm12
              have hldr := HLD.out w12 H312.out
              have KP6 := Lib.hid (KPL3.out w12 H312.out)
              clear C12 hm12 KP5
              go_wp2_with (refine wpList_load_y 77 (.tmp 7) rfl (by go_simp) (.pointer (some ⟨q, 0, none⟩)) (.agg RC) hldr rfl ?_)
              refine KP6.out.mono ?_
              rintro e w13 ⟨C13, no2, nc2, rfl, hn13, hnc⟩
              have H313 := Lib.hid (H312.out.trans C13 (by simp))
              have HM13 := Lib.hid (HM12.out.chg C13 (by simp))
              have HN13 := Lib.hid hn13
              have H1113 := Lib.hid (H1112.out.trans C13 (by simp))
              have HPC := Lib.hid (show n ≤ mc ∧ n ≤ nc2 from ⟨hmc, hnc⟩)
              have KAM := Lib.hid (KAS2.out mo mc w13 HM13.out HPC.out.1)
              clear C13 hn13 KP6 hldr HM12 hmc hnc HAC HGE HAX HAA H36 hxc H39 HC9 H49
              go_wp2_with fail
              refine KAM.out.mono ?_
              rintro e w14 ⟨xo, xc, rfl, hown, C14⟩
              have H314 := Lib.hid (H313.out.trans C14 (by simp))
              have HC14 := Lib.hid (HC3.out.trans H314.out (by simp))
              have H1114 := Lib.hid (H1113.out.trans C14 (by simp))
              have HN14 := Lib.hid (HN13.out.chg C14 (by simp))
              have hxc := (own_capM hown).1
              have HAC := Lib.hid (fun (j x : Nat) (h : A2[j]? = some x) => ints_cell (ownsRow_src hown) h)
              have HGE := Lib.hid (fun k (hk : k < an2) => show ∃ x, A2[k]? = some x from ⟨_, List.getElem?_eq_getElem (by rw [HAN2.out]; exact hk)⟩)
              have HAX := Lib.hid (fun (j x : Nat) (h : A2[j]? = some x) => (HAT2.out j x h).1)
              have HFX := Lib.hid (fun (j x : Nat) (h : A2[j]? = some x) => show ∃ m xs, findL (Fadd (filesF L) whN b) (hkey ((recV b).dig x)) = some (m, xs) ∧ (xs.length : Int) ≠ (recV b).len x from by
                obtain ⟨g1, g2⟩ := HAT2.out j x h
                obtain ⟨m, xs, h1⟩ := HWH.out x g1
                exact ⟨m, xs, h1, g2 m xs h1⟩)
              have KFN2 := Lib.hid (fun w' k (C : Chg [] w14 w') => HFN11.out w' k (H1114.out.trans C (by simp)))
              clear hown C14 KAM HM13 HN13
              go_wp2_with fail
              go_loopw [26] (fun v wr => ∃ k : Nat, v = .int .i64 (k : Int) ∧ k ≤ an2 ∧ Hid (Chg [] w14 wr)) (fun v _ => an2 - (intOf v).toNat)
              case atStart => exact ⟨0, rfl, Nat.zero_le _, Lib.hid (Chg.refl _ _)⟩
              case round =>
                obtain ⟨k, rfl, hk, HC⟩ := hrel
                by_cases hlt : k < an2
                · have e1 : (k : Int) < an2 := Int.ofNat_lt.2 hlt
                  have e0 : (0 : Int) ≤ k := Int.natCast_nonneg _
                  have hkc : k < xc := by omega
                  obtain ⟨x, hxk⟩ := HGE.out k hlt
                  have hxn := HAX.out k x hxk
                  have hxi : (x : Int) < n := Int.ofNat_lt.2 hxn
                  have hx0 : (0 : Int) ≤ x := Int.natCast_nonneg _
                  have hxr : x < rc := by omega
                  obtain ⟨xa, rfl, hcx⟩ := HAC.out k x hxk
                  have HCX := Lib.hid hcx
                  obtain ⟨ra, rfl, hdx⟩ := HDG.out x hxn
                  have HDX := Lib.hid hdx
                  obtain ⟨m, xs, hfd, hlx⟩ := HFX.out k x hxk
                  obtain ⟨Rx, hRx⟩ : ∃ Rx, hashC ((recV b).dig x) = Rx := ⟨_, rfl⟩
                  rw [hRx] at HDX
                  obtain ⟨xl, hxl⟩ : ∃ xl, xs.length = xl := ⟨_, rfl⟩
                  have KFD := Lib.hid (fun w' (C : Chg [] w14 w') => show Calls Tryd.prog 34 #[.pointer (some ⟨fb, 0, none⟩), .agg Rx] w' (FoundN w' m xl) from by
                    have := KFN2.out w' (hkey ((recV b).dig x)) C
                    rw [hkV_hkey, hashV, hRx, hfd] at this
                    exact this.mono (fun e w2 h => FoundN.of h hxl))
                  have KLX := Lib.hid (fun w' (C : Chg [] w3 w') => KLEN.out (x : Int) w' C)
                  rw [hxl] at hlx
                  generalize (recV b).len (x : Int) = Lx at *
                  have hm : ¬ (xl : Int) = Lx := hlx
                  have H3I := Lib.hid (H314.out.trans HC.out (by simp))
                  have H14I := Lib.hid HC.out
                  clear hcx hdx hxk hfd hlx hRx hxl
                  go_upto_region 35 with (fail)
                  refine wp_region_held_drew (S := fun w' => Chg [] wr w') (by kernel_rfl) ((Chg.drewN [] wr 1)) (fun H0 => ?_)
                  refine' tkH (i := 0) (v := _) rfl (Or.inl ⟨by rfl, ?hyf0⟩) H0 ?restf0
                  case hyf0 =>
                    intro w' hSw
                    have s1 := hSw
                    go_simp
                    try with_reducible rfl
                  (try simp only [Act.put, List.getElem_toArray, List.getElem_cons_zero, List.setIfInBounds_toArray, List.set_cons_zero, List.set_cons_succ])
                  refine' tkH (i := 1) (v := _) rfl (Or.inl ⟨by rfl, ?hyf1⟩) H0 ?restf1
                  case hyf1 =>
                    intro w' hSw
                    have s1 := hSw
                    go_simp
                    try with_reducible rfl
                  (try simp only [Act.put, List.getElem_toArray, List.getElem_cons_succ, List.getElem_cons_zero, List.setIfInBounds_toArray, List.set_cons_zero, List.set_cons_succ])
                  refine' tkH (i := 2) (v := _) rfl (Or.inl ⟨by rfl, ?hyf2⟩) H0 ?restf2
                  case hyf2 =>
                    intro w' hSw
                    have s1 := hSw
                    have hc := HCB.out w' (H3I.out.trans s1 (by simp))
                    go_simp
                    try with_reducible rfl
                  (try simp only [Act.put, List.getElem_toArray, List.getElem_cons_succ, List.getElem_cons_zero, List.setIfInBounds_toArray, List.set_cons_zero, List.set_cons_succ])
                  refine' tkH (i := 3) (v := _) rfl (Or.inl ⟨by rfl, ?hyf3⟩) H0 ?restf3
                  case hyf3 =>
                    intro w' hSw
                    have s1 := hSw
                    go_simp
                    try with_reducible rfl
                  (try simp only [Act.put, List.getElem_toArray, List.getElem_cons_succ, List.getElem_cons_zero, List.setIfInBounds_toArray, List.set_cons_zero, List.set_cons_succ])
                  refine' tkH (i := 4) (v := _) rfl (Or.inl ⟨by rfl, ?hyf4⟩) H0 ?restf4
                  case hyf4 =>
                    intro w' hSw
                    have s1 := hSw
                    go_simp
                    try with_reducible rfl
                  (try simp only [Act.put, List.getElem_toArray, List.getElem_cons_succ, List.getElem_cons_zero, List.setIfInBounds_toArray, List.set_cons_zero, List.set_cons_succ])
                  refine' tkH (i := 5) (v := _) rfl (Or.inl ⟨by rfl, ?hyf5⟩) H0 ?restf5
                  case hyf5 =>
                    intro w' hSw
                    have s1 := hSw
                    go_simp
                    try with_reducible rfl
                  (try simp only [Act.put, List.getElem_toArray, List.getElem_cons_succ, List.getElem_cons_zero, List.setIfInBounds_toArray, List.set_cons_zero, List.set_cons_succ])
                  refine' tkH (i := 6) (v := _) rfl (Or.inl ⟨by rfl, ?hyf6⟩) H0 ?restf6
                  case hyf6 =>
                    intro w' hSw
                    have s1 := hSw
                    have hc := HCX.out w' (H14I.out.trans s1 (by simp))
                    go_simp
                    try with_reducible rfl
                  (try simp only [Act.put, List.getElem_toArray, List.getElem_cons_succ, List.getElem_cons_zero, List.setIfInBounds_toArray, List.set_cons_zero, List.set_cons_succ])
                  refine' tkH (i := 7) (v := _) rfl (Or.inl ⟨by rfl, ?hyf7⟩) H0 ?restf7
                  case hyf7 =>
                    intro w' hSw
                    have s1 := hSw
                    go_simp
                    try with_reducible rfl
                  (try simp only [Act.put, List.getElem_toArray, List.getElem_cons_succ, List.getElem_cons_zero, List.setIfInBounds_toArray, List.set_cons_zero, List.set_cons_succ])
                  refine' tkH (i := 8) (v := .agg Rx) rfl (Or.inl ⟨by rfl, ?hyf8⟩) H0 ?restf8
                  case hyf8 =>
                    intro w' hSw
                    have s1 := hSw
                    have hl := HDX.out w' (H3I.out.trans s1 (by simp))
                    simp [execOp, Act.eval, hl, Result.andThen]
                  (try simp only [Act.put, List.getElem_toArray, List.getElem_cons_succ, List.getElem_cons_zero, List.setIfInBounds_toArray, List.set_cons_zero, List.set_cons_succ])
                  refine wpAnyH_ready (rs := [9, 14]) (by kernel_rfl) (by simp) (AllReadyH.cons rfl (fun K hK => ?_) (AllReadyH.cons rfl (fun K hK => ?_) AllReadyH.nil))
                  · go_simp
                    refine (KFD.out _ (H14I.out.trans H0 (by simp))).mono ?_
                    rintro e wf ⟨Cf, xo, xc2, rfl, hxc2⟩
                    go_simp
                    refine hK.out _ _ (H0.trans Cf (by simp)) (fun H1 => ?_)
                    clear hK K
                    refine' tkH (i := 10) (v := _) rfl (Or.inl ⟨by rfl, ?hyfa10⟩) H1 ?restfa10
                    case hyfa10 =>
                      intro w' hSw
                      have s1 := hSw
                      go_simp
                      try with_reducible rfl
                    (try simp only [Act.put, List.getElem_toArray, List.getElem_cons_succ, List.getElem_cons_zero, List.setIfInBounds_toArray, List.set_cons_zero, List.set_cons_succ])
                    refine' tkH (i := 11) (v := _) rfl (Or.inl ⟨by rfl, ?hyfa11⟩) H1 ?restfa11
                    case hyfa11 =>
                      intro w' hSw
                      have s1 := hSw
                      go_simp
                      try with_reducible rfl
                    (try simp only [Act.put, List.getElem_toArray, List.getElem_cons_succ, List.getElem_cons_zero, List.setIfInBounds_toArray, List.set_cons_zero, List.set_cons_succ])
                    refine' tkH (i := 12) (v := _) rfl (Or.inl ⟨by rfl, ?hyfa12⟩) H1 ?restfa12
                    case hyfa12 =>
                      intro w' hSw
                      have s1 := hSw
                      go_simp
                      try with_reducible rfl
                    (try simp only [Act.put, List.getElem_toArray, List.getElem_cons_succ, List.getElem_cons_zero, List.setIfInBounds_toArray, List.set_cons_zero, List.set_cons_succ])
                    refine' tkH (i := 13) (v := _) rfl (Or.inl ⟨by rfl, ?hyfa13⟩) H1 ?restfa13
                    case hyfa13 =>
                      intro w' hSw
                      have s1 := hSw
                      go_simp
                      try with_reducible rfl
                    (try simp only [Act.put, List.getElem_toArray, List.getElem_cons_succ, List.getElem_cons_zero, List.setIfInBounds_toArray, List.set_cons_zero, List.set_cons_succ])
                    have hx5 := heap_alloc_new wf (.cells #[.string ⟨#[]⟩, .int .i64 0] 57)
                    have hst5 := run_storeAt_new wf 57 #[.string ⟨#[]⟩, .int .i64 0] (plC m) Tryd.infoPl rfl (plC_one m)
                    refine wpAnyH_ready (rs := [14]) (by kernel_rfl) (by simp) (AllReadyH.cons rfl (fun K hK => ?_) AllReadyH.nil)
                    go_simp
                    refine hK.out _ _ (H1.trans (Chg.alloc [] wf _) (by simp)) (fun H2 => ?_)
                    clear hK K
                    refine' tkH (i := 15) (v := _) rfl (Or.inl ⟨by rfl, ?hyfa15⟩) H2 ?restfa15
                    case hyfa15 =>
                      intro w' hSw
                      have s1 := hSw
                      go_simp
                      try with_reducible rfl
                    (try simp only [Act.put, List.getElem_toArray, List.getElem_cons_succ, List.getElem_cons_zero, List.setIfInBounds_toArray, List.set_cons_zero, List.set_cons_succ])
                    refine wpAnyH_ready (rs := [16]) (by kernel_rfl) (by simp) (AllReadyH.cons rfl (fun K hK => ?_) AllReadyH.nil)
                    refine step_store_y 57 (.tmp 28) (.tmp 212) rfl rfl _ _ _ hst5 rfl rfl ?_
                    refine hK.out _ _ (H1.trans (Chg.alloc [] wf _) (by simp)) (fun H3 => ?_)
                    clear hK K hst5 hx5
                    refine' tkH (i := 17) (v := _) rfl (Or.inl ⟨by rfl, ?hyfa17⟩) H3 ?restfa17
                    case hyfa17 =>
                      intro w' hSw
                      have s1 := hSw
                      go_simp
                      try with_reducible rfl
                    (try simp only [Act.put, List.getElem_toArray, List.getElem_cons_succ, List.getElem_cons_zero, List.setIfInBounds_toArray, List.set_cons_zero, List.set_cons_succ])
                    refine wpAnyH_done (by kernel_rfl) ?_ _
                    have HCQ := Lib.hid (H1.trans (Chg.alloc [] wf (.cells (plC m) 57)) (by simp))
                    generalize wf.alloc (.cells (plC m) 57) = wq at *
                    clear H0 H1 H2 H3 Cf
                    have H3Q := Lib.hid (H3I.out.trans HCQ.out (by simp))
                    have H14Q := Lib.hid (H14I.out.trans HCQ.out (by simp))
                    go_upto_region 36 with (fail)
                    refine wp_region_held_drew (S := fun w' => Chg [] wq w') (by kernel_rfl) ((Chg.drewN [] wq 1)) (fun H0 => ?_)
                    refine' tkH (i := 0) (v := _) rfl (Or.inl ⟨by rfl, ?hyga0⟩) H0 ?restga0
                    case hyga0 =>
                      intro w' hSw
                      have s1 := hSw
                      go_simp
                      try with_reducible rfl
                    (try simp only [Act.put, List.getElem_toArray, List.getElem_cons_zero, List.setIfInBounds_toArray, List.set_cons_zero, List.set_cons_succ])
                    refine' tkH (i := 1) (v := _) rfl (Or.inl ⟨by rfl, ?hyga1⟩) H0 ?restga1
                    case hyga1 =>
                      intro w' hSw
                      have s1 := hSw
                      go_simp
                      try with_reducible rfl
                    (try simp only [Act.put, List.getElem_toArray, List.getElem_cons_succ, List.getElem_cons_zero, List.setIfInBounds_toArray, List.set_cons_zero, List.set_cons_succ])
                    refine' tkH (i := 2) (v := _) rfl (Or.inl ⟨by rfl, ?hyga2⟩) H0 ?restga2
                    case hyga2 =>
                      intro w' hSw
                      have s1 := hSw
                      go_simp
                      try with_reducible rfl
                    (try simp only [Act.put, List.getElem_toArray, List.getElem_cons_succ, List.getElem_cons_zero, List.setIfInBounds_toArray, List.set_cons_zero, List.set_cons_succ])
                    refine' tkH (i := 3) (v := _) rfl (Or.inl ⟨by rfl, ?hyga3⟩) H0 ?restga3
                    case hyga3 =>
                      intro w' hSw
                      have s1 := hSw
                      go_simp
                      try with_reducible rfl
                    (try simp only [Act.put, List.getElem_toArray, List.getElem_cons_succ, List.getElem_cons_zero, List.setIfInBounds_toArray, List.set_cons_zero, List.set_cons_succ])
                    refine' tkH (i := 4) (v := _) rfl (Or.inl ⟨by rfl, ?hyga4⟩) H0 ?restga4
                    case hyga4 =>
                      intro w' hSw
                      have s1 := hSw
                      go_simp
                      try with_reducible rfl
                    (try simp only [Act.put, List.getElem_toArray, List.getElem_cons_succ, List.getElem_cons_zero, List.setIfInBounds_toArray, List.set_cons_zero, List.set_cons_succ])
                    refine' tkH (i := 5) (v := .agg RC) rfl (Or.inl ⟨by rfl, ?hyga5⟩) H0 ?restga5
                    case hyga5 =>
                      intro w' hSw
                      have s1 := hSw
                      have hl := HLD.out w' (H3Q.out.trans s1 (by simp))
                      simp [execOp, Act.eval, hl, Result.andThen]
                    (try simp only [Act.put, List.getElem_toArray, List.getElem_cons_succ, List.getElem_cons_zero, List.setIfInBounds_toArray, List.set_cons_zero, List.set_cons_succ])
                    refine' tkH (i := 6) (v := _) rfl (Or.inl ⟨by rfl, ?hyga6⟩) H0 ?restga6
                    case hyga6 =>
                      intro w' hSw
                      have s1 := hSw
                      go_simp
                      try with_reducible rfl
                    (try simp only [Act.put, List.getElem_toArray, List.getElem_cons_succ, List.getElem_cons_zero, List.setIfInBounds_toArray, List.set_cons_zero, List.set_cons_succ])
                    refine' tkH (i := 7) (v := _) rfl (Or.inl ⟨by rfl, ?hyga7⟩) H0 ?restga7
                    case hyga7 =>
                      intro w' hSw
                      have s1 := hSw
                      go_simp
                      try with_reducible rfl
                    (try simp only [Act.put, List.getElem_toArray, List.getElem_cons_succ, List.getElem_cons_zero, List.setIfInBounds_toArray, List.set_cons_zero, List.set_cons_succ])
                    refine' tkH (i := 8) (v := _) rfl (Or.inl ⟨by rfl, ?hyga8⟩) H0 ?restga8
                    case hyga8 =>
                      intro w' hSw
                      have s1 := hSw
                      go_simp
                      try with_reducible rfl
                    (try simp only [Act.put, List.getElem_toArray, List.getElem_cons_succ, List.getElem_cons_zero, List.setIfInBounds_toArray, List.set_cons_zero, List.set_cons_succ])
                    refine' tkH (i := 9) (v := _) rfl (Or.inl ⟨by rfl, ?hyga9⟩) H0 ?restga9
                    case hyga9 =>
                      intro w' hSw
                      have s1 := hSw
                      have hc := HCX.out w' (H14Q.out.trans s1 (by simp))
                      go_simp
                      try with_reducible rfl
                    (try simp only [Act.put, List.getElem_toArray, List.getElem_cons_succ, List.getElem_cons_zero, List.setIfInBounds_toArray, List.set_cons_zero, List.set_cons_succ])
                    refine wpAnyH_ready (rs := [10]) (by kernel_rfl) (by simp) (AllReadyH.cons rfl (fun K hK => ?_) AllReadyH.nil)
                    go_simp
                    refine (KLX.out _ (H3Q.out.trans H0 (by simp))).mono ?_
                    rintro e wz ⟨rfl, Cz⟩
                    go_simp
                    refine hK.out _ _ (H0.trans Cz (by simp)) (fun H1 => ?_)
                    clear hK K Cz
                    refine' tkH (i := 11) (v := .bool false) rfl (Or.inl ⟨by rfl, ?hyga11⟩) H1 ?restga11
                    case hyga11 =>
                      intro w' hSw
                      have s1 := hSw
                      go_simp
                      try (first | exact hm | simp [hm])
                    (try simp only [Act.put, List.getElem_toArray, List.getElem_cons_succ, List.getElem_cons_zero, List.setIfInBounds_toArray, List.set_cons_zero, List.set_cons_succ])
                    refine' tkH (i := 12) (v := _) rfl (Or.inl ⟨by rfl, ?hyga12⟩) H1 ?restga12
                    case hyga12 =>
                      intro w' hSw
                      have s1 := hSw
                      go_simp
                      try with_reducible rfl
                    (try simp only [Act.put, List.getElem_toArray, List.getElem_cons_succ, List.getElem_cons_zero, List.setIfInBounds_toArray, List.set_cons_zero, List.set_cons_succ])
                    refine wpAnyH_done (by kernel_rfl) ?_ _
                    have HCN := Lib.hid ((HC.out.trans HCQ.out (by simp)).trans H1 (by simp))
                    clear H0 H1 HC HCQ H3I H14I H3Q H14Q
                    go_wp2_with fail
                    go_roundw
                    case rel => exact ⟨k + 1, by go_num, hlt, HCN⟩
                    case measure => simp [intOf] <;> omega
                  · go_simp
                    have HXA := Lib.hid (show (wr.alloc (.cells #[.string ⟨#[]⟩, .int .i64 0] 57)).drew.heap[wr.heap.size]? = some (.cells #[.string ⟨#[]⟩, .int .i64 0] 57 (0, 0)) from heap_alloc_new wr (.cells #[.string ⟨#[]⟩, .int .i64 0] 57))
                    have CA := (Chg.alloc [] wr (.cells #[.string ⟨#[]⟩, .int .i64 0] 57)).trans (Chg.drewN [] (wr.alloc (.cells #[.string ⟨#[]⟩, .int .i64 0] 57)) 1) (by simp)
                    refine hK.out _ _ CA (fun H1 => ?_)
                    clear hK K
                    obtain ⟨qp, hqp⟩ : ∃ qp, wr.heap.size = qp := ⟨_, rfl⟩
                    have HQP : Hid (wr.heap.size ≤ qp) := Lib.hid (by rw [← hqp]; exact Nat.le_refl _)
                    rw [hqp] at HXA
                    try rw [hqp]
                    generalize (wr.alloc (.cells #[.string ⟨#[]⟩, .int .i64 0] 57)).drew = wa at *
                    refine wpAnyH_ready (rs := [9]) (by kernel_rfl) (by simp) (AllReadyH.cons rfl (fun K hK => ?_) AllReadyH.nil)
                    go_simp
                    refine (KFD.out _ (H14I.out.trans H1 (by simp))).mono ?_
                    rintro e wf ⟨Cf, xo, xc2, rfl, hxc2⟩
                    go_simp
                    refine hK.out _ _ (H1.trans Cf (by simp)) (fun H2 => ?_)
                    clear hK K
                    refine' tkH (i := 10) (v := _) rfl (Or.inl ⟨by rfl, ?hyfb10⟩) H2 ?restfb10
                    case hyfb10 =>
                      intro w' hSw
                      have s1 := hSw
                      go_simp
                      try with_reducible rfl
                    (try simp only [Act.put, List.getElem_toArray, List.getElem_cons_succ, List.getElem_cons_zero, List.setIfInBounds_toArray, List.set_cons_zero, List.set_cons_succ])
                    refine' tkH (i := 11) (v := _) rfl (Or.inl ⟨by rfl, ?hyfb11⟩) H2 ?restfb11
                    case hyfb11 =>
                      intro w' hSw
                      have s1 := hSw
                      go_simp
                      try with_reducible rfl
                    (try simp only [Act.put, List.getElem_toArray, List.getElem_cons_succ, List.getElem_cons_zero, List.setIfInBounds_toArray, List.set_cons_zero, List.set_cons_succ])
                    refine' tkH (i := 12) (v := _) rfl (Or.inl ⟨by rfl, ?hyfb12⟩) H2 ?restfb12
                    case hyfb12 =>
                      intro w' hSw
                      have s1 := hSw
                      go_simp
                      try with_reducible rfl
                    (try simp only [Act.put, List.getElem_toArray, List.getElem_cons_succ, List.getElem_cons_zero, List.setIfInBounds_toArray, List.set_cons_zero, List.set_cons_succ])
                    refine' tkH (i := 13) (v := _) rfl (Or.inl ⟨by rfl, ?hyfb13⟩) H2 ?restfb13
                    case hyfb13 =>
                      intro w' hSw
                      have s1 := hSw
                      go_simp
                      try with_reducible rfl
                    (try simp only [Act.put, List.getElem_toArray, List.getElem_cons_succ, List.getElem_cons_zero, List.setIfInBounds_toArray, List.set_cons_zero, List.set_cons_succ])
                    refine' tkH (i := 15) (v := _) rfl (Or.inl ⟨by rfl, ?hyfb15⟩) H2 ?restfb15
                    case hyfb15 =>
                      intro w' hSw
                      have s1 := hSw
                      go_simp
                      try with_reducible rfl
                    (try simp only [Act.put, List.getElem_toArray, List.getElem_cons_succ, List.getElem_cons_zero, List.setIfInBounds_toArray, List.set_cons_zero, List.set_cons_succ])
                    have hx5 := (Cf.block qp (lt_of_block HXA.out) (by simp)).trans HXA.out
                    have hst5 := run_storeAt_row (P := Tryd.prog) wf qp 57 _ _ (plC m) hx5 Tryd.infoPl rfl (plC_one m)
                    refine wpAnyH_ready (rs := [16]) (by kernel_rfl) (by simp) (AllReadyH.cons rfl (fun K hK => ?_) AllReadyH.nil)
                    refine step_store_y 57 (.tmp 28) (.tmp 212) rfl rfl _ _ _ hst5 rfl rfl ?_
                    have CQ := H2.trans (Chg.setRow (S := [qp]) wf qp (plC m) (.inl (by simp))) (fun z hz => .inr (by rw [List.mem_singleton.1 hz]; exact HQP.out))
                    refine hK.out _ _ CQ (fun H3 => ?_)
                    clear hK K hst5 hx5
                    refine' tkH (i := 17) (v := _) rfl (Or.inl ⟨by rfl, ?hyfb17⟩) H3 ?restfb17
                    case hyfb17 =>
                      intro w' hSw
                      have s1 := hSw
                      go_simp
                      try with_reducible rfl
                    (try simp only [Act.put, List.getElem_toArray, List.getElem_cons_succ, List.getElem_cons_zero, List.setIfInBounds_toArray, List.set_cons_zero, List.set_cons_succ])
                    refine wpAnyH_done (by kernel_rfl) ?_ _
                    have HCQ := Lib.hid H3
                    generalize wf.setRow qp (plC m) = wq at *
                    clear H0 H1 H2 H3 Cf CA CQ hqp
                    have H3Q := Lib.hid (H3I.out.trans HCQ.out (by simp))
                    have H14Q := Lib.hid (H14I.out.trans HCQ.out (by simp))
                    go_upto_region 36 with (fail)
                    refine wp_region_held_drew (S := fun w' => Chg [] wq w') (by kernel_rfl) ((Chg.drewN [] wq 1)) (fun H0 => ?_)
                    refine' tkH (i := 0) (v := _) rfl (Or.inl ⟨by rfl, ?hygb0⟩) H0 ?restgb0
                    case hygb0 =>
                      intro w' hSw
                      have s1 := hSw
                      go_simp
                      try with_reducible rfl
                    (try simp only [Act.put, List.getElem_toArray, List.getElem_cons_zero, List.setIfInBounds_toArray, List.set_cons_zero, List.set_cons_succ])
                    refine' tkH (i := 1) (v := _) rfl (Or.inl ⟨by rfl, ?hygb1⟩) H0 ?restgb1
                    case hygb1 =>
                      intro w' hSw
                      have s1 := hSw
                      go_simp
                      try with_reducible rfl
                    (try simp only [Act.put, List.getElem_toArray, List.getElem_cons_succ, List.getElem_cons_zero, List.setIfInBounds_toArray, List.set_cons_zero, List.set_cons_succ])
                    refine' tkH (i := 2) (v := _) rfl (Or.inl ⟨by rfl, ?hygb2⟩) H0 ?restgb2
                    case hygb2 =>
                      intro w' hSw
                      have s1 := hSw
                      go_simp
                      try with_reducible rfl
                    (try simp only [Act.put, List.getElem_toArray, List.getElem_cons_succ, List.getElem_cons_zero, List.setIfInBounds_toArray, List.set_cons_zero, List.set_cons_succ])
                    refine' tkH (i := 3) (v := _) rfl (Or.inl ⟨by rfl, ?hygb3⟩) H0 ?restgb3
                    case hygb3 =>
                      intro w' hSw
                      have s1 := hSw
                      go_simp
                      try with_reducible rfl
                    (try simp only [Act.put, List.getElem_toArray, List.getElem_cons_succ, List.getElem_cons_zero, List.setIfInBounds_toArray, List.set_cons_zero, List.set_cons_succ])
                    refine' tkH (i := 4) (v := _) rfl (Or.inl ⟨by rfl, ?hygb4⟩) H0 ?restgb4
                    case hygb4 =>
                      intro w' hSw
                      have s1 := hSw
                      go_simp
                      try with_reducible rfl
                    (try simp only [Act.put, List.getElem_toArray, List.getElem_cons_succ, List.getElem_cons_zero, List.setIfInBounds_toArray, List.set_cons_zero, List.set_cons_succ])
                    refine' tkH (i := 5) (v := .agg RC) rfl (Or.inl ⟨by rfl, ?hygb5⟩) H0 ?restgb5
                    case hygb5 =>
                      intro w' hSw
                      have s1 := hSw
                      have hl := HLD.out w' (H3Q.out.trans s1 (by simp))
                      simp [execOp, Act.eval, hl, Result.andThen]
                    (try simp only [Act.put, List.getElem_toArray, List.getElem_cons_succ, List.getElem_cons_zero, List.setIfInBounds_toArray, List.set_cons_zero, List.set_cons_succ])
                    refine' tkH (i := 6) (v := _) rfl (Or.inl ⟨by rfl, ?hygb6⟩) H0 ?restgb6
                    case hygb6 =>
                      intro w' hSw
                      have s1 := hSw
                      go_simp
                      try with_reducible rfl
                    (try simp only [Act.put, List.getElem_toArray, List.getElem_cons_succ, List.getElem_cons_zero, List.setIfInBounds_toArray, List.set_cons_zero, List.set_cons_succ])
                    refine' tkH (i := 7) (v := _) rfl (Or.inl ⟨by rfl, ?hygb7⟩) H0 ?restgb7
                    case hygb7 =>
                      intro w' hSw
                      have s1 := hSw
                      go_simp
                      try with_reducible rfl
                    (try simp only [Act.put, List.getElem_toArray, List.getElem_cons_succ, List.getElem_cons_zero, List.setIfInBounds_toArray, List.set_cons_zero, List.set_cons_succ])
                    refine' tkH (i := 8) (v := _) rfl (Or.inl ⟨by rfl, ?hygb8⟩) H0 ?restgb8
                    case hygb8 =>
                      intro w' hSw
                      have s1 := hSw
                      go_simp
                      try with_reducible rfl
                    (try simp only [Act.put, List.getElem_toArray, List.getElem_cons_succ, List.getElem_cons_zero, List.setIfInBounds_toArray, List.set_cons_zero, List.set_cons_succ])
                    refine' tkH (i := 9) (v := _) rfl (Or.inl ⟨by rfl, ?hygb9⟩) H0 ?restgb9
                    case hygb9 =>
                      intro w' hSw
                      have s1 := hSw
                      have hc := HCX.out w' (H14Q.out.trans s1 (by simp))
                      go_simp
                      try with_reducible rfl
                    (try simp only [Act.put, List.getElem_toArray, List.getElem_cons_succ, List.getElem_cons_zero, List.setIfInBounds_toArray, List.set_cons_zero, List.set_cons_succ])
                    refine wpAnyH_ready (rs := [10]) (by kernel_rfl) (by simp) (AllReadyH.cons rfl (fun K hK => ?_) AllReadyH.nil)
                    go_simp
                    refine (KLX.out _ (H3Q.out.trans H0 (by simp))).mono ?_
                    rintro e wz ⟨rfl, Cz⟩
                    go_simp
                    refine hK.out _ _ (H0.trans Cz (by simp)) (fun H1 => ?_)
                    clear hK K Cz
                    refine' tkH (i := 11) (v := .bool false) rfl (Or.inl ⟨by rfl, ?hygb11⟩) H1 ?restgb11
                    case hygb11 =>
                      intro w' hSw
                      have s1 := hSw
                      go_simp
                      try (first | exact hm | simp [hm])
                    (try simp only [Act.put, List.getElem_toArray, List.getElem_cons_succ, List.getElem_cons_zero, List.setIfInBounds_toArray, List.set_cons_zero, List.set_cons_succ])
                    refine' tkH (i := 12) (v := _) rfl (Or.inl ⟨by rfl, ?hygb12⟩) H1 ?restgb12
                    case hygb12 =>
                      intro w' hSw
                      have s1 := hSw
                      go_simp
                      try with_reducible rfl
                    (try simp only [Act.put, List.getElem_toArray, List.getElem_cons_succ, List.getElem_cons_zero, List.setIfInBounds_toArray, List.set_cons_zero, List.set_cons_succ])
                    refine wpAnyH_done (by kernel_rfl) ?_ _
                    have HCN := Lib.hid ((HC.out.trans HCQ.out (by simp)).trans H1 (by simp))
                    clear H0 H1 HC HCQ H3I H14I H3Q H14Q
                    go_wp2_with fail
                    go_roundw
                    case rel => exact ⟨k + 1, by go_num, hlt, HCN⟩
                    case measure => simp [intOf] <;> omega
                · have e1 : ¬ (k : Int) < an2 := fun h => hlt (Int.ofNat_lt.1 h)
                  have HCE := Lib.hid (HC14.out.trans HC.out (by simp))
                  have KAN := Lib.hid (KAZ.out no2 nc2 wr (HN14.out.chg HC.out (by simp)) HPC.out.2)
                  clear HC hk
                  go_wp2_with fail
                  refine KAN.out.mono ?_
                  rintro e w16 ⟨zo, zc, rfl, hz, C16⟩
                  have HC16 := Lib.hid (HCE.out.trans C16 (by simp))
                  clear C16 hz KAN
                  go_wp2_with fail
                  refine (KA.out _ HC16.out).mono ?_
                  rintro e wa ⟨rfl, Ca⟩
                  have HCA := Lib.hid (HC16.out.trans Ca (by simp))
                  clear Ca
                  go_wp2_with fail
                  go_ret
                  exact ⟨rfl, HCA.out⟩
end Go.Proofs.YtfdhpjflkimihaaDoor
/- Rows of files and of what was got, opened. No conditions beyond those that each statement types. -/
namespace Go.Proofs.YtfdhpjflkimihaaDoor
open Go.RowKit Go.ChangeShapes Go.WideShapes Go.ChangeAt Go.Deep

theorem open_bytesC {H : Type} {enc : TypeId × Value → H} {w : World} {v : Value} {d : DataW H} {ps : List MemPlace} (hv : ∃ ao n c, v = .slice ao n c)
    (h : DataW.Trod enc Tryd.prog w 0 (fun _ => true) true 25 v d ps) : ∃ ao c l, v = .slice ao (List.length l) c ∧ Src w ao (bvs l) ∧ l.length ≤ c := by
  obtain ⟨ao, c, l, h1, _, _, h4, h5⟩ := open_bytesB hv h
  exact ⟨ao, c, l, h1, h5, h4⟩
theorem open_bytesD {H : Type} {enc : TypeId × Value → H} {w : World} {v : Value} {d : DataW H} {ps : List MemPlace} (hv : ∃ ao n c, v = .slice ao n c)
    (h : DataW.Trod enc Tryd.prog w 0 (fun _ => true) true 25 v d ps) : ∃ ao c l, v = .slice ao (List.length l) c ∧ Src w ao (bvs l) ∧ l.length ≤ 9223372036854775807 ∧ l.length ≤ c ∧ (ao = none → c = 0) := by
  obtain ⟨ao, c, l, h1, h2, h3, h4, h5⟩ := open_bytesB hv h
  exact ⟨ao, c, l, h1, h5, h2, h4, h3⟩
/-- A slice of bytes in a cell. -/
theorem cell_bytes {H : Type} {enc : TypeId × Value → H} {w : World} {n : Nat} {cs : List Value} {y : DataW H × List MemPlace} (h : DataW.trod enc Tryd.prog w 0 (fun _ => true) true n 25 cs = some y) :
    ∃ ao c l, cs = [.slice ao (List.length l) c] ∧ PV w [] (.slice ao l.length c) l ∧ l.length ≤ 9223372036854775807 := by
  have key : ∀ v : Value, (∃ ao n c, v = .slice ao n c) → cs = [v] → ∃ ao c l, cs = [.slice ao (List.length l) c] ∧ PV w [] (.slice ao l.length c) l ∧ l.length ≤ 9223372036854775807 := by
    intro v hv hc
    obtain ⟨ao0, n0, c0, rfl⟩ := hv
    obtain ⟨ao, c, l, h1, h2, h3, h4, h5⟩ := open_bytesB (d := y.1) (ps := y.2) ⟨ao0, n0, c0, rfl⟩ ⟨n, by rw [hc] at h; exact h⟩
    refine ⟨ao, c, l, by rw [hc, h1], ⟨ao, c, rfl, h5, h4, h3, fun hp a ha => ⟨List.not_mem_nil, ?_⟩⟩, h2⟩
    obtain ⟨a2, e, hl⟩ := h5.lt (by rw [bvs_length]; exact hp)
    rw [ha] at e
    cases e
    exact hl
  rcases DataW.trod_slice Tryd.underlying25 h with h0 | ⟨a, len, cap, _, _, _, _, hcs, _⟩
  · exact key _ ⟨none, 0, 0, rfl⟩ h0.1
  · exact key _ ⟨some a, len, cap, rfl⟩ hcs
set_option maxRecDepth 100000 in
theorem dec_file {H : Type} {enc : TypeId × Value → H} {w : World} (fuel : Nat) (cs : List Value) (x : DataW H × List MemPlace) (h : DataW.trod enc Tryd.prog w 0 (fun _ => true) true fuel 143 cs = some x) :
    ∃ f : FileV, cs = f.cells.toList ∧ (PV w [] (.slice f.ao f.xs.length f.cap) f.xs ∧ f.xs.length ≤ 9223372036854775807) := by
  obtain ⟨xs, n, _, _, hl, hx, hf⟩ := DataW.trod_struct Tryd.underlying143 h
  rw [show Tryd.prog.cellsOf 143 = 2 from by kernel_rfl] at hl
  have hx2 : xs.length = 2 := hx
  have f0 := hf 0 _ rfl
  have f1 := hf 1 _ rfl
  rw [List.getElem?_eq_getElem (by omega)] at f0 f1
  obtain ⟨s, e0, _, _⟩ := DataW.trod_string Tryd.underlying9 f0
  obtain ⟨ao, c, l, e1, h1, h2⟩ := cell_bytes f1
  have e0 : (cs.drop 0).take (Tryd.prog.cellsOf 9) = [.string s] := e0
  have e1 : (cs.drop 1).take (Tryd.prog.cellsOf 25) = [.slice ao l.length c] := e1
  rw [show Tryd.prog.cellsOf 9 = 1 from by kernel_rfl] at e0
  rw [show Tryd.prog.cellsOf 25 = 1 from by kernel_rfl] at e1
  refine ⟨⟨s, ao, l, c⟩, ?_, h1, h2⟩
  match cs, hl with
  | [u, v], _ =>
    have e0 : [u] = [Value.string s] := e0
    have e1 : [v] = [Value.slice ao l.length c] := e1
    cases e0
    cases e1
    rfl
instance : Inhabited FileV := ⟨⟨⟨#[]⟩, none, [], 0⟩⟩
theorem open_files {H : Type} {enc : TypeId × Value → H} {w : World} {v : Value} {d : DataW H} {ps : List MemPlace} (hv : ∃ ao n c, v = .slice ao n c)
    (h : DataW.Trod enc Tryd.prog w 0 (fun _ => true) true 71 v d ps) : ∃ ao c l, v = .slice ao (List.length l) c ∧ FilesAt w ao c l := by
  obtain ⟨ao, c, l, h1, h2, h3, h4, h5, h6, _⟩ := open_rows (fun f : FileV => f.cells.toList) (fun f : FileV => PV w [] (.slice f.ao f.xs.length f.cap) f.xs ∧ f.xs.length ≤ 9223372036854775807) (size := 2) Tryd.underlying71 (by kernel_rfl) (by decide) (fun _ => rfl) dec_file hv h
  exact ⟨ao, c, l, h1, h4, h6, fun k f hf => h3 f (List.mem_of_getElem? hf)⟩
end Go.Proofs.YtfdhpjflkimihaaDoor
