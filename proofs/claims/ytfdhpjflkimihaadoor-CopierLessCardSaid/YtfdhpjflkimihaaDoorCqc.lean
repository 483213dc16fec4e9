/- Rows of files and of what was got, opened; law CopierLess, walked. No conditions beyond those that each statement types. -/
import Derived.Test.YtfdhpjflkimihaaDoorCqb
import Derived.Test.YtfdhpjflkimihaaDoorBkJd
namespace Go.Proofs.YtfdhpjflkimihaaDoor
open Go.RowKit

theorem plT_nil (N i : Nat) : plT N [] i = [] := by
  unfold plT
  split
  · rw [List.drop_nil, List.take_nil]
  · rfl
theorem right_nil {r : RecV} {N i : Nat} (g : r.Good N) (hi : i < cntN N) : rightB r i [] = false := by
  have h1 := (cntN_lt g.le i).1 hi
  have h2 := (bszN_pos g.le).1
  rw [rightB_eq, g.lenP hi, decide_eq_false (by
    intro h
    have : (0 : Int) = (min (bszN N) (N - i * bszN N) : Nat) := h
    omega)]
  rfl
/-- What is asked with earlier bytes is asked without them. -/
theorem less_step {r : RecV} {N i : Nat} (g : r.Good N) (hi : i < cntN N) (T : List UInt8) (fo : HKey → Option (Pl × List UInt8)) (h : (stepPl r N T fo i).from_ = 4) : (stepPl r N [] fo i).from_ = 4 := by
  have h2 : stepPl r N [] fo i = stepSm r i (fo (hkey (r.dig i))) ((List.range i).find? (sameBlk r i)) := by
    unfold stepPl
    rw [if_neg (by rw [plT_nil, right_nil g hi]; decide)]
  unfold stepPl at h
  split at h
  · cases h
  · rw [h2]; exact h
theorem planL_at (r : RecV) (N : Nat) (T : List UInt8) (fo : HKey → Option (Pl × List UInt8)) {n k : Nat} (h : k < n) : (planL r N T fo n)[k]? = some (stepPl r N T fo k) := by
  unfold planL
  rw [List.getElem?_map, List.getElem?_range h]
  rfl
def recV0 : RecV := ⟨false, 0, 0, 0, []⟩
theorem recZ_is (w : World) : RecIs w recZ recV0 none 0 := ⟨rfl, rfl, rfl, rfl, rfl, rfl, Src.empty _ _, Nat.le_refl _, fun _ => rfl⟩
/-- From of a step in memory. -/
theorem from_cell {w : World} {so : Option Addr} {l : List StepV} (hs : Src w so (svs l)) {k : Nat} {s : StepV} (h : l[k]? = some s) : ∃ a, so = some a ∧ ∀ w', Chg [] w w' → w'.cell? ⟨(a.add (k * 5)).block, (a.add (k * 5)).off + 1, none⟩ = some (.int .i64 s.from_) := by
  have h1 := (List.getElem?_eq_some_iff.1 h).1
  obtain ⟨a, rfl, _⟩ := hs.lt (by
    rw [show (svs l).length = l.length * 5 from flat_length (enc := fun s : StepV => s.cells.toList) (size := 5) (fun _ => rfl) l]
    omega)
  exact ⟨a, rfl, fun w' C => src_flat (w := w') (a := a) (cells := fun s : StepV => s.cells.toList) (size := 5) (fun _ => rfl) ((hs.chg C (by simp)).cell a rfl) h 1 (.int .i64 s.from_) rfl⟩
set_option maxRecDepth 100000 in
set_option maxHeartbeats 8000000 in
theorem copier_less (bo : Option Addr) (bc : Nat) (b : List UInt8) (so : Option Addr) (c : Nat) (L : List FileV) (ta : Option Addr) (tc : Nat) (T : List UInt8) (w : World) (hL : Laid w)
    (hb : Src w bo (bvs b)) (hbc : b.length ≤ bc) (hF : FilesAt w so c L) (hT : Src w ta (bvs T)) (hT6 : T.length ≤ 9223372036854775807) (hTc : T.length ≤ tc) (hT0 : ta = none → tc = 0) :
    Calls Tryd.prog 10 #[.slice bo b.length bc, .slice so L.length c, .slice ta T.length tc] w (Holds w) := by
  have KA := Lib.hid (fun w' (C : Chg [] w w') => law_awake21 w' (hL.chg C (by simp)))
  have HL := Lib.hid hL
  have HT := Lib.hid hT
  have HFS := Lib.hid hF
  have HB := Lib.hid hb
  have KLG := Lib.hid (fun w' (C : Chg [] w w') => law_large21 recZ recV0 none 0 L so c ta T.length tc none 0 0 [] none 0 w' (recZ_is w') (hF.src.chg C (by simp)) hF.cap (Src.empty _ _) (Nat.le_refl _))
  obtain ⟨bn, hbn⟩ : ∃ bn, b.length = bn := ⟨_, rfl⟩
  obtain ⟨tn, htn⟩ : ∃ tn, T.length = tn := ⟨_, rfl⟩
  obtain ⟨Ln, hLn⟩ : ∃ Ln, L.length = Ln := ⟨_, rfl⟩
  have HBN := Lib.hid hbn
  have HTN := Lib.hid htn
  have HLN := Lib.hid hLn
  have HTC := Lib.hid (show T.length ≤ tc ∧ T.length ≤ 9223372036854775807 from ⟨hTc, hT6⟩)
  have HT0 := Lib.hid hT0
  have HBC := Lib.hid hbc
  rw [htn, hLn] at KLG
  rw [hbn, htn, hLn]
  clear hbn htn hLn hL hT hF hb hT6 hTc hT0 hbc
  go_enter Tryd.func10, Tryd.ntmps10
  by_cases h4 : 4096 < bn
  · have e4 : (4096 : Int) < bn := by omega
    go_wp2_with fail
    refine (KA.out _ (Chg.refl [] w)).mono ?_
    rintro e wa ⟨rfl, Ca⟩
    have HCA := Lib.hid ((Chg.refl [] w).trans Ca (by simp))
    clear Ca
    go_wp2_with fail
    go_ret
    exact ⟨rfl, HCA.out⟩
  · have e4 : ¬ (4096 : Int) < bn := by omega
    go_wp2_with fail
    refine (KLG.out w (Chg.refl _ _)).mono ?_
    rintro e w1 ⟨rfl, C1⟩
    have HC1 := Lib.hid C1
    clear C1
    obtain ⟨LB, hLB⟩ : ∃ LB, largeB recV0.L.length tn 0 L [] = LB := ⟨_, rfl⟩
    have HLB := Lib.hid hLB
    change Hid (largeB recV0.L.length tn 0 L [] = LB) at HLB
    rw [hLB]
    clear hLB KLG
    cases LB with
    | true =>
      go_wp2_with fail
      refine (KA.out _ HC1.out).mono ?_
      rintro e wa ⟨rfl, Ca⟩
      have HCA := Lib.hid (HC1.out.trans Ca (by simp))
      clear Ca
      go_wp2_with fail
      go_ret
      exact ⟨rfl, HCA.out⟩
    | false =>
      have HL10 := Lib.hid (largeB_no HLB.out).1
      have KW := Lib.hid (by
        have := law_wanted b bo bc w1 (HL.out.chg HC1.out (by simp)) (HB.out.chg HC1.out (by simp)) (by rw [HBN.out]; omega) HBC.out
        rewrite [HBN.out] at this
        exact this)
      clear HLB
      go_wp2_with fail
      refine KW.out.mono ?_
      rintro e w2 ⟨C2, RC, ao, rc, rfl, HR, hao, hone⟩
      have hx := heap_alloc_new w2 (.cells recZ 77)
      have CA := Chg.alloc [] w2 (.cells recZ 77)
      obtain ⟨Z, hZ⟩ : ∃ Z, recZ = Z := ⟨_, rfl⟩
      have hzr := zero_rec w2
      have hzs : Z.size = 27 := by rw [← hZ]; rfl
      rw [hZ] at hzr hx CA
      obtain ⟨hst, hh, hcg⟩ := setRow_one (V := RC) hx (by rw [HR.size]; exact infoRec) (by rw [hzs, HR.size]) hone
      have C3 := hcg w2 CA (Nat.le_refl _)
      go_upto_region 4 with (first | (refine wpList_alloc_x rfl 77 rfl (.agg Z) hzr ?_) | (refine wpList_store_y 77 (.tmp 7) (.tmp 26) rfl (by first | rfl | go_simp) (.pointer (some ⟨w2.heap.size, 0, none⟩)) (.agg RC) _ hst rfl rfl ?_))
      obtain ⟨q, hq⟩ : ∃ q, w2.heap.size = q := ⟨_, rfl⟩
      rw [hq] at hh C3 ⊢
      generalize (w2.alloc (.cells Z 77)).setRow q RC = w3 at *
      have HC3 := Lib.hid ((HC1.out.trans C2 (by simp)).trans C3 (by simp))
      have HX3 := Lib.hid hh
      have HRI := Lib.hid (HR.chg0 C3)
      have HRS := Lib.hid HR.size
      have HAO := Lib.hid hao
      clear C2 hx CA hzr hzs hst hh hcg C3 HR hao hone hq hZ KW
      have HG := Lib.hid (recV_good (d := b) (by rw [HBN.out]; omega))
      have KFN := Lib.hid (by
        have := law_finders21 L so c w3 (HL.out.chg HC3.out (by simp)) (HFS.out.chg HC3.out) HL10.out
        rewrite [HLN.out] at this
        exact this)
      go_wp2_with fail
      refine KFN.out.mono ?_
      rintro e w4 ⟨fb, bg, S, TT, rfl, hFS⟩
      have HFI := Lib.hid hFS
      have HC4 := Lib.hid (HC3.out.trans hFS.chg (by simp))
      have HX4 := Lib.hid ((hFS.chg.block q (lt_of_block HX3.out) (by simp)).trans HX3.out)
      have HR4 := Lib.hid (HRI.out.chg0 hFS.chg)
      have HFF : Hid ((filesF L).length ≤ 30000) := Lib.hid (by
        have h1 := filesF_len L L.length
        have h2 := HL10.out
        rw [List.take_length] at h1
        omega)
      have hldr := run_loadAt_rec w4 q RC _ HX4.out HRS.out
      have KP := Lib.hid (by
        have := cp_plan RC (recV b) ao rc b.length HG.out (some ⟨fb, 0, none⟩) (findL (filesF L)) ta tc T w4 (HL.out.chg HC4.out (by simp)) HR4.out (finds_at HFI.out.fin HFF.out) (findL_short _) (HT.out.chg HC4.out (by simp)) HTC.out.2 HTC.out.1 HT0.out
        rewrite [HTN.out] at this
        exact this)
      have HLS := Lib.hid (fun (k : Nat) (hk : k < cntN b.length) => less_step HG.out hk T (findL (filesF L)))
      have HPT := Lib.hid (fun (k : Nat) (hk : k < cntN b.length) => planL_at (recV b) b.length T (findL (filesF L)) hk)
      have HPN := Lib.hid (fun (k : Nat) (hk : k < cntN b.length) => planL_at (recV b) b.length [] (findL (filesF L)) hk)
      have HLT := Lib.hid (planL_len (recV b) b.length T (findL (filesF L)) (cntN b.length))
      have HLZ := Lib.hid (planL_len (recV b) b.length [] (findL (filesF L)) (cntN b.length))
      have hn32 := cntN_le b.length
      obtain ⟨n, hn⟩ : ∃ n, cntN b.length = n := ⟨_, rfl⟩
      have HNN := Lib.hid hn
      rw [hn] at KP HLS HPT HPN HLT HLZ hn32
      clear hFS HX3 HRI HC3 KFN hn
      go_wp2_with (refine wpList_load_y 77 (.tmp 7) rfl (by go_simp) (.pointer (some ⟨q, 0, none⟩)) (.agg RC) hldr rfl ?_)
      refine KP.out.mono ?_
      rintro e w5 ⟨C5, po, pc, rfl, hown, _⟩
      have HC5 := Lib.hid (HC4.out.trans C5 (by simp))
      have HX5 := Lib.hid ((C5.block q (lt_of_block HX4.out) (by simp)).trans HX4.out)
      have HS5 := Lib.hid (ownsRow_src_any hown)
      have HO5 := Lib.hid (show (planL (recV b) b.length T (findL (filesF L)) n).length ≤ pc from by
        obtain ⟨_, _, hv, hpc, _⟩ := ownsRow_slice hown
        cases hv
        exact hpc)
      rw [HLT.out] at HO5 ⊢
      have KP2 := Lib.hid (by
        have := cp_plan RC (recV b) ao rc b.length HG.out (some ⟨fb, 0, none⟩) (findL (filesF L)) none 0 [] w5 (HL.out.chg HC5.out (by simp)) (HR4.out.chg0 C5) (finds_at (HFI.out.keep0 C5).fin HFF.out) (findL_short _) (Src.empty _ _) (by simp) (by simp) (fun _ => rfl)
        rewrite [HNN.out] at this
        exact this)
      have hldr := run_loadAt_rec w5 q RC _ HX5.out HRS.out
      clear C5 hown KP HX4 HC4 HFI
      go_wp2_with (refine wpList_load_y 77 (.tmp 7) rfl (by go_simp) (.pointer (some ⟨q, 0, none⟩)) (.agg RC) hldr rfl ?_)
      refine KP2.out.mono ?_
      rintro e w6 ⟨C6, qo, qc, rfl, hown, _⟩
      have HC6 := Lib.hid (HC5.out.trans C6 (by simp))
      have HS6 := Lib.hid (ownsRow_src_any hown)
      have HS5' := Lib.hid (HS5.out.chg C6 (by simp))
      have HO6 := Lib.hid (show (planL (recV b) b.length [] (findL (filesF L)) n).length ≤ qc from by
        obtain ⟨_, _, hv, hpc, _⟩ := ownsRow_slice hown
        cases hv
        exact hpc)
      rw [HLZ.out] at HO6 ⊢
      have HCA := Lib.hid (fun (k : Nat) (hk : k < n) => from_cell HS5'.out (HPT.out k hk))
      have HCB := Lib.hid (fun (k : Nat) (hk : k < n) => from_cell HS6.out (HPN.out k hk))
      have hpc := HO5.out
      have hqc := HO6.out
      generalize stepPl (recV b) b.length T (findL (filesF L)) = SA at *
      generalize stepPl (recV b) b.length [] (findL (filesF L)) = SB at *
      clear C6 hown KP2 HX5 HC5 HS5 HS5' HS6 HO5 HO6 HPT HPN HLT HLZ hldr HR4 HRS HG
      go_wp2_with fail
      go_loopw [14] (fun v wr => ∃ k : Nat, v = .int .i64 (k : Int) ∧ k ≤ n ∧ Hid (Chg [] w6 wr)) (fun v _ => n - (intOf v).toNat)
      case atStart => exact ⟨0, rfl, Nat.zero_le _, Lib.hid (Chg.refl _ _)⟩
      case round =>
        obtain ⟨k, rfl, hk, HC⟩ := hrel
        by_cases hlt : k < n
        · have e1 : (k : Int) < n := Int.ofNat_lt.2 hlt
          have e0 : (0 : Int) ≤ k := Int.natCast_nonneg _
          have hk1 : k < pc := by omega
          have hk2 : k < qc := by omega
          obtain ⟨pa, rfl, hca⟩ := HCA.out k hlt
          obtain ⟨qa, rfl, hcb⟩ := HCB.out k hlt
          have hca := hca wr HC.out
          have hcb := hcb wr HC.out
          have hls := HLS.out k hlt
          generalize (SA k).from_ = fa at *
          generalize (SB k).from_ = fz at *
          by_cases h4 : fa = 4
          · have h5 := hls h4
            subst h4 h5
            clear hls
            go_wp2_with fail
            go_roundw
            case rel => exact ⟨k + 1, by go_num, hlt, HC⟩
            case measure => simp [intOf] <;> omega
          · clear hls
            have h6 : (fa == 4) = false := by simpa using h4
            go_wp2_with fail
            go_roundw
            case rel => exact ⟨k + 1, by go_num, hlt, HC⟩
            case measure => simp [intOf] <;> omega
        · have e1 : ¬ (k : Int) < n := fun h => hlt (Int.ofNat_lt.1 h)
          have HCE := Lib.hid (HC6.out.trans HC.out (by simp))
          go_wp2_with fail
          refine (KA.out _ HCE.out).mono ?_
          rintro e wa ⟨rfl, Ca⟩
          have HCA := Lib.hid (HCE.out.trans Ca (by simp))
          clear Ca
          go_wp2_with fail
          go_ret
          exact ⟨rfl, HCA.out⟩
end Go.Proofs.YtfdhpjflkimihaaDoor
/- Rows of files and of what was got, opened. No conditions beyond those that each statement types. -/
namespace Go.Proofs.YtfdhpjflkimihaaDoor
open Go.RowKit Go.ChangeShapes Go.WideShapes Go.ChangeAt Go.Deep

theorem open_bytesC {H : Type} {enc : TypeId × Value → H} {w : World} {v : Value} {d : DataW H} {ps : List MemPlace} (hv : ∃ ao n c, v = .slice ao n c)
    (h : DataW.Trod enc Tryd.prog w 0 (fun _ => true) true 25 v d ps) : ∃ ao c l, v = .slice ao (List.length l) c ∧ Src w ao (bvs l) ∧ l.length ≤ c := by
  obtain ⟨ao, c, l, h1, _, _, h4, h5⟩ := open_bytesB hv h
  exact ⟨ao, c, l, h1, h5, h4⟩
theorem open_bytesD {H : Type} {enc : TypeId × Value → H} {w : World} {v : Value} {d : DataW H} {ps : List MemPlace} (hv : ∃ ao n c, v = .slice ao n c)
    (h : DataW.Trod enc Tryd.prog w 0 (fun _ => true) true 25 v d ps) : ∃ ao c l, v = .slice ao (List.length l) c ∧ Src w ao (bvs l) ∧ l.length ≤ 9223372036854775807 ∧ l.length ≤ c ∧ (ao = none → c = 0) := by
  obtain ⟨ao, c, l, h1, h2, h3, h4, h5⟩ := open_bytesB hv h
  exact ⟨ao, c, l, h1, h5, h2, h4, h3⟩
/-- A slice of bytes in a cell. -/
theorem cell_bytes {H : Type} {enc : TypeId × Value → H} {w : World} {n : Nat} {cs : List Value} {y : DataW H × List MemPlace} (h : DataW.trod enc Tryd.prog w 0 (fun _ => true) true n 25 cs = some y) :
    ∃ ao c l, cs = [.slice ao (List.length l) c] ∧ PV w [] (.slice ao l.length c) l ∧ l.length ≤ 9223372036854775807 := by
  have key : ∀ v : Value, (∃ ao n c, v = .slice ao n c) → cs = [v] → ∃ ao c l, cs = [.slice ao (List.length l) c] ∧ PV w [] (.slice ao l.length c) l ∧ l.length ≤ 9223372036854775807 := by
    intro v hv hc
    obtain ⟨ao0, n0, c0, rfl⟩ := hv
    obtain ⟨ao, c, l, h1, h2, h3, h4, h5⟩ := open_bytesB (d := y.1) (ps := y.2) ⟨ao0, n0, c0, rfl⟩ ⟨n, by rw [hc] at h; exact h⟩
    refine ⟨ao, c, l, by rw [hc, h1], ⟨ao, c, rfl, h5, h4, h3, fun hp a ha => ⟨List.not_mem_nil, ?_⟩⟩, h2⟩
    obtain ⟨a2, e, hl⟩ := h5.lt (by rw [bvs_length]; exact hp)
    rw [ha] at e
    cases e
    exact hl
  rcases DataW.trod_slice Tryd.underlying25 h with h0 | ⟨a, len, cap, _, _, _, _, hcs, _⟩
  · exact key _ ⟨none, 0, 0, rfl⟩ h0.1
  · exact key _ ⟨some a, len, cap, rfl⟩ hcs
set_option maxRecDepth 100000 in
theorem dec_file {H : Type} {enc : TypeId × Value → H} {w : World} (fuel : Nat) (cs : List Value) (x : DataW H × List MemPlace) (h : DataW.trod enc Tryd.prog w 0 (fun _ => true) true fuel 143 cs = some x) :
    ∃ f : FileV, cs = f.cells.toList ∧ (PV w [] (.slice f.ao f.xs.length f.cap) f.xs ∧ f.xs.length ≤ 9223372036854775807) := by
  obtain ⟨xs, n, _, _, hl, hx, hf⟩ := DataW.trod_struct Tryd.underlying143 h
  rw [show Tryd.prog.cellsOf 143 = 2 from by kernel_rfl] at hl
  have hx2 : xs.length = 2 := hx
  have f0 := hf 0 _ rfl
  have f1 := hf 1 _ rfl
  rw [List.getElem?_eq_getElem (by omega)] at f0 f1
  obtain ⟨s, e0, _, _⟩ := DataW.trod_string Tryd.underlying9 f0
  obtain ⟨ao, c, l, e1, h1, h2⟩ := cell_bytes f1
  have e0 : (cs.drop 0).take (Tryd.prog.cellsOf 9) = [.string s] := e0
  have e1 : (cs.drop 1).take (Tryd.prog.cellsOf 25) = [.slice ao l.length c] := e1
  rw [show Tryd.prog.cellsOf 9 = 1 from by kernel_rfl] at e0
  rw [show Tryd.prog.cellsOf 25 = 1 from by kernel_rfl] at e1
  refine ⟨⟨s, ao, l, c⟩, ?_, h1, h2⟩
  match cs, hl with
  | [u, v], _ =>
    have e0 : [u] = [Value.string s] := e0
    have e1 : [v] = [Value.slice ao l.length c] := e1
    cases e0
    cases e1
    rfl
instance : Inhabited FileV := ⟨⟨⟨#[]⟩, none, [], 0⟩⟩
theorem open_files {H : Type} {enc : TypeId × Value → H} {w : World} {v : Value} {d : DataW H} {ps : List MemPlace} (hv : ∃ ao n c, v = .slice ao n c)
    (h : DataW.Trod enc Tryd.prog w 0 (fun _ => true) true 71 v d ps) : ∃ ao c l, v = .slice ao (List.length l) c ∧ FilesAt w ao c l := by
  obtain ⟨ao, c, l, h1, h2, h3, h4, h5, h6, _⟩ := open_rows (fun f : FileV => f.cells.toList) (fun f : FileV => PV w [] (.slice f.ao f.xs.length f.cap) f.xs ∧ f.xs.length ≤ 9223372036854775807) (size := 2) Tryd.underlying71 (by kernel_rfl) (by decide) (fun _ => rfl) dec_file hv h
  exact ⟨ao, c, l, h1, h4, h6, fun k f hf => h3 f (List.mem_of_getElem? hf)⟩
end Go.Proofs.YtfdhpjflkimihaaDoor
