/- What the law BlockFinds does: true, and it leaves what was there. No conditions beyond those that each statement types. -/
import Derived.Test.YtfdhpjflkimihaaDoorBkFk
namespace Go.Proofs.YtfdhpjflkimihaaDoor
open Go.RowKit

set_option maxRecDepth 100000 in
set_option maxHeartbeats 16000000 in
theorem block_finds (ao : Option Addr) (c : Nat) (acts : List ActV) (hlm : acts.length ≤ 9223372036854775807) (hok : ∀ a ∈ acts, okAct a) (_hc0 : ao = none → c = 0) (hlc : acts.length ≤ c) (f : Nat → UInt8) (w : World) (hL : Laid w) (hs : Src w ao (avs acts)) :
    Calls Tryd.prog 7 #[.slice ao acts.length c, hashV f] w (Holds w) := by
  have KW := Lib.hid (fun w' (C : Chg [] w w') => law_awake w' (hL.chg C (by simp)))
  obtain ⟨R, hR⟩ : ∃ R, hashC f = R := ⟨_, rfl⟩
  have hRs : R.size = 32 := by rw [← hR]; exact hashC_size _
  have hRV : hashV f = .agg R := by rw [hashV, hR]
  have C0 := Chg.alloc [] w (.cells R 32)
  have hx0 := heap_alloc_new w (.cells R 32)
  clear _hc0
  by_cases hbig : 40 < acts.length
  · have h' : (acts.length : Int) > 40 := by omega
    rw [hRV]
    clear hs hL hlm hbig hok hlc
    generalize acts.length = n at *
    go_enter Tryd.func7, Tryd.ntmps7
    go_wp2_with fail
    refine (KW.out _ C0).mono ?_
    rintro e w1 ⟨rfl, C⟩
    go_wp2_with fail
    go_ret
    exact ⟨rfl, C0.trans C (by simp)⟩
  · have h' : ¬ (acts.length : Int) > 40 := by omega
    have hn40 : acts.length ≤ 40 := by omega
    have HS := Lib.hid hs
    have HOK := Lib.hid hok
    have HL := Lib.hid hL
    obtain ⟨n, hn⟩ : ∃ n, acts.length = n := ⟨_, rfl⟩
    have HN := Lib.hid hn
    have HR := Lib.hid hRs
    have HRV := Lib.hid hRV
    rw [hRV]
    rw [hn] at h' hn40 hlc ⊢
    clear hs hL hlm hbig hn hRV hRs hok
    have hwsz : (w.alloc (.cells R 32)).heap.size = w.heap.size + 1 := by simp
    go_enter Tryd.func7, Tryd.ntmps7
    go_upto_region 3 with (fail)
    obtain ⟨q0, hq0⟩ : ∃ q0, w.heap.size = q0 := ⟨_, rfl⟩
    rw [hq0] at hx0 hwsz
    try rw [hq0]
    have HQ0 := Lib.hid hq0
    have HX0 := Lib.hid hx0
    have HC0 := Lib.hid C0
    clear hx0 C0 hq0
    generalize w.alloc (.cells R 32) = w0 at *
    go_wp2_with fail
    refine (blk_new w0).mono ?_
    rintro e w1 ⟨b, S, rfl, HF0, hS, C1⟩
    have HF := Lib.hid HF0
    have HSN := Lib.hid hS
    have HC1 := Lib.hid C1
    have hg := ref_new w1
    have CA := Chg.alloc [] w1 (.cells #[.slice none 0 0] 48)
    clear hS C1 HF0
    go_upto_region 6 with (fail)
    have HG := Lib.hid hg
    have HCA := Lib.hid CA
    obtain ⟨bg, hbg⟩ : ∃ bg, w1.heap.size = bg := ⟨_, rfl⟩
    rw [hbg] at HG ⊢
    have HBG := Lib.hid hbg
    clear hg CA hbg
    generalize w1.alloc (.cells #[.slice none 0 0] 48) = w2 at *
    have hx2 := ((HC1.out.trans HCA.out (by simp)).block q0 (by omega) (by simp)).trans HX0.out
    obtain ⟨D0, hD0⟩ : ∃ D0, hashC (digest []) = D0 := ⟨_, rfl⟩
    have KS0 := Lib.hid (fun w' => by
      have := ref_sum [] none 0 w' (Src.empty _ _) (fun _ => rfl) (by simp)
      rewrite [hashV, hD0] at this
      exact this)
    have HTW := Lib.hid (fun w' => by
      have := run_two_hashes f (digest []) w'
      rewrite [hashV, hashV, hR, hD0] at this
      exact this)
    have HD0 := Lib.hid hD0
    have HRF := Lib.hid hR
    clear hD0 hR hwsz
    refine wp_region_held_drew (S := fun w' => w'.heap[q0]? = some (.cells R 32 (0, 0))) (by kernel_rfl) (hx2) (fun H0 => ?_)
    refine' wpAnyH_take (i := 0) (v := .agg R) rfl (by kernel_rfl) (by kernel_rfl) (by kernel_rfl) (fun _ _ _ h => h) (Or.inl ⟨by rfl, ?hya0⟩) H0 ?resta0
    case hya0 =>
      intro w' hSw
      have s1 := hSw
      have hld := run_load_hash w' _ _ _ _ s1 HR.out
      simp [execOp, Act.eval, hld, Result.andThen]
    (try simp only [Act.put, List.getElem_toArray, List.getElem_cons_zero, List.setIfInBounds_toArray, List.set_cons_zero, List.set_cons_succ])
    refine wpAnyH_ready (rs := [1]) (by kernel_rfl) (by simp) (AllReadyH.cons rfl (fun K hK => ?_) AllReadyH.nil)
    go_simp
    refine (KS0.out _).mono ?_
    rintro e w3 ⟨rfl, C3⟩
    have HC3 := Lib.hid ((Chg.drewN [] w2 1).trans C3 (by simp))
    have hx3 := (HC3.out.block q0 (lt_of_block hx2) (by simp)).trans hx2
    go_simp
    refine hK.out _ _ hx3 (fun H1 => ?_)
    clear hK K C3
    refine wpAnyH_ready (rs := [2]) (by kernel_rfl) (by simp) (AllReadyH.cons rfl (fun K hK => ?_) AllReadyH.nil)
    refine step_value rfl (.slice (some ⟨w3.heap.size, 0, none⟩) 2 2) (w3.alloc (.cells (R ++ D0) 32)) (by simp [execOp, Act.eval, HTW.out, Result.andThen]) ?_
    have CA4 := Chg.alloc [] w3 (.cells (R ++ D0) 32)
    refine hK.out _ _ ((CA4.block q0 (lt_of_block hx3) (by simp)).trans hx3) (fun H2 => ?_)
    clear hK K
    refine' wpAnyH_take (i := 3) (v := _) rfl (by kernel_rfl) (by kernel_rfl) (by kernel_rfl) (fun _ _ _ h => h) (Or.inl ⟨by rfl, ?hya3⟩) H2 ?resta3
    case hya3 =>
      intro w' hSw
      have s1 := hSw
      go_simp
      try with_reducible rfl
    (try simp only [Act.put, List.getElem_toArray, List.getElem_cons_succ, List.getElem_cons_zero, List.setIfInBounds_toArray, List.set_cons_zero, List.set_cons_succ])
    refine wpAnyH_done (by kernel_rfl) ?_ _
    have HC4 := Lib.hid (HC3.out.trans CA4 (by simp))
    obtain ⟨gA, hgA⟩ : ∃ gA, w3.heap.size = gA := ⟨_, rfl⟩
    have hrows : (R ++ D0).toList = hvs [f, digest []] := by rw [Array.toList_append, ← HD0.out, ← HRF.out]; simp [hvs]
    have hown : (w3.alloc (.cells (R ++ D0) 32)).ownsRow 0 32 32 (.slice (some ⟨w3.heap.size, 0, none⟩) 2 2) 2 (hvs [f, digest []]) :=
      ⟨by rw [hvs_length]; rfl, .inr ⟨w3.heap.size, 2, R ++ D0, rfl, Nat.zero_le _, heap_alloc_new w3 _, Nat.le_refl _, by decide, by rw [Array.size_append, HR.out, ← HD0.out, hashC_size], by rw [hrows]; exact List.take_of_length_le (by rw [hvs_length]; exact Nat.le_refl _)⟩⟩
    have HOWN := Lib.hid hown
    rw [hgA]
    rw [hgA] at HOWN
    generalize w3.alloc (.cells (R ++ D0) 32) = w4 at *
    have HST0 : Hid (LoopSt w w4 b bg 0 (some ⟨gA, 0, none⟩) 2 2) := Lib.hid (by
      have s0 := HC0.out.size
      have s1 := HC1.out.size
      have s2 := HCA.out.size
      have s3 := HC3.out.size
      have hlt := HF.out.ltS
      have hb := HBG.out
      have C24 := HCA.out.trans HC4.out (by simp)
      exact ⟨[], [], S, [bg], [f, digest []], ⟨HF.out.chg C24 (by simp), HG.out.chg HC4.out (by simp), sameF_nil, fun k hk hm => by
        have := hlt k hk
        have : k = bg := by simpa using hm
        omega, fun k hk => Nat.le_trans s0 (HSN.out k hk), fun k hk => by
        have : k = bg := by simpa using hk
        omega, (HC0.out.trans HC1.out (by simp)).trans C24 (by simp)⟩, Nat.le_refl _, rfl, HOWN.out, fun k hk => by
        have hk : gA = k := by simpa [Value.ownBlock] using hk
        refine ⟨by omega, fun hm => ?_, fun hm => ?_⟩
        · have := hlt k hm
          omega
        · have : k = bg := by simpa using hm
          have hl := lt_of_block hx3
          have := HG.out.ltT bg (by simp)
          omega⟩)
    have HCW4 := Lib.hid ((HC0.out.trans HC1.out (by simp)).trans (HCA.out.trans HC4.out (by simp)) (by simp))
    clear H0 H1 H2 hx2 hx3 CA4 HC4 HC3 hrows hown HOWN KS0 HTW HD0 HRF HSN HF HG HBG HCA HC1 hgA HX0 HC0
    go_wp2_with fail
    go_loopw [7, 8] (fun v7 v8 wr => ∃ (i LN c' : Nat) (ao' : Option Addr), v7 = .slice ao' LN c' ∧ v8 = .int .i64 (i : Int) ∧ i ≤ n ∧ LN ≤ 41 ∧ Hid (LoopSt w wr b bg i ao' LN c')) (fun _ v _ => n - (intOf v).toNat)
    case atStart => exact ⟨0, 2, 2, _, rfl, rfl, Nat.zero_le _, by decide, HST0⟩
    case round =>
      obtain ⟨i, LN, c', ao', rfl, rfl, hi, hLN, HST⟩ := hrel
      clear HST0
      by_cases hlt : i < n
      · have e1 : (i : Int) < n := Int.ofNat_lt.2 hlt
        have e0 : (0 : Int) ≤ i := Int.natCast_nonneg _
        obtain ⟨F, R', S', T, L, hfs, hFi, hLL, hown⟩ := HST.out
        have HFS := Lib.hid hfs
        have HFI := Lib.hid hFi
        have HLL := Lib.hid hLL
        have HOWN := Lib.hid hown
        obtain ⟨x, hx⟩ : ∃ x, acts[i]? = some x := ⟨_, List.getElem?_eq_getElem (by rw [HN.out]; exact hlt)⟩
        obtain ⟨a, rfl, _⟩ := HS.out.lt (by
          have := flat_length (enc := fun a : ActV => a.cells.toList) (size := 4) (fun _ => rfl) acts
          have h2 := HN.out
          show 0 < (acts.flatMap fun a => a.cells.toList).length
          omega)
        have hld := load_act HS.out hfs.chg hx
        have hokx := HOK.out x (List.mem_of_getElem? hx)
        obtain ⟨gone, nm, tx, LG⟩ := x
        have HLD := Lib.hid hld
        have HOX := Lib.hid hokx
        have hkc : i < c := by omega
        clear hfs hFi hLL hown hx hld hokx
        obtain ⟨q9, hq9⟩ : ∃ q9, wr.heap.size = q9 := ⟨_, rfl⟩
        have hx9 := heap_alloc_new wr (.cells #[.bool gone, .string nm, .string tx, .int .i64 LG] 50)
        have CB := Chg.alloc [] wr (.cells #[.bool gone, .string nm, .string tx, .int .i64 LG] 50)
        have hlda : (Instr.loadAt 50 (.pointer (some (a.add (i * 4))))).run Tryd.prog wr = .ok (.agg #[.bool gone, .string nm, .string tx, .int .i64 LG]) wr := HLD.out
        go_upto_region 11 with (refine wpList_load_y 50 (.tmp 47) rfl (by go_simp) (.pointer (some (a.add (i * 4)))) (.agg #[.bool gone, .string nm, .string tx, .int .i64 LG]) hlda rfl ?_)
        have HX9 := Lib.hid hx9
        have HCB := Lib.hid CB
        rw [hq9] at HX9
        generalize wr.alloc (.cells #[.bool gone, .string nm, .string tx, .int .i64 LG] 50) = w5 at *
        have HFW := Lib.hid (fun w' (C : Chg [] w5 w') => HFS.out.keep0 (HCB.out.trans C (by simp)))
        have HOW := Lib.hid (fun w' (C : Chg [] w5 w') => HOWN.out.keep0 (HCB.out.trans C (by simp)))
        have HQ9 : Hid (w.heap.size ≤ q9 ∧ q9 ∉ S' ∧ q9 ∉ T) := Lib.hid (HFS.out.fresh (Nat.le_of_eq hq9))
        have hcell : w5.cell? ⟨q9, 0, none⟩ = some (.bool gone) ∧ w5.cell? ⟨q9, 1, none⟩ = some (.string nm) ∧ w5.cell? ⟨q9, 2, none⟩ = some (.string tx) ∧ w5.cell? ⟨q9, 3, none⟩ = some (.int .i64 LG) := by
          refine ⟨?_, ?_, ?_, ?_⟩ <;> (rw [cell_of_row _ _ _ _ _ _ HX9.out]; rfl)
        obtain ⟨c90, c91, c92, c93⟩ := hcell
        clear hx9 CB hlda HLD HFS HOWN HST
        cases gone with
        | true =>
          obtain ⟨Bf, hBf⟩ : ∃ Bf, hasF F nm = Bf := ⟨_, rfl⟩
          have KFo := Lib.hid (by
            have hft := HFW.out _ (Chg.drewN [] w5 1)
            have h1 := HFI.out
            have := blk_forget b F S' nm _ (HL.out.chg hft.chg (by simp)) hft.fin (by omega)
            rewrite [hBf] at this
            exact this)
          have HBF2 : Hid (hasF R' nm = Bf) := Lib.hid (by rw [← (HFW.out _ (Chg.refl _ _)).same.has, hBf])
          have hRi : F.length ≤ i := HFI.out
          clear hBf
          go_upto_region 12 with (fail)
          refine wp_region_held_drew (S := fun w' => w'.heap[q9]? = some (.cells #[.bool true, .string nm, .string tx, .int .i64 LG] 50 (0, 0))) (by kernel_rfl) (HX9.out) (fun H0 => ?_)
          refine' wpAnyH_take (i := 0) (v := _) rfl (by kernel_rfl) (by kernel_rfl) (by kernel_rfl) (fun _ _ _ h => h) (Or.inl ⟨by rfl, ?hyg0⟩) H0 ?restg0
          case hyg0 =>
            intro w' hSw
            have s1 := hSw
            go_simp
            try with_reducible rfl
          (try simp only [Act.put, List.getElem_toArray, List.getElem_cons_zero, List.setIfInBounds_toArray, List.set_cons_zero, List.set_cons_succ])
          refine' wpAnyH_take (i := 1) (v := _) rfl (by kernel_rfl) (by kernel_rfl) (by kernel_rfl) (fun _ _ _ h => h) (Or.inl ⟨by rfl, ?hyg1⟩) H0 ?restg1
          case hyg1 =>
            intro w' hSw
            have s1 := hSw
            go_simp
            try with_reducible rfl
          (try simp only [Act.put, List.getElem_toArray, List.getElem_cons_succ, List.getElem_cons_zero, List.setIfInBounds_toArray, List.set_cons_zero, List.set_cons_succ])
          refine' wpAnyH_take (i := 2) (v := _) rfl (by kernel_rfl) (by kernel_rfl) (by kernel_rfl) (fun _ _ _ h => h) (Or.inl ⟨by rfl, ?hyg2⟩) H0 ?restg2
          case hyg2 =>
            intro w' hSw
            have s1 := hSw
            have hc := (show w'.cell? ⟨q9, 1, none⟩ = some (.string nm) by rw [cell_of_row _ _ _ _ _ _ s1]; rfl)
            go_simp
            try with_reducible rfl
          (try simp only [Act.put, List.getElem_toArray, List.getElem_cons_succ, List.getElem_cons_zero, List.setIfInBounds_toArray, List.set_cons_zero, List.set_cons_succ])
          refine' wpAnyH_take (i := 4) (v := _) rfl (by kernel_rfl) (by kernel_rfl) (by kernel_rfl) (fun _ _ _ h => h) (Or.inl ⟨by rfl, ?hyg4⟩) H0 ?restg4
          case hyg4 =>
            intro w' hSw
            have s1 := hSw
            go_simp
            try with_reducible rfl
          (try simp only [Act.put, List.getElem_toArray, List.getElem_cons_succ, List.getElem_cons_zero, List.setIfInBounds_toArray, List.set_cons_zero, List.set_cons_succ])
          refine' wpAnyH_take (i := 5) (v := _) rfl (by kernel_rfl) (by kernel_rfl) (by kernel_rfl) (fun _ _ _ h => h) (Or.inl ⟨by rfl, ?hyg5⟩) H0 ?restg5
          case hyg5 =>
            intro w' hSw
            have s1 := hSw
            go_simp
            try with_reducible rfl
          (try simp only [Act.put, List.getElem_toArray, List.getElem_cons_succ, List.getElem_cons_zero, List.setIfInBounds_toArray, List.set_cons_zero, List.set_cons_succ])
          refine' wpAnyH_take (i := 6) (v := _) rfl (by kernel_rfl) (by kernel_rfl) (by kernel_rfl) (fun _ _ _ h => h) (Or.inl ⟨by rfl, ?hyg6⟩) H0 ?restg6
          case hyg6 =>
            intro w' hSw
            have s1 := hSw
            have hc := (show w'.cell? ⟨q9, 1, none⟩ = some (.string nm) by rw [cell_of_row _ _ _ _ _ _ s1]; rfl)
            go_simp
            try with_reducible rfl
          (try simp only [Act.put, List.getElem_toArray, List.getElem_cons_succ, List.getElem_cons_zero, List.setIfInBounds_toArray, List.set_cons_zero, List.set_cons_succ])
          refine wpAnyH_ready (rs := [3]) (by kernel_rfl) (by simp) (AllReadyH.cons rfl (fun K hK => ?_) AllReadyH.nil)
          go_simp
          refine (KFo.out).mono ?_
          rintro e w6 ⟨rfl, S6, HF6, C6, hS6⟩
          have hx6 := (C6.block q9 (lt_of_block HX9.out) HQ9.out.2.1).trans HX9.out
          have HF6 := Lib.hid HF6
          have HC6 := Lib.hid C6
          have HS6 := Lib.hid hS6
          have KRo := Lib.hid (by
            have hft := HFW.out _ (Chg.drewN [] w5 1)
            have := ref_forget bg R' nm T w6 (hft.ref.chg C6 (fun k hk hm => hft.apart k hm hk)) (by have := hft.same.length; omega)
            rewrite [HBF2.out] at this
            exact this)
          clear C6 hS6
          go_simp
          refine hK.out _ _ hx6 (fun H1 => ?_)
          clear hK K
          refine wpAnyH_ready (rs := [7]) (by kernel_rfl) (by simp) (AllReadyH.cons rfl (fun K hK => ?_) AllReadyH.nil)
          go_simp
          refine (KRo.out).mono ?_
          rintro e w7 ⟨rfl, hto⟩
          obtain ⟨T7, hfs7, B7⟩ := (HFW.out _ (Chg.drewN [] w5 1)).both HF6.out HC6.out HS6.out hto ((HFW.out _ (Chg.drewN [] w5 1)).same.del nm)
          have hx7 := (B7.chg.block q9 (lt_of_block HX9.out) (fun hm => (List.mem_append.1 hm).elim HQ9.out.2.1 HQ9.out.2.2)).trans HX9.out
          have HF7 := Lib.hid hfs7
          have HB7 := Lib.hid B7
          clear hto hfs7 B7 hx6
          go_simp
          refine hK.out _ _ hx7 (fun H2 => ?_)
          clear hK K hx7
          refine' wpAnyH_take (i := 8) (v := _) rfl (by kernel_rfl) (by kernel_rfl) (by kernel_rfl) (fun _ _ _ h => h) (Or.inl ⟨by rfl, ?hyg8⟩) H2 ?restg8
          case hyg8 =>
            intro w' hSw
            have s1 := hSw
            go_simp
            try with_reducible rfl
          (try simp only [Act.put, List.getElem_toArray, List.getElem_cons_succ, List.getElem_cons_zero, List.setIfInBounds_toArray, List.set_cons_zero, List.set_cons_succ])
          refine wpAnyH_done (by kernel_rfl) ?_ _
          clear H0 H1 H2 KFo KRo c90 c91 c92 c93
          obtain ⟨N2, hN2⟩ : ∃ N2, (Fdel F nm).length = N2 := ⟨_, rfl⟩
          have HFZ := Lib.hid (fun w' (C : Chg [] w7 w') => (HF7.out).keep0 C)
          have HOZ := Lib.hid (fun w' (C : Chg [] w7 w') => ((HOW.out _ (Chg.drewN [] w5 1)).both HB7.out).keep0 C)
          obtain ⟨aR, cR, hbR⟩ : ∃ aR cR, w7.heap[bg]? = some (.cells #[.slice aR N2 cR] 48 (0, 0)) := by
            obtain ⟨aR, cR, _, h1, _⟩ := (HFZ.out _ (Chg.refl _ _)).ref
            rw [← (HFZ.out _ (Chg.refl _ _)).same.length, hN2] at h1
            exact ⟨aR, cR, h1⟩
          have w7c := Lib.hid (fun w' (C : Chg [] w7 w') => show w'.cell? ⟨bg, 0, none⟩ = some (.slice aR N2 cR) by
            rw [cell_of_row _ _ _ _ _ _ ((C.block bg (lt_of_block hbR) (by simp)).trans hbR)]; rfl)
          have w7k := Lib.hid (fun w' (C : Chg [] w7 w') => by
            obtain ⟨_, _, bf, bp, fv, pv, HI, _⟩ := (HFZ.out w' C).fin
            have := blk_len b bf bp (Fdel F nm) _ fv pv S6 w' HI
            rewrite [hN2] at this
            exact this)
          have HN2 := Lib.hid hN2
          have HST2 : Hid (LoopSt w (w7.drew) b bg (i + 1) ao' LN c') := Lib.hid ⟨Fdel F nm, Fdel R' nm, S6, T7, L, HFZ.out _ (Chg.drewN [] w7 1), by have := List.length_filter_le (fun p : ByteArray × List UInt8 => !decide (p.1 = nm)) F; unfold Fdel; omega, HLL.out, HOZ.out _ (Chg.drewN [] w7 1)⟩
          clear hN2 hbR
          go_wp2_with fail
          refine wp_region_held_drew (S := fun w' => w'.cell? ⟨bg, 0, none⟩ = some (.slice aR N2 cR)) (by kernel_rfl) (((w7c.out _ (Chg.drewN [] w7 1)))) (fun H0 => ?_)
          refine' wpAnyH_take (i := 0) (v := _) rfl (by kernel_rfl) (by kernel_rfl) (by kernel_rfl) (fun _ _ _ h => h) (Or.inl ⟨by rfl, ?hyh0⟩) H0 ?resth0
          case hyh0 =>
            intro w' hSw
            have s1 := hSw
            go_simp
            try with_reducible rfl
          (try simp only [Act.put, List.getElem_toArray, List.getElem_cons_zero, List.setIfInBounds_toArray, List.set_cons_zero, List.set_cons_succ])
          refine' wpAnyH_take (i := 2) (v := _) rfl (by kernel_rfl) (by kernel_rfl) (by kernel_rfl) (fun _ _ _ h => h) (Or.inl ⟨by rfl, ?hyh2⟩) H0 ?resth2
          case hyh2 =>
            intro w' hSw
            have s1 := hSw
            go_simp
            try with_reducible rfl
          (try simp only [Act.put, List.getElem_toArray, List.getElem_cons_succ, List.getElem_cons_zero, List.setIfInBounds_toArray, List.set_cons_zero, List.set_cons_succ])
          refine' wpAnyH_take (i := 3) (v := _) rfl (by kernel_rfl) (by kernel_rfl) (by kernel_rfl) (fun _ _ _ h => h) (Or.inl ⟨by rfl, ?hyh3⟩) H0 ?resth3
          case hyh3 =>
            intro w' hSw
            have s1 := hSw
            go_simp
            try with_reducible rfl
          (try simp only [Act.put, List.getElem_toArray, List.getElem_cons_succ, List.getElem_cons_zero, List.setIfInBounds_toArray, List.set_cons_zero, List.set_cons_succ])
          refine' wpAnyH_take (i := 4) (v := _) rfl (by kernel_rfl) (by kernel_rfl) (by kernel_rfl) (fun _ _ _ h => h) (Or.inl ⟨by rfl, ?hyh4⟩) H0 ?resth4
          case hyh4 =>
            intro w' hSw
            have s1 := hSw
            go_simp
            try with_reducible rfl
          (try simp only [Act.put, List.getElem_toArray, List.getElem_cons_succ, List.getElem_cons_zero, List.setIfInBounds_toArray, List.set_cons_zero, List.set_cons_succ])
          refine' wpAnyH_take (i := 5) (v := _) rfl (by kernel_rfl) (by kernel_rfl) (by kernel_rfl) (fun _ _ _ h => h) (Or.inl ⟨by rfl, ?hyh5⟩) H0 ?resth5
          case hyh5 =>
            intro w' hSw
            have s1 := hSw
            go_simp
            try with_reducible rfl
          (try simp only [Act.put, List.getElem_toArray, List.getElem_cons_succ, List.getElem_cons_zero, List.setIfInBounds_toArray, List.set_cons_zero, List.set_cons_succ])
          refine' wpAnyH_take (i := 6) (v := _) rfl (by kernel_rfl) (by kernel_rfl) (by kernel_rfl) (fun _ _ _ h => h) (Or.inl ⟨by rfl, ?hyh6⟩) H0 ?resth6
          case hyh6 =>
            intro w' hSw
            have s1 := hSw
            go_simp
            try with_reducible rfl
          (try simp only [Act.put, List.getElem_toArray, List.getElem_cons_succ, List.getElem_cons_zero, List.setIfInBounds_toArray, List.set_cons_zero, List.set_cons_succ])
          refine wpAnyH_ready (rs := [1]) (by kernel_rfl) (by simp) (AllReadyH.cons rfl (fun K hK => ?_) AllReadyH.nil)
          go_simp
          refine (w7k.out _ (Chg.drewN [] w7 1)).mono ?_
          rintro e wy ⟨rfl, rfl⟩
          go_simp
          refine hK.out _ _ H0 (fun H1 => ?_)
          clear hK K
          refine' wpAnyH_take (i := 7) (v := _) rfl (by kernel_rfl) (by kernel_rfl) (by kernel_rfl) (fun _ _ _ h => h) (Or.inl ⟨by rfl, ?hyh7⟩) H1 ?resth7
          case hyh7 =>
            intro w' hSw
            have s1 := hSw
            go_simp
            try with_reducible rfl
          (try simp only [Act.put, List.getElem_toArray, List.getElem_cons_succ, List.getElem_cons_zero, List.setIfInBounds_toArray, List.set_cons_zero, List.set_cons_succ])
          refine wpAnyH_done (by kernel_rfl) ?_ _
          go_wp2_with fail
          go_roundw
          case rel => exact ⟨i + 1, _, _, _, rfl, by go_num, hlt, hLN, HST2⟩
          case measure => simp [intOf] <;> omega
        | false =>
          have KD := Lib.hid (show Calls Tryd.prog 30 #[.agg #[.bool false, .string nm, .string tx, .int .i64 LG]] w5 (DataOf w5 (ActV.data ⟨false, nm, tx, LG⟩)) from law_data ⟨false, nm, tx, LG⟩ w5 HOX.out.1)
          obtain ⟨d, hd⟩ : ∃ d, ActV.data ⟨false, nm, tx, LG⟩ = d := ⟨_, rfl⟩
          have hd5 : d.length ≤ 5000 := by rw [← hd, ActV.data, ActV.upto_length]; exact Nat.min_le_right _ _
          rw [hd] at KD
          clear hd
          go_wp2_with fail
          refine KD.out.mono ?_
          obtain ⟨dn, hdn⟩ : ∃ dn, d.length = dn := ⟨_, rfl⟩
          have HDN := Lib.hid hdn
          rintro e w6 ⟨da, dc, rfl, hdo, hdnew, C6⟩
          rw [hdn] at hdo hdnew hd5 ⊢
          clear hdn
          have HDO := Lib.hid hdo
          have HDNEW := Lib.hid hdnew
          have HC6 := Lib.hid C6
          have HC56 := Lib.hid C6
          have hdc : dn ≤ dc ∧ (da = none → dc = 0) := by obtain ⟨_, _, e, h, h2⟩ := ownsRow_slice hdo; cases e; exact ⟨h, fun h => (h2 h).2⟩
          have HDC := Lib.hid hdc
          have KL := Lib.hid (by
            have := ref_list d da dc w6 (ownsRow_src hdo) (by rw [HDN.out]; exact hdc.1) (by rw [HDN.out]; omega)
            rewrite [HDN.out] at this
            exact this)
          clear hdo hdnew C6 hdc
          go_wp2_with fail
          refine KL.out.mono ?_
          rintro e w7 h7
          obtain ⟨C7, al, cl, rfl, hol⟩ := listed_any (show Listed w6 (listO d) e w7 from h7)
          have hnl : ∀ k, (Value.slice al ((listO d).getD []).length cl).ownBlock = some k → w6.heap.size ≤ k := listedR_new h7 rfl
          obtain ⟨E0, hE0⟩ : ∃ E0 : Int, (if (listO d).isSome then (0 : Int) else 3) = E0 := ⟨_, rfl⟩
          rw [hE0]
          obtain ⟨LV, hLV⟩ : ∃ LV, (listO d).getD [] = LV := ⟨_, rfl⟩
          have HLO := Lib.hid hLV
          rw [hLV] at hol hnl ⊢
          obtain ⟨M, hM⟩ : ∃ M, LV.length = M := ⟨_, rfl⟩
          rw [hM] at hol hnl ⊢
          have HM := Lib.hid hM
          have HC7 := Lib.hid (HC6.out.trans C7 (by simp))
          have HC67 := Lib.hid C7
          have HOL0 := Lib.hid hol
          have HNL0 := Lib.hid hnl
          clear h7 hE0 hLV hM C7 hol hnl KL KD
          have HFW7 := Lib.hid (fun w' (C : Chg [] w7 w') => HFW.out w' (HC7.out.trans C (by simp)))
          have HOW7 := Lib.hid (fun w' (C : Chg [] w7 w') => HOW.out w' (HC7.out.trans C (by simp)))
          obtain ⟨Bq, hBq⟩ : ∃ Bq, decide (0 < M ∧ LN < 40) = Bq := ⟨_, rfl⟩
          have HBQ := Lib.hid hBq
          clear hBq
          have HX97 := Lib.hid ((HC7.out.block q9 (lt_of_block HX9.out) (by simp)).trans HX9.out)
          have HDL : Hid (∀ k, (Value.slice da dn dc).ownBlock = some k → w5.heap.size ≤ k ∧ k < w6.heap.size) := Lib.hid (fun k hk => ⟨HDNEW.out k hk, ownsRow_lt HDO.out k hk⟩)
          clear c90 c91 c92 c93 HOX HC6
          go_upto_region 16 with (fail)
          go_cut [74] (fun v w' => v = .bool Bq ∧ w7 = w')
          case first =>
            by_cases m0 : 0 < M
            · have m1 : (M : Int) > 0 := by omega
              by_cases l0 : LN < 40
              · have l1 : (LN : Int) < 40 := by omega
                have hb : Bq = true := by rw [← HBQ.out]; exact decide_eq_true ⟨m0, l0⟩
                clear m0 l0
                go_wp2_with fail
                go_meet
                case rel => exact ⟨by rw [hb], rfl⟩
              · have l1 : ¬ (LN : Int) < 40 := by omega
                have hb : Bq = false := by rw [← HBQ.out]; exact decide_eq_false (fun h => l0 h.2)
                clear m0 l0
                go_wp2_with fail
                go_meet
                case rel => exact ⟨by rw [hb], rfl⟩
            · have m1 : ¬ (M : Int) > 0 := by omega
              have hb : Bq = false := by rw [← HBQ.out]; exact decide_eq_false (fun h => m0 h.1)
              clear m0
              go_wp2_with fail
              go_meet
              case rel => exact ⟨by rw [hb], rfl⟩
          case rest =>
          obtain ⟨rfl, rfl⟩ := hcut
          go_upto_if 74 with (fail)
          go_cut [7] (fun v w' => ∃ (LN2 c2 : Nat) (ao2 : Option Addr), v = .slice ao2 LN2 c2 ∧ LN2 ≤ 41 ∧ Hid (Asked w w7 w' b bg F R' S' T ao2 LN2 c2))
          case first =>
            cases Bq with
            | false =>
              go_wp2_with fail
              go_meet
              case rel => exact ⟨LN, c', ao', rfl, hLN, Lib.hid ⟨HFW7.out _ (Chg.refl _ _), ⟨L, HLL.out, HOW7.out _ (Chg.refl _ _)⟩, [], Chg.refl _ _, by simp⟩⟩
            | true =>
              have hbq := of_decide_eq_true HBQ.out
              obtain ⟨M1, rfl⟩ : ∃ M1, M = M1 + 1 := ⟨M - 1, by omega⟩
              obtain ⟨gl, rfl⟩ := ownsRow_head HOL0.out (by omega)
              have HOL := Lib.hid HOL0.out
              have hlN := hbq.2
              have hclM : M1 + 1 ≤ cl := by obtain ⟨_, _, e, h, _⟩ := ownsRow_slice HOL0.out; cases e; exact h
              obtain ⟨fA, hfA⟩ : ∃ fA, LV[0]? = some fA := ⟨_, List.getElem?_eq_getElem (by rw [HM.out]; omega)⟩
              obtain ⟨fB, hfB⟩ : ∃ fB, LV[M1]? = some fB := ⟨_, List.getElem?_eq_getElem (by rw [HM.out]; omega)⟩
              obtain ⟨RA, hRA⟩ : ∃ RA, hashC fA = RA := ⟨_, rfl⟩
              obtain ⟨RB, hRB⟩ : ∃ RB, hashC fB = RB := ⟨_, rfl⟩
              have HLD0 := Lib.hid (fun (j : Nat) (fj : Nat → UInt8) (hj : LV[j]? = some fj) (w' : World) (h : w'.ownsRow 0 32 32 (.slice (some ⟨gl, 0, none⟩) (M1 + 1) cl) (M1 + 1) (hvs LV)) => by
                have hh := HM.out
                rewrite [← hh] at h
                exact load_of_list h rfl hj)
              have HLD1 := Lib.hid (fun (w' : World) (h : w'.ownsRow 0 32 32 (.slice (some ⟨gl, 0, none⟩) (M1 + 1) cl) (M1 + 1) (hvs LV)) => by
                have := HLD0.out 0 fA hfA w' h
                rewrite [hRA, Nat.zero_mul] at this
                exact this)
              have HLD2 := Lib.hid (fun (w' : World) (h : w'.ownsRow 0 32 32 (.slice (some ⟨gl, 0, none⟩) (M1 + 1) cl) (M1 + 1) (hvs LV)) => by
                have := HLD0.out M1 fB hfB w' h
                rewrite [hRB] at this
                exact this)
              have HTW2 := Lib.hid (fun w' => by
                have := run_two_hashes fA fB w'
                rewrite [hashV, hashV, hRA, hRB] at this
                exact this)
              have HLAB : Hid ((RA ++ RB).toList.length = 2 * 32) := Lib.hid (by rw [Array.length_toList, Array.size_append, ← hRA, ← hRB, hashC_size, hashC_size])
              have HRAB : Hid ((RA ++ RB).toList = hvs [fA, fB]) := Lib.hid (by rw [Array.toList_append, ← hRA, ← hRB]; simp [hvs])
              have HONE : Hid (∀ u ∈ (RA ++ RB).toList, u.oneCell' = true) := Lib.hid (by rw [HRAB.out]; exact hvs_one _)
              have HW1 : Hid (IntKind.i64.wrap (((M1 + 1 : Nat) : Int) - 1) = (M1 : Int)) := Lib.hid (by rw [IntKind.wrap_i64]; have := HM.out; have h2 := hbq.1; have h3 : M1 ≤ 5000 := listO_len HLO.out HM.out; omega)
              have HNB : Hid (¬ ((M1 : Int) + 1 ≤ (M1 : Int))) := Lib.hid (by omega)
              have HWM : Hid (IntKind.i64.wrap (M1 : Int) = (M1 : Int)) := Lib.hid (by rw [IntKind.wrap_i64]; have h3 : M1 ≤ 5000 := listO_len HLO.out HM.out; omega)
              have HNL : Hid (∀ k, (Value.slice (some ⟨gl, 0, none⟩) (M1 + 1) cl).ownBlock = some k → (Value.slice ao' LN c').ownBlock ≠ some k) := Lib.hid (fun k hk hm => by
                have h1 := HNL0.out k hk
                have h2 := ownsRow_lt (HOW.out _ (Chg.refl _ _)).own k hm
                have h3 := HC56.out.size
                omega)
              have HLT7 : Hid (∀ k, (Value.slice ao' LN c').ownBlock = some k → k < w7.heap.size) := Lib.hid (ownsRow_lt (HOW7.out _ (Chg.refl _ _)).own)
              obtain ⟨ip, hip, hipz, hips, hipb⟩ := info_parts infoHashU
              have hzs : (Value.agg (hashC fun _ => 0)).cells.size = 32 := hashC_size _
              clear hfA hfB hRA hRB hbq HOL0
              go_upto_region 17 with (fail)
              refine wp_region_held_drew (S := fun w' => w'.ownsRow 0 32 32 (.slice (some ⟨gl, 0, none⟩) (M1 + 1) cl) (M1 + 1) (hvs LV)) (by kernel_rfl) ((ownsRow_chg HOL.out (Chg.drewN [] w7 1) (by simp))) (fun H0 => ?_)
              refine' wpAnyH_take (i := 0) (v := _) rfl (by kernel_rfl) (by kernel_rfl) (by kernel_rfl) (fun _ _ _ h => h) (Or.inl ⟨by rfl, ?hyp0⟩) H0 ?restp0
              case hyp0 =>
                intro w' hSw
                have s1 := hSw
                go_simp
                try with_reducible rfl
              (try simp only [Act.put, List.getElem_toArray, List.getElem_cons_zero, List.setIfInBounds_toArray, List.set_cons_zero, List.set_cons_succ])
              refine' wpAnyH_take (i := 1) (v := _) rfl (by kernel_rfl) (by kernel_rfl) (by kernel_rfl) (fun _ _ _ h => h) (Or.inl ⟨by rfl, ?hyp1⟩) H0 ?restp1
              case hyp1 =>
                intro w' hSw
                have s1 := hSw
                go_simp
                try with_reducible rfl
              (try simp only [Act.put, List.getElem_toArray, List.getElem_cons_succ, List.getElem_cons_zero, List.setIfInBounds_toArray, List.set_cons_zero, List.set_cons_succ])
              refine' wpAnyH_take (i := 2) (v := _) rfl (by kernel_rfl) (by kernel_rfl) (by kernel_rfl) (fun _ _ _ h => h) (Or.inl ⟨by rfl, ?hyp2⟩) H0 ?restp2
              case hyp2 =>
                intro w' hSw
                have s1 := hSw
                go_simp
                try with_reducible rfl
              (try simp only [Act.put, List.getElem_toArray, List.getElem_cons_succ, List.getElem_cons_zero, List.setIfInBounds_toArray, List.set_cons_zero, List.set_cons_succ])
              refine' wpAnyH_take (i := 3) (v := .agg RA) rfl (by kernel_rfl) (by kernel_rfl) (by kernel_rfl) (fun _ _ _ h => h) (Or.inl ⟨by rfl, ?hyp3⟩) H0 ?restp3
              case hyp3 =>
                intro w' hSw
                have s1 := hSw
                have hl := (show (Instr.loadAt 32 (.pointer (some ⟨gl, 0, none⟩))).run Tryd.prog w' = .ok (.agg RA) w' from by
                  have := HLD1.out w' s1
                  exact this)
                simp [execOp, Act.eval, hl, Result.andThen]
              (try simp only [Act.put, List.getElem_toArray, List.getElem_cons_succ, List.getElem_cons_zero, List.setIfInBounds_toArray, List.set_cons_zero, List.set_cons_succ])
              refine' wpAnyH_take (i := 4) (v := _) rfl (by kernel_rfl) (by kernel_rfl) (by kernel_rfl) (fun _ _ _ h => h) (Or.inl ⟨by rfl, ?hyp4⟩) H0 ?restp4
              case hyp4 =>
                intro w' hSw
                have s1 := hSw
                go_simp
                try with_reducible rfl
              (try simp only [Act.put, List.getElem_toArray, List.getElem_cons_succ, List.getElem_cons_zero, List.setIfInBounds_toArray, List.set_cons_zero, List.set_cons_succ])
              refine' wpAnyH_take (i := 5) (v := _) rfl (by kernel_rfl) (by kernel_rfl) (by kernel_rfl) (fun _ _ _ h => h) (Or.inl ⟨by rfl, ?hyp5⟩) H0 ?restp5
              case hyp5 =>
                intro w' hSw
                have s1 := hSw
                go_simp
                try with_reducible rfl
              (try simp only [Act.put, List.getElem_toArray, List.getElem_cons_succ, List.getElem_cons_zero, List.setIfInBounds_toArray, List.set_cons_zero, List.set_cons_succ])
              refine' wpAnyH_take (i := 6) (v := _) rfl (by kernel_rfl) (by kernel_rfl) (by kernel_rfl) (fun _ _ _ h => h) (Or.inl ⟨by rfl, ?hyp6⟩) H0 ?restp6
              case hyp6 =>
                intro w' hSw
                have s1 := hSw
                go_simp
                try with_reducible rfl
              (try simp only [Act.put, List.getElem_toArray, List.getElem_cons_succ, List.getElem_cons_zero, List.setIfInBounds_toArray, List.set_cons_zero, List.set_cons_succ])
              refine' wpAnyH_take (i := 7) (v := .int .i64 (M1 : Int)) rfl (by kernel_rfl) (by kernel_rfl) (by kernel_rfl) (fun _ _ _ h => h) (Or.inl ⟨by rfl, ?hyp7⟩) H0 ?restp7
              case hyp7 =>
                intro w' hSw
                have s1 := hSw
                go_simp
                exact HWM.out
              (try simp only [Act.put, List.getElem_toArray, List.getElem_cons_succ, List.getElem_cons_zero, List.setIfInBounds_toArray, List.set_cons_zero, List.set_cons_succ])
              refine' wpAnyH_take (i := 8) (v := .pointer (some ⟨gl, M1 * 32, none⟩)) rfl (by kernel_rfl) (by kernel_rfl) (by kernel_rfl) (fun _ _ _ h => h) (Or.inl ⟨by rfl, ?hyp8⟩) H0 ?restp8
              case hyp8 =>
                intro w' hSw
                have s1 := hSw
                go_simp
                exact fun hb => absurd hb HNB.out
              (try simp only [Act.put, List.getElem_toArray, List.getElem_cons_succ, List.getElem_cons_zero, List.setIfInBounds_toArray, List.set_cons_zero, List.set_cons_succ])
              refine' wpAnyH_take (i := 9) (v := .agg RB) rfl (by kernel_rfl) (by kernel_rfl) (by kernel_rfl) (fun _ _ _ h => h) (Or.inl ⟨by rfl, ?hyp9⟩) H0 ?restp9
              case hyp9 =>
                intro w' hSw
                have s1 := hSw
                have hl := HLD2.out w' s1
                simp [execOp, Act.eval, hl, Result.andThen]
              (try simp only [Act.put, List.getElem_toArray, List.getElem_cons_succ, List.getElem_cons_zero, List.setIfInBounds_toArray, List.set_cons_zero, List.set_cons_succ])
              refine wpAnyH_ready (rs := [10]) (by kernel_rfl) (by simp) (AllReadyH.cons rfl (fun K hK => ?_) AllReadyH.nil)
              refine step_value rfl (.slice (some ⟨w7.heap.size, 0, none⟩) 2 2) (w7.drew.alloc (.cells (RA ++ RB) 32)) (by have h := HTW2.out w7.drew; simp [execOp, Act.eval, h, Result.andThen]) ?_
              have CA8 : Chg [] w7 (w7.drew.alloc (.cells (RA ++ RB) 32)) := (Chg.drewN [] w7 1).trans (Chg.alloc [] w7.drew _) (by simp)
              refine hK.out _ _ (ownsRow_chg HOL.out CA8 (by simp)) (fun H1 => ?_)
              clear hK K
              refine wpAnyH_ready (rs := [11]) (by kernel_rfl) (by simp) (AllReadyH.cons rfl (fun K hK => ?_) AllReadyH.nil)
              refine step_append_x _ rfl _ _ 27 rfl 32 ip _ 32 32 Tryd.underlying27 hip hipz hips hipb hzs (by decide) (.slice ao' LN c') LN (hvs L) rfl (HOW7.out _ CA8).own (some ⟨w7.heap.size, 0, none⟩) 2 2 (RA ++ RB).toList rfl HLAB.out (src_row w7.drew (RA ++ RB) 32 (0, 0)) (fun h => by cases h) HONE.out (by unfold maxLen; omega) (by omega) ?_
              intro ao8 c8 w8 hown8 hgr8 hblk8
              have HMID : Hid (Asked w w7 w8 b bg F R' S' T ao8 (LN + 2) c8) := Lib.hid (asked_grown (HFW7.out _ CA8) (HOW7.out _ CA8) HLT7.out CA8 hown8 hgr8 hblk8 HRAB.out HLL.out)
              have hlk8 : w8.ownsRow 0 32 32 (.slice (some ⟨gl, 0, none⟩) (M1 + 1) cl) (M1 + 1) (hvs LV) := ownsRow_chg (ownsRow_chg HOL.out CA8 (by simp)) (Chg.grown hgr8 (S := (Value.slice ao' LN c').ownBlock.toList) (fun x hx => .inl (by simp [hx]))) (fun k hk hm => HNL.out k hk (by simpa using hm))
              clear hown8 hgr8 hblk8
              refine hK.out _ _ hlk8 (fun H2 => ?_)
              clear hK K
              refine' wpAnyH_take (i := 12) (v := _) rfl (by kernel_rfl) (by kernel_rfl) (by kernel_rfl) (fun _ _ _ h => h) (Or.inl ⟨by rfl, ?hyp12⟩) H2 ?restp12
              case hyp12 =>
                intro w' hSw
                have s1 := hSw
                go_simp
                try with_reducible rfl
              (try simp only [Act.put, List.getElem_toArray, List.getElem_cons_succ, List.getElem_cons_zero, List.setIfInBounds_toArray, List.set_cons_zero, List.set_cons_succ])
              refine wpAnyH_done (by kernel_rfl) ?_ _
              clear H0 H1 H2 hip hipz hips hipb hzs
              go_wp2_with fail
              go_meet
              case rel => exact ⟨LN + 2, c8, ao8, rfl, by omega, HMID⟩
          case rest =>
          obtain ⟨LN2, c2, ao2, rfl, hLN2, HASK⟩ := hcut
          obtain ⟨hfsc, ⟨L2, hL2, hownc⟩, U, CU, hU⟩ := HASK.out
          have HFC := Lib.hid hfsc
          have HL2 := Lib.hid hL2
          have HOC := Lib.hid hownc
          have hxc := (CU.block q9 (lt_of_block HX97.out) (fun hm => by
            obtain ⟨e, t, h1, h2⟩ := hU q9 hm
            rw [HX97.out] at h1
            cases h1
            cases h2)).trans HX97.out
          have HXC := Lib.hid hxc
          have hcn : wc.cell? ⟨q9, 1, none⟩ = some (.string nm) := by rw [cell_of_row _ _ _ _ _ _ hxc]; rfl
          have HDC0 : Hid (OwnSt w wc S' T 5 1 (.slice da dn dc) dn (bvs d)) := Lib.hid (by
            have ho7 := ownsRow_chg HDO.out HC67.out (by simp)
            refine ⟨ownsRow_chg ho7 CU (fun k hk hm => ?_), fun k hk => (HFW.out _ (Chg.refl _ _)).fresh (HDL.out k hk).1⟩
            obtain ⟨e, t, h1, h2⟩ := hU k hm
            rw [h2] at h1
            exact ownsRow_ne ho7 h1 (by decide) hk)
          clear hfsc hL2 hownc CU hU hxc HASK
          have hRi : F.length ≤ i := HFI.out
          by_cases hbig : 4096 < dn
          ·
            have KA := Lib.hid (by
              have := blk_add_long b F S' nm d da dc wc (HL.out.chg HFC.out.chg (by simp)) HFC.out.fin (ownsRow_src HDC0.out.own) (by rw [HDN.out]; exact HDC.out.1) (by rw [HDN.out]; exact hbig)
              rewrite [HDN.out] at this
              exact this)
            go_wp2_with fail
            refine KA.out.mono ?_
            rintro e w9 ⟨rfl, S9, hf9, C9, hS9⟩
            have KRA := Lib.hid (by
              have := ref_add_long bg R' nm d da dc T w9 (HFC.out.ref.chg C9 (fun k hk hm => HFC.out.apart k hm hk)) (ownsRow_src (ownsRow_chg HDC0.out.own C9 (fun k hk => (HDC0.out.new k hk).2.1))) (by rw [HDN.out]; exact HDC.out.1) (by rw [HDN.out]; exact hbig) (by rw [HDN.out]; omega)
              rewrite [HDN.out] at this
              exact this)
            have HF9 := Lib.hid hf9
            have HC9 := Lib.hid C9
            have HS9 := Lib.hid hS9
            have hcn9 : w9.cell? ⟨q9, 1, none⟩ = some (.string nm) := by rw [cell_of_row _ _ _ _ _ _ ((C9.block q9 (lt_of_block HXC.out) HQ9.out.2.1).trans HXC.out)]; rfl
            clear hf9 C9 hS9 KA hcn
            go_wp2_with fail
            refine KRA.out.mono ?_
            rintro e w10 ⟨rfl, hr10, C10⟩
            have hto : RefTo w9 bg R' T w10 := ⟨T, hr10, C10.mono (by simp), fun k hk => .inl hk⟩
            obtain ⟨T10, hfs10, B10⟩ := HFC.out.both HF9.out HC9.out HS9.out hto HFC.out.same
            have HF10 := Lib.hid hfs10
            have HO10 := Lib.hid (HOC.out.both B10)
            have HD10 := Lib.hid (HDC0.out.both B10)
            clear hto hfs10 B10 KRA hcn9 hr10 C10
            have hd50 : dn ≤ 5000 := hd5
            go_wp2_with fail
            go_loopw [14] (fun v wr => ∃ (k : Nat) (ys : List UInt8), v = .int .i64 (k : Int) ∧ k ≤ dn ∧ Hid (wr.ownsRow 0 5 1 (.slice da dn dc) dn (bvs ys)) ∧ Hid (Chg (Value.slice da dn dc).ownBlock.toList w10 wr)) (fun v _ => dn - (intOf v).toNat)
            case atStart => exact ⟨0, d, rfl, Nat.zero_le _, Lib.hid HD10.out.own, Lib.hid (Chg.refl _ _)⟩
            case round =>
              obtain ⟨k, ys, rfl, hk, HO, HC⟩ := hrel
              by_cases hkd : k < dn
              · have e2 : (k : Int) < dn := Int.ofNat_lt.2 hkd
                have e3 : (0 : Int) ≤ k := Int.natCast_nonneg _
                obtain ⟨g, rfl⟩ := ownsRow_head HO.out (by omega)
                have hkc2 : k < dc := by have := HDC.out.1; omega
                obtain ⟨y, hy⟩ : ∃ y, ys[k]? = some y := ⟨_, List.getElem?_eq_getElem (by have := HO.out.1; rewrite [bvs_length] at this; omega)⟩
                have hyc : (bvs ys)[k]? = some (bv y) := by unfold bvs; rw [List.getElem?_map, hy]; rfl
                obtain ⟨hc0, hf1⟩ := ownsRow_cell1 HO.out hyc
                have hc1 : wr.cell? ⟨g, k, none⟩ = some (.int .u8 (y.toNat : Int)) := hc0
                clear hc0
                have hxr := xor85 y
                have ho2 := ownsRow_set1 HO.out (k := k) (bv (y ^^^ 85))
                rw [bvs_set] at ho2
                have HO2 := Lib.hid ho2
                have HC2 : Hid (Chg (Value.slice (some ⟨g, 0, none⟩) dn dc).ownBlock.toList w10 (wr.setCell ⟨g, k, none⟩ (bv (y ^^^ 85)))) := Lib.hid (HC.out.trans (Chg.setCell (S := (Value.slice (some ⟨g, 0, none⟩) dn dc).ownBlock.toList) wr ⟨g, k, none⟩ (bv (y ^^^ 85)) (.inl (by simp [Value.ownBlock]))) (fun x hx => .inl hx))
                clear ho2 hyc hy
                go_wp2_with fail
                go_roundw
                case rel => exact ⟨k + 1, ys.set k (y ^^^ 85), by go_num, hkd, HO2, HC2⟩
                case measure => simp [intOf] <;> omega
              · have e2 : ¬ (k : Int) < dn := fun h => hkd (Int.ofNat_lt.1 h)
                have HKE := Lib.hid (show FindSt w wr b bg (F) (R') S9 T10 from HF10.out.keep HC.out (fun x hx => ⟨(HD10.out.new x (by simpa using hx)).2, (HD10.out.new x (by simpa using hx)).1⟩))
                have HKO := Lib.hid (HO10.out.keep HC.out (fun x hx hm => by
                  have hm' : (Value.slice da dn dc).ownBlock = some x := by simpa using hm
                  obtain ⟨e, hc⟩ := row_block HD10.out.own hm'
                  exact ownsRow_ne HO10.out.own hc (by decide) hx))
                clear HO HC
                obtain ⟨N2, hN2⟩ : ∃ N2, (F).length = N2 := ⟨_, rfl⟩
                have HFZ := Lib.hid (fun w' (C : Chg [] wr w') => (HKE.out).keep0 C)
                have HOZ := Lib.hid (fun w' (C : Chg [] wr w') => (HKO.out).keep0 C)
                obtain ⟨aR, cR, hbR⟩ : ∃ aR cR, wr.heap[bg]? = some (.cells #[.slice aR N2 cR] 48 (0, 0)) := by
                  obtain ⟨aR, cR, _, h1, _⟩ := (HFZ.out _ (Chg.refl _ _)).ref
                  rw [← (HFZ.out _ (Chg.refl _ _)).same.length, hN2] at h1
                  exact ⟨aR, cR, h1⟩
                have wrc := Lib.hid (fun w' (C : Chg [] wr w') => show w'.cell? ⟨bg, 0, none⟩ = some (.slice aR N2 cR) by
                  rw [cell_of_row _ _ _ _ _ _ ((C.block bg (lt_of_block hbR) (by simp)).trans hbR)]; rfl)
                have wrk := Lib.hid (fun w' (C : Chg [] wr w') => by
                  obtain ⟨_, _, bf, bp, fv, pv, HI, _⟩ := (HFZ.out w' C).fin
                  have := blk_len b bf bp (F) _ fv pv S9 w' HI
                  rewrite [hN2] at this
                  exact this)
                have HN2 := Lib.hid hN2
                have HST2 : Hid (LoopSt w (wr.drew) b bg (i + 1) ao2 LN2 c2) := Lib.hid ⟨F, R', S9, T10, L2, HFZ.out _ (Chg.drewN [] wr 1), by omega, HL2.out, HOZ.out _ (Chg.drewN [] wr 1)⟩
                clear hN2 hbR
                go_wp2_with fail
                refine wp_region_held_drew (S := fun w' => w'.cell? ⟨bg, 0, none⟩ = some (.slice aR N2 cR)) (by kernel_rfl) (((wrc.out _ (Chg.drewN [] wr 1)))) (fun H0 => ?_)
                refine' wpAnyH_take (i := 0) (v := _) rfl (by kernel_rfl) (by kernel_rfl) (by kernel_rfl) (fun _ _ _ h => h) (Or.inl ⟨by rfl, ?hyb0⟩) H0 ?restb0
                case hyb0 =>
                  intro w' hSw
                  have s1 := hSw
                  go_simp
                  try with_reducible rfl
                (try simp only [Act.put, List.getElem_toArray, List.getElem_cons_zero, List.setIfInBounds_toArray, List.set_cons_zero, List.set_cons_succ])
                refine' wpAnyH_take (i := 2) (v := _) rfl (by kernel_rfl) (by kernel_rfl) (by kernel_rfl) (fun _ _ _ h => h) (Or.inl ⟨by rfl, ?hyb2⟩) H0 ?restb2
                case hyb2 =>
                  intro w' hSw
                  have s1 := hSw
                  go_simp
                  try with_reducible rfl
                (try simp only [Act.put, List.getElem_toArray, List.getElem_cons_succ, List.getElem_cons_zero, List.setIfInBounds_toArray, List.set_cons_zero, List.set_cons_succ])
                refine' wpAnyH_take (i := 3) (v := _) rfl (by kernel_rfl) (by kernel_rfl) (by kernel_rfl) (fun _ _ _ h => h) (Or.inl ⟨by rfl, ?hyb3⟩) H0 ?restb3
                case hyb3 =>
                  intro w' hSw
                  have s1 := hSw
                  go_simp
                  try with_reducible rfl
                (try simp only [Act.put, List.getElem_toArray, List.getElem_cons_succ, List.getElem_cons_zero, List.setIfInBounds_toArray, List.set_cons_zero, List.set_cons_succ])
                refine' wpAnyH_take (i := 4) (v := _) rfl (by kernel_rfl) (by kernel_rfl) (by kernel_rfl) (fun _ _ _ h => h) (Or.inl ⟨by rfl, ?hyb4⟩) H0 ?restb4
                case hyb4 =>
                  intro w' hSw
                  have s1 := hSw
                  go_simp
                  try with_reducible rfl
                (try simp only [Act.put, List.getElem_toArray, List.getElem_cons_succ, List.getElem_cons_zero, List.setIfInBounds_toArray, List.set_cons_zero, List.set_cons_succ])
                refine' wpAnyH_take (i := 5) (v := _) rfl (by kernel_rfl) (by kernel_rfl) (by kernel_rfl) (fun _ _ _ h => h) (Or.inl ⟨by rfl, ?hyb5⟩) H0 ?restb5
                case hyb5 =>
                  intro w' hSw
                  have s1 := hSw
                  go_simp
                  try with_reducible rfl
                (try simp only [Act.put, List.getElem_toArray, List.getElem_cons_succ, List.getElem_cons_zero, List.setIfInBounds_toArray, List.set_cons_zero, List.set_cons_succ])
                refine' wpAnyH_take (i := 6) (v := _) rfl (by kernel_rfl) (by kernel_rfl) (by kernel_rfl) (fun _ _ _ h => h) (Or.inl ⟨by rfl, ?hyb6⟩) H0 ?restb6
                case hyb6 =>
                  intro w' hSw
                  have s1 := hSw
                  go_simp
                  try with_reducible rfl
                (try simp only [Act.put, List.getElem_toArray, List.getElem_cons_succ, List.getElem_cons_zero, List.setIfInBounds_toArray, List.set_cons_zero, List.set_cons_succ])
                refine wpAnyH_ready (rs := [1]) (by kernel_rfl) (by simp) (AllReadyH.cons rfl (fun K hK => ?_) AllReadyH.nil)
                go_simp
                refine (wrk.out _ (Chg.drewN [] wr 1)).mono ?_
                rintro e wy ⟨rfl, rfl⟩
                go_simp
                refine hK.out _ _ H0 (fun H1 => ?_)
                clear hK K
                refine' wpAnyH_take (i := 7) (v := _) rfl (by kernel_rfl) (by kernel_rfl) (by kernel_rfl) (fun _ _ _ h => h) (Or.inl ⟨by rfl, ?hyb7⟩) H1 ?restb7
                case hyb7 =>
                  intro w' hSw
                  have s1 := hSw
                  go_simp
                  try with_reducible rfl
                (try simp only [Act.put, List.getElem_toArray, List.getElem_cons_succ, List.getElem_cons_zero, List.setIfInBounds_toArray, List.set_cons_zero, List.set_cons_succ])
                refine wpAnyH_done (by kernel_rfl) ?_ _
                go_wp2_with fail
                go_roundw
                case rel => exact ⟨i + 1, _, _, _, rfl, by go_num, hlt, hLN2, HST2⟩
                case measure => simp [intOf] <;> omega
          ·
            have KA := Lib.hid (by
              have := blk_add b F S' nm d da dc wc (HL.out.chg HFC.out.chg (by simp)) HFC.out.fin (by omega) (ownsRow_src HDC0.out.own) (by rw [HDN.out]; exact HDC.out.1) HDC.out.2 (fun a ha => by
                subst ha
                exact (HDC0.out.new _ rfl).2.1) (by rw [HDN.out]; omega)
              rewrite [HDN.out] at this
              exact this)
            go_wp2_with fail
            refine KA.out.mono ?_
            rintro e w9 ⟨rfl, S9, hf9, C9, hS9⟩
            have KRA := Lib.hid (by
              have := ref_add bg R' nm d da dc T w9 (HFC.out.ref.chg C9 (fun k hk hm => HFC.out.apart k hm hk)) (ownsRow_src (ownsRow_chg HDC0.out.own C9 (fun k hk => (HDC0.out.new k hk).2.1))) (by rw [HDN.out]; exact HDC.out.1) HDC.out.2 (by rw [HDN.out]; omega) (by have := HFC.out.same.length; omega) (fun a ha hab => by
                subst ha
                exact (HDC0.out.new _ rfl).2.2 (by rw [hab]; exact HFC.out.ref.own))
              rewrite [HDN.out] at this
              exact this)
            have HF9 := Lib.hid hf9
            have HC9 := Lib.hid C9
            have HS9 := Lib.hid hS9
            have hcn9 : w9.cell? ⟨q9, 1, none⟩ = some (.string nm) := by rw [cell_of_row _ _ _ _ _ _ ((C9.block q9 (lt_of_block HXC.out) HQ9.out.2.1).trans HXC.out)]; rfl
            clear hf9 C9 hS9 KA hcn
            go_wp2_with fail
            refine KRA.out.mono ?_
            rintro e w10 ⟨rfl, hto⟩
            obtain ⟨T10, hfs10, B10⟩ := HFC.out.both HF9.out HC9.out HS9.out hto (HFC.out.same.add nm d)
            have HF10 := Lib.hid hfs10
            have HO10 := Lib.hid (HOC.out.both B10)
            have HD10 := Lib.hid (HDC0.out.both B10)
            clear hto hfs10 B10 KRA hcn9
            have hd50 : dn ≤ 5000 := hd5
            go_wp2_with fail
            go_loopw [14] (fun v wr => ∃ (k : Nat) (ys : List UInt8), v = .int .i64 (k : Int) ∧ k ≤ dn ∧ Hid (wr.ownsRow 0 5 1 (.slice da dn dc) dn (bvs ys)) ∧ Hid (Chg (Value.slice da dn dc).ownBlock.toList w10 wr)) (fun v _ => dn - (intOf v).toNat)
            case atStart => exact ⟨0, d, rfl, Nat.zero_le _, Lib.hid HD10.out.own, Lib.hid (Chg.refl _ _)⟩
            case round =>
              obtain ⟨k, ys, rfl, hk, HO, HC⟩ := hrel
              by_cases hkd : k < dn
              · have e2 : (k : Int) < dn := Int.ofNat_lt.2 hkd
                have e3 : (0 : Int) ≤ k := Int.natCast_nonneg _
                obtain ⟨g, rfl⟩ := ownsRow_head HO.out (by omega)
                have hkc2 : k < dc := by have := HDC.out.1; omega
                obtain ⟨y, hy⟩ : ∃ y, ys[k]? = some y := ⟨_, List.getElem?_eq_getElem (by have := HO.out.1; rewrite [bvs_length] at this; omega)⟩
                have hyc : (bvs ys)[k]? = some (bv y) := by unfold bvs; rw [List.getElem?_map, hy]; rfl
                obtain ⟨hc0, hf1⟩ := ownsRow_cell1 HO.out hyc
                have hc1 : wr.cell? ⟨g, k, none⟩ = some (.int .u8 (y.toNat : Int)) := hc0
                clear hc0
                have hxr := xor85 y
                have ho2 := ownsRow_set1 HO.out (k := k) (bv (y ^^^ 85))
                rw [bvs_set] at ho2
                have HO2 := Lib.hid ho2
                have HC2 : Hid (Chg (Value.slice (some ⟨g, 0, none⟩) dn dc).ownBlock.toList w10 (wr.setCell ⟨g, k, none⟩ (bv (y ^^^ 85)))) := Lib.hid (HC.out.trans (Chg.setCell (S := (Value.slice (some ⟨g, 0, none⟩) dn dc).ownBlock.toList) wr ⟨g, k, none⟩ (bv (y ^^^ 85)) (.inl (by simp [Value.ownBlock]))) (fun x hx => .inl hx))
                clear ho2 hyc hy
                go_wp2_with fail
                go_roundw
                case rel => exact ⟨k + 1, ys.set k (y ^^^ 85), by go_num, hkd, HO2, HC2⟩
                case measure => simp [intOf] <;> omega
              · have e2 : ¬ (k : Int) < dn := fun h => hkd (Int.ofNat_lt.1 h)
                have HKE := Lib.hid (show FindSt w wr b bg (Fadd F nm d) (insF (Fdel R' nm) (nm, d)) S9 T10 from HF10.out.keep HC.out (fun x hx => ⟨(HD10.out.new x (by simpa using hx)).2, (HD10.out.new x (by simpa using hx)).1⟩))
                have HKO := Lib.hid (HO10.out.keep HC.out (fun x hx hm => by
                  have hm' : (Value.slice da dn dc).ownBlock = some x := by simpa using hm
                  obtain ⟨e, hc⟩ := row_block HD10.out.own hm'
                  exact ownsRow_ne HO10.out.own hc (by decide) hx))
                clear HO HC
                obtain ⟨N2, hN2⟩ : ∃ N2, (Fadd F nm d).length = N2 := ⟨_, rfl⟩
                have HFZ := Lib.hid (fun w' (C : Chg [] wr w') => (HKE.out).keep0 C)
                have HOZ := Lib.hid (fun w' (C : Chg [] wr w') => (HKO.out).keep0 C)
                obtain ⟨aR, cR, hbR⟩ : ∃ aR cR, wr.heap[bg]? = some (.cells #[.slice aR N2 cR] 48 (0, 0)) := by
                  obtain ⟨aR, cR, _, h1, _⟩ := (HFZ.out _ (Chg.refl _ _)).ref
                  rw [← (HFZ.out _ (Chg.refl _ _)).same.length, hN2] at h1
                  exact ⟨aR, cR, h1⟩
                have wrc := Lib.hid (fun w' (C : Chg [] wr w') => show w'.cell? ⟨bg, 0, none⟩ = some (.slice aR N2 cR) by
                  rw [cell_of_row _ _ _ _ _ _ ((C.block bg (lt_of_block hbR) (by simp)).trans hbR)]; rfl)
                have wrk := Lib.hid (fun w' (C : Chg [] wr w') => by
                  obtain ⟨_, _, bf, bp, fv, pv, HI, _⟩ := (HFZ.out w' C).fin
                  have := blk_len b bf bp (Fadd F nm d) _ fv pv S9 w' HI
                  rewrite [hN2] at this
                  exact this)
                have HN2 := Lib.hid hN2
                have HST2 : Hid (LoopSt w (wr.drew) b bg (i + 1) ao2 LN2 c2) := Lib.hid ⟨Fadd F nm d, insF (Fdel R' nm) (nm, d), S9, T10, L2, HFZ.out _ (Chg.drewN [] wr 1), by have := Fadd_len F nm d; omega, HL2.out, HOZ.out _ (Chg.drewN [] wr 1)⟩
                clear hN2 hbR
                go_wp2_with fail
                refine wp_region_held_drew (S := fun w' => w'.cell? ⟨bg, 0, none⟩ = some (.slice aR N2 cR)) (by kernel_rfl) (((wrc.out _ (Chg.drewN [] wr 1)))) (fun H0 => ?_)
                refine' wpAnyH_take (i := 0) (v := _) rfl (by kernel_rfl) (by kernel_rfl) (by kernel_rfl) (fun _ _ _ h => h) (Or.inl ⟨by rfl, ?hys0⟩) H0 ?rests0
                case hys0 =>
                  intro w' hSw
                  have s1 := hSw
                  go_simp
                  try with_reducible rfl
                (try simp only [Act.put, List.getElem_toArray, List.getElem_cons_zero, List.setIfInBounds_toArray, List.set_cons_zero, List.set_cons_succ])
                refine' wpAnyH_take (i := 2) (v := _) rfl (by kernel_rfl) (by kernel_rfl) (by kernel_rfl) (fun _ _ _ h => h) (Or.inl ⟨by rfl, ?hys2⟩) H0 ?rests2
                case hys2 =>
                  intro w' hSw
                  have s1 := hSw
                  go_simp
                  try with_reducible rfl
                (try simp only [Act.put, List.getElem_toArray, List.getElem_cons_succ, List.getElem_cons_zero, List.setIfInBounds_toArray, List.set_cons_zero, List.set_cons_succ])
                refine' wpAnyH_take (i := 3) (v := _) rfl (by kernel_rfl) (by kernel_rfl) (by kernel_rfl) (fun _ _ _ h => h) (Or.inl ⟨by rfl, ?hys3⟩) H0 ?rests3
                case hys3 =>
                  intro w' hSw
                  have s1 := hSw
                  go_simp
                  try with_reducible rfl
                (try simp only [Act.put, List.getElem_toArray, List.getElem_cons_succ, List.getElem_cons_zero, List.setIfInBounds_toArray, List.set_cons_zero, List.set_cons_succ])
                refine' wpAnyH_take (i := 4) (v := _) rfl (by kernel_rfl) (by kernel_rfl) (by kernel_rfl) (fun _ _ _ h => h) (Or.inl ⟨by rfl, ?hys4⟩) H0 ?rests4
                case hys4 =>
                  intro w' hSw
                  have s1 := hSw
                  go_simp
                  try with_reducible rfl
                (try simp only [Act.put, List.getElem_toArray, List.getElem_cons_succ, List.getElem_cons_zero, List.setIfInBounds_toArray, List.set_cons_zero, List.set_cons_succ])
                refine' wpAnyH_take (i := 5) (v := _) rfl (by kernel_rfl) (by kernel_rfl) (by kernel_rfl) (fun _ _ _ h => h) (Or.inl ⟨by rfl, ?hys5⟩) H0 ?rests5
                case hys5 =>
                  intro w' hSw
                  have s1 := hSw
                  go_simp
                  try with_reducible rfl
                (try simp only [Act.put, List.getElem_toArray, List.getElem_cons_succ, List.getElem_cons_zero, List.setIfInBounds_toArray, List.set_cons_zero, List.set_cons_succ])
                refine' wpAnyH_take (i := 6) (v := _) rfl (by kernel_rfl) (by kernel_rfl) (by kernel_rfl) (fun _ _ _ h => h) (Or.inl ⟨by rfl, ?hys6⟩) H0 ?rests6
                case hys6 =>
                  intro w' hSw
                  have s1 := hSw
                  go_simp
                  try with_reducible rfl
                (try simp only [Act.put, List.getElem_toArray, List.getElem_cons_succ, List.getElem_cons_zero, List.setIfInBounds_toArray, List.set_cons_zero, List.set_cons_succ])
                refine wpAnyH_ready (rs := [1]) (by kernel_rfl) (by simp) (AllReadyH.cons rfl (fun K hK => ?_) AllReadyH.nil)
                go_simp
                refine (wrk.out _ (Chg.drewN [] wr 1)).mono ?_
                rintro e wy ⟨rfl, rfl⟩
                go_simp
                refine hK.out _ _ H0 (fun H1 => ?_)
                clear hK K
                refine' wpAnyH_take (i := 7) (v := _) rfl (by kernel_rfl) (by kernel_rfl) (by kernel_rfl) (fun _ _ _ h => h) (Or.inl ⟨by rfl, ?hys7⟩) H1 ?rests7
                case hys7 =>
                  intro w' hSw
                  have s1 := hSw
                  go_simp
                  try with_reducible rfl
                (try simp only [Act.put, List.getElem_toArray, List.getElem_cons_succ, List.getElem_cons_zero, List.setIfInBounds_toArray, List.set_cons_zero, List.set_cons_succ])
                refine wpAnyH_done (by kernel_rfl) ?_ _
                go_wp2_with fail
                go_roundw
                case rel => exact ⟨i + 1, _, _, _, rfl, by go_num, hlt, hLN2, HST2⟩
                case measure => simp [intOf] <;> omega
      · have e1 : ¬ (i : Int) < n := fun h => hlt (Int.ofNat_lt.1 h)
        obtain ⟨F, R', S', T, L, hfs, hFi, hLL, hown⟩ := HST.out
        generalize wr = wE at *
        have HFW := Lib.hid (fun w' (C : Chg [] wE w') => hfs.keep0 C)
        have HOW := Lib.hid (fun w' (C : Chg [] wE w') => hown.keep0 C)
        have HCE := Lib.hid hfs.chg
        have HLL := Lib.hid hLL
        have HFI : Hid (F.length ≤ 40) := Lib.hid (by omega)
        clear hfs hFi hLL hown HST
        go_wp2_with fail
        go_loopw [15] (fun v wr => ∃ j : Nat, v = .int .i64 (j : Int) ∧ j ≤ LN ∧ Hid (Chg [] wE wr)) (fun v _ => LN - (intOf v).toNat)
        case atStart => exact ⟨0, rfl, Nat.zero_le _, Lib.hid (Chg.refl _ _)⟩
        case round =>
          obtain ⟨j, rfl, hj, HC⟩ := hrel
          by_cases hjl : j < LN
          · have e2 : (j : Int) < LN := Int.ofNat_lt.2 hjl
            have e3 : (0 : Int) ≤ j := Int.natCast_nonneg _
            obtain ⟨fj, hfj⟩ : ∃ fj, L[j]? = some fj := ⟨_, List.getElem?_eq_getElem (by rw [HLL.out]; exact hjl)⟩
            obtain ⟨gQ, rfl⟩ := ownsRow_head (HOW.out _ (Chg.refl _ _)).own (by omega)
            have hcq : LN ≤ c' := by obtain ⟨_, _, e, h, _⟩ := ownsRow_slice (HOW.out _ (Chg.refl _ _)).own; cases e; exact h
            obtain ⟨Rj, hRj⟩ : ∃ Rj, hashC fj = Rj := ⟨_, rfl⟩
            have HLQ := Lib.hid (fun (w' : World) (C : Chg [] wE w') => by
              have h := (HOW.out w' C).own
              have hh := HLL.out
              rewrite [← hh] at h
              have := load_of_list h rfl hfj
              rewrite [hRj] at this
              exact this)
            obtain ⟨r, hr⟩ : ∃ r, findL F (hkey fj) = r := ⟨_, rfl⟩
            have hX128 := findL_short F (hkey fj)
            rw [hr] at hX128
            have hkk : hkV (hkey fj) = .agg Rj := by rw [hkV_hkey, hashV, hRj]
            have KF := Lib.hid (fun w' (C : Chg [] wE w') => by
              have h1 := HFI.out
              have := blk_find b F S' (hkey fj) w' (HFW.out w' C).fin (by omega)
              rewrite [hkk, hr] at this
              exact this)
            have KG := Lib.hid (fun w' (C : Chg [] wE w') => by
              have h1 := HFI.out
              have hs := (HFW.out w' C).same
              have := ref_find bg R' (hkey fj) T w' (HFW.out w' C).ref (by have := hs.length; omega) (hs.short (HFW.out w' C).fin.2.1)
              rewrite [hkk, ← hs.find, hr] at this
              exact this)
            obtain ⟨X, hX⟩ : ∃ X, fX r = X := ⟨_, rfl⟩
            obtain ⟨XN, hXN⟩ : ∃ XN, X.length = XN := ⟨_, rfl⟩
            obtain ⟨mn, hmn⟩ : ∃ mn, (fM r).1 = mn := ⟨_, rfl⟩
            obtain ⟨mb, hmb⟩ : ∃ mb, (fM r).2 = mb := ⟨_, rfl⟩
            obtain ⟨ok, hok⟩ : ∃ ok, r.isSome = ok := ⟨_, rfl⟩
            rw [hX, hXN] at hX128
            have hpl : plC (fM r) = #[.string mn, .int .i64 mb] := by rw [plC, hmn, hmb]
            have HV1 := Lib.hid hX
            have HV2 := Lib.hid hXN
            have HV3 := Lib.hid hmn
            have HV4 := Lib.hid hmb
            have HV5 := Lib.hid hok
            have HV6 := Lib.hid hpl
            have hl0 := HLQ.out wr HC.out
            clear hfj hRj hr hkk hX hXN hmn hmb hok hpl
            go_wp2_with (refine wpList_load_y 32 (.tmp 131) rfl (by go_simp) (.pointer (some ⟨gQ, j * 32, none⟩)) (.agg Rj) hl0 rfl ?_)
            refine (KF.out _ HC.out).mono ?_
            rintro e w5 h5
            obtain ⟨C5, fa, fc, rfl, hob, hnb⟩ := found_any h5
            rw [HV1.out, HV2.out] at hob hnb ⊢
            rw [HV5.out, HV6.out]
            have HOB := Lib.hid hob
            have HNB := Lib.hid hnb
            have HC5 := Lib.hid (HC.out.trans C5 (by simp))
            have hn6 := heap_alloc_new w5 (.cells #[.string mn, .int .i64 mb] 57)
            have C6 := Chg.alloc [] w5 (.cells #[.string mn, .int .i64 mb] 57)
            have hl6 := HLQ.out _ (HC5.out.trans C6 (by simp))
            clear h5 C5 hob hnb hl0
            go_upto_region 31 with (fail)
            obtain ⟨qp, hqp⟩ : ∃ qp, w5.heap.size = qp := ⟨_, rfl⟩
            rw [hqp] at hn6 ⊢
            have HQP := Lib.hid hqp
            have HN6 := Lib.hid hn6
            have HC6 := Lib.hid C6
            clear hn6 C6 hqp
            generalize w5.alloc (.cells #[.string mn, .int .i64 mb] 57) = w6 at *
            go_wp2_with (refine wpList_load_y 32 (.tmp 141) rfl (by go_simp) (.pointer (some ⟨gQ, j * 32, none⟩)) (.agg Rj) hl6 rfl ?_)
            refine (KG.out _ (HC5.out.trans HC6.out (by simp))).mono ?_
            rintro e w7 h7
            obtain ⟨C7, ga, gc, rfl, hog, hng⟩ := foundR_any h7
            rw [HV1.out, HV2.out] at hog hng ⊢
            rw [HV3.out, HV4.out, HV5.out]
            have HC57 := Lib.hid (HC6.out.trans C7 (by simp))
            have HC7 := Lib.hid (HC5.out.trans HC57.out (by simp))
            have HOG := Lib.hid hog
            have hx7 := (C7.block qp (lt_of_block HN6.out) (by simp)).trans HN6.out
            have p0 : w7.cell? ⟨qp, 0, none⟩ = some (.string mn) := by rw [cell_of_row _ _ _ _ _ _ hx7]; rfl
            have p1 : w7.cell? ⟨qp, 1, none⟩ = some (.int .i64 mb) := by rw [cell_of_row _ _ _ _ _ _ hx7]; rfl
            have HOB7 := Lib.hid (ownsRow_chg HOB.out HC57.out (by simp))
            have HAP : Hid (∀ k, (Value.slice fa XN fc).ownBlock = some k → wE.heap.size ≤ k ∧ (Value.slice ga XN gc).ownBlock ≠ some k) := Lib.hid (fun k hk => by
              have h1 := HNB.out k hk
              have h2 := HC.out.size
              have h3 := ownsRow_lt HOB.out k hk
              have h4 := HC6.out.size
              exact ⟨by omega, fun hg => by have := hng k hg; omega⟩)
            have s1 := ownsRow_src HOB7.out
            have s2 := ownsRow_src hog
            have l1 : (⟨X.toArray⟩ : ByteArray).data.toList.length = XN := HV2.out
            clear h7 C7 hog hng hx7 hl6
            go_wp2_with (first | (refine wpList_str_of_bytes _ (by first | rfl | go_simp) 25 9 (.tmp 148) rfl 5 Tryd.underlying25 Tryd.underlying5 Tryd.underlying9 fa XN fc rfl ⟨X.toArray⟩ l1 s1 ?_) | (refine wpList_str_of_bytes _ (by first | rfl | go_simp) 25 9 (.tmp 150) rfl 5 Tryd.underlying25 Tryd.underlying5 Tryd.underlying9 ga XN gc rfl ⟨X.toArray⟩ l1 s2 ?_))
            clear s1 s2 l1 p0 p1
            go_loopw [23] (fun v wr => ∃ (k : Nat) (ys : List UInt8), v = .int .i64 (k : Int) ∧ k ≤ XN ∧ Hid (wr.ownsRow 0 5 1 (.slice fa XN fc) XN (bvs ys)) ∧ Hid (Chg (Value.slice fa XN fc).ownBlock.toList w7 wr)) (fun v _ => XN - (intOf v).toNat)
            case atStart => exact ⟨0, X, rfl, Nat.zero_le _, HOB7, Lib.hid (Chg.refl _ _)⟩
            case round =>
              obtain ⟨k, ys, rfl, hk, HO, HD⟩ := hrel
              by_cases hkd : k < XN
              · have e4 : (k : Int) < XN := Int.ofNat_lt.2 hkd
                have e5 : (0 : Int) ≤ k := Int.natCast_nonneg _
                obtain ⟨g, rfl⟩ := ownsRow_head HO.out (by omega)
                have hkc2 : k < fc := by obtain ⟨_, _, e, h, _⟩ := ownsRow_slice HO.out; cases e; omega
                obtain ⟨y, hy⟩ : ∃ y, ys[k]? = some y := ⟨_, List.getElem?_eq_getElem (by have := HO.out.1; rw [bvs_length] at this; omega)⟩
                have hyc : (bvs ys)[k]? = some (bv y) := by unfold bvs; rw [List.getElem?_map, hy]; rfl
                obtain ⟨hc0, hf1⟩ := ownsRow_cell1 HO.out hyc
                have hc1 : wr.cell? ⟨g, k, none⟩ = some (.int .u8 (y.toNat : Int)) := hc0
                clear hc0
                have hxr := xor85 y
                have ho2 := ownsRow_set1 HO.out (k := k) (bv (y ^^^ 85))
                rw [bvs_set] at ho2
                have HO2 := Lib.hid ho2
                have HC2 : Hid (Chg (Value.slice (some ⟨g, 0, none⟩) XN fc).ownBlock.toList w7 (wr.setCell ⟨g, k, none⟩ (bv (y ^^^ 85)))) := Lib.hid (HD.out.trans (Chg.setCell (S := (Value.slice (some ⟨g, 0, none⟩) XN fc).ownBlock.toList) wr ⟨g, k, none⟩ (bv (y ^^^ 85)) (.inl (by simp [Value.ownBlock]))) (fun x hx => .inl hx))
                clear ho2 hyc hy
                go_wp2_with fail
                go_roundw
                case rel => exact ⟨k + 1, ys.set k (y ^^^ 85), by go_num, hkd, HO2, HC2⟩
                case measure => simp [intOf] <;> omega
              · have e4 : ¬ (k : Int) < XN := fun h => hkd (Int.ofNat_lt.1 h)
                have HC8 := Lib.hid (show Chg [] wE wr from HC7.out.trans HD.out (fun x hx => .inr (HAP.out x (by simpa using hx)).1))
                have HOG8 := Lib.hid (ownsRow_chg HOG.out HD.out (fun x hx hm => (HAP.out x (by simpa using hm)).2 hx))
                have hl8 := HLQ.out wr HC8.out
                clear HO HD
                go_wp2_with (refine wpList_load_y 32 (.tmp 188) rfl (by go_simp) (.pointer (some ⟨gQ, j * 32, none⟩)) (.agg Rj) hl8 rfl ?_)
                refine (KF.out _ HC8.out).mono ?_
                rintro e w9 h9
                obtain ⟨C9, ha, hc, rfl, hob9, _⟩ := found_any h9
                rw [HV1.out, HV2.out] at hob9 ⊢
                rw [HV5.out, HV6.out]
                have CA9 := Chg.alloc [] w9 (.cells #[.string mn, .int .i64 mb] 57)
                have s3 := ownsRow_src (ownsRow_chg hob9 CA9 (by simp))
                have s4 := ownsRow_src (ownsRow_chg (ownsRow_chg HOG8.out C9 (by simp)) CA9 (by simp))
                have HCL := Lib.hid ((HC8.out.trans C9 (by simp)).trans CA9 (by simp))
                have l1 : (⟨X.toArray⟩ : ByteArray).data.toList.length = XN := HV2.out
                clear h9 C9 hob9 hl8 CA9
                go_upto_region 39 with (fail)
                generalize w9.alloc (.cells #[.string mn, .int .i64 mb] 57) = wL at *
                go_wp2_with (first | (refine wpList_str_of_bytes _ (by first | rfl | go_simp) 25 9 (.tmp 194) rfl 5 Tryd.underlying25 Tryd.underlying5 Tryd.underlying9 ha XN hc rfl ⟨X.toArray⟩ l1 s3 ?_) | (refine wpList_str_of_bytes _ (by first | rfl | go_simp) 25 9 (.tmp 196) rfl 5 Tryd.underlying25 Tryd.underlying5 Tryd.underlying9 ga XN gc rfl ⟨X.toArray⟩ l1 s4 ?_))
                go_roundw
                case rel => exact ⟨j + 1, by go_num, hjl, HCL⟩
                case measure => simp [intOf] <;> omega
          · have e2 : ¬ (j : Int) < LN := fun h => hjl (Int.ofNat_lt.1 h)
            have KWF := Lib.hid (KW.out _ (HCE.out.trans HC.out (by simp)))
            go_wp2_with fail
            refine KWF.out.mono ?_
            rintro e w6 ⟨rfl, C6⟩
            go_wp2_with fail
            go_ret
            exact ⟨rfl, (HCE.out.trans HC.out (by simp)).trans C6 (by simp)⟩
end Go.Proofs.YtfdhpjflkimihaaDoor
