/- Law CopierPlans, walked. No conditions beyond those that each statement types. -/
import Derived.Test.YtfdhpjflkimihaaDoorCvc
namespace Go.Proofs.YtfdhpjflkimihaaDoor
open Go.RowKit

theorem step_guardn (x y : Operand) (X Y : Array Value) (w : World) : (eqGuard .neq 93 x y (.agg X) (.agg Y)).run Tryd.prog w = .ok () w := by
  have h : Tryd.prog.eqGuardType Tryd.prog.depth 93 = false := by kernel_rfl
  have hp : (program).run Tryd.prog w = .ok Tryd.prog w := rfl
  simp [eqGuard, hp, h, Result.andThen]
set_option maxRecDepth 100000 in
theorem neq_stepR (s1 s2 : Int) (s3 : ByteArray) (s4 s5 : Int) (w : World) : (binOp .neq 93 (.agg #[.int .i64 s1, .int .i64 s2, .string s3, .int .i64 s4, .int .i64 s5]) (.agg #[.int .i64 s1, .int .i64 s2, .string s3, .int .i64 s4, .int .i64 s5])).run Tryd.prog w = .ok (.bool false) w := by
  rw [run_neq_struct]
  go_simp
/-- The plan of any record. -/
def planA (r : RecV) (T : List UInt8) (fo : HKey → Option (Pl × List UInt8)) : List StepV := if r.want = 0 then planL r r.size.toNat T fo (cntN r.size.toNat) else []
theorem stepPl_block (r : RecV) (N : Nat) (T : List UInt8) (fo : HKey → Option (Pl × List UInt8)) (i : Nat) : (stepPl r N T fo i).block = i := by
  unfold stepPl
  split
  · rfl
  · unfold stepSm
    split
    · rfl
    · unfold stepFd
      split
      · rfl
      · split <;> rfl
theorem planA_len (r : RecV) (T : List UInt8) (fo : HKey → Option (Pl × List UInt8)) : (planA r T fo).length ≤ 32 := by
  unfold planA
  split
  · rw [planL_len]; exact cntN_le _
  · exact Nat.zero_le _
theorem planA_block {r : RecV} {T : List UInt8} {fo : HKey → Option (Pl × List UInt8)} {k : Nat} {s : StepV} (h : (planA r T fo)[k]? = some s) : s.block = k := by
  unfold planA at h
  split at h
  · unfold planL at h
    rw [List.getElem?_map] at h
    obtain ⟨j, hj, rfl⟩ := Option.map_eq_some_iff.1 h
    obtain ⟨h1, h2⟩ := List.getElem?_eq_some_iff.1 hj
    rw [List.getElem_range] at h2
    subst h2
    exact stepPl_block r _ T fo k
  · cases h
def PlanN (w : World) (l : List StepV) (n : Nat) (W : Int) (e : Ending) (w' : World) : Prop :=
  Chg [] w w' ∧ ∃ po pc, e = .returned (.tuple #[.slice po n pc, .int .i64 W]) ∧ Src w' po (svs l) ∧ n ≤ pc
theorem cp_plan_any (RC : Array Value) (r : RecV) (ao : Option Addr) (c : Nat) (p : Option Addr) (fo : HKey → Option (Pl × List UInt8)) (ta : Option Addr) (tc : Nat) (T : List UInt8) (n : Nat) (w : World) (hn : (planA r T fo).length = n) (hL : Laid w) (H : RecIs w RC r ao c) (hF : FindsAs w p fo) (hfo : ∀ k, (fX (fo k)).length ≤ 128) (hs : Src w ta (bvs T)) (hT : T.length ≤ 9223372036854775807) (htc : T.length ≤ tc) (h0 : ta = none → tc = 0) :
    Calls Tryd.prog 44 #[.agg RC, .pointer p, .slice ta T.length tc] w (PlanN w (planA r T fo) n r.want) := by
  subst hn
  by_cases hw : r.want = 0
  · obtain ⟨N, g⟩ := RecV.good_of hw
    have hN : r.size.toNat = N := by have := g.size; omega
    have hp : planA r T fo = planL r N T fo (cntN N) := by unfold planA; rw [if_pos hw, hN]
    rw [hp, hw]
    refine (cp_plan RC r ao c N g p fo ta tc T w hL H hF hfo hs hT htc h0).mono ?_
    rintro e w' ⟨C, po, pc, rfl, ho, _⟩
    exact ⟨C, po, pc, rfl, ownsRow_src_any ho, own_cap ho⟩
  · have hp : planA r T fo = [] := by unfold planA; rw [if_neg hw]
    rw [hp]
    refine (cp_plan_not RC r ao c hw p _ w H).mono ?_
    rintro e w' ⟨rfl, C⟩
    exact ⟨C, none, 0, rfl, Src.empty _ _, Nat.le_refl _⟩
theorem rf_plan_any (RC : Array Value) (r : RecV) (ao : Option Addr) (c : Nat) (p : Option Addr) (fo : HKey → Option (Pl × List UInt8)) (ta : Option Addr) (tc : Nat) (T : List UInt8) (n : Nat) (w : World) (hn : (planA r T fo).length = n) (H : RecIs w RC r ao c) (hF : FindsAsR w p fo) (hfo : ∀ k, (fX (fo k)).length ≤ 128) (hs : Src w ta (bvs T)) (hT : T.length ≤ 9223372036854775807) (htc : T.length ≤ tc) (h0 : ta = none → tc = 0) :
    Calls Tryd.prog 45 #[.agg RC, .pointer p, .slice ta T.length tc] w (PlanN w (planA r T fo) n r.want) := by
  subst hn
  by_cases hw : r.want = 0
  · obtain ⟨N, g⟩ := RecV.good_of hw
    have hN : r.size.toNat = N := by have := g.size; omega
    have hp : planA r T fo = planL r N T fo (cntN N) := by unfold planA; rw [if_pos hw, hN]
    rw [hp, hw]
    refine (rf_plan RC r ao c N g p fo ta tc T w H hF hfo hs hT htc h0).mono ?_
    rintro e w' ⟨C, po, pc, rfl, ho, _⟩
    exact ⟨C, po, pc, rfl, ownsRow_src_any ho, own_cap ho⟩
  · have hp : planA r T fo = [] := by unfold planA; rw [if_neg hw]
    rw [hp]
    refine (rf_plan_not RC r ao c hw p _ w H).mono ?_
    rintro e w' ⟨rfl, C⟩
    exact ⟨C, none, 0, rfl, Src.empty _ _, Nat.le_refl _⟩
theorem load_stepR {w : World} {a : Addr} {l : List StepV} (hs : Src w (some a) (svs l)) {i : Nat} {s : StepV} (h : l[i]? = some s) :
    (Instr.loadAt 93 (.pointer (some (a.add (i * 5))))).run Tryd.prog w = .ok (.agg s.cells) w := by
  have h := src_flat (w := w) (a := a) (cells := fun s : StepV => s.cells.toList) (size := 5) (fun _ => rfl) (hs.cell a rfl) h
  exact run_loadAt_any _ _ s.cells.toList _ h Tryd.underlying93 rfl infoStepR
theorem src_some {w : World} {so : Option Addr} {l : List StepV} (hs : Src w so (svs l)) {k : Nat} {s : StepV} (h : l[k]? = some s) : ∃ a, so = some a := by
  have h1 := (List.getElem?_eq_some_iff.1 h).1
  obtain ⟨a, rfl, _⟩ := hs.lt (by
    rw [show (svs l).length = l.length * 5 from flat_length (enc := fun s : StepV => s.cells.toList) (size := 5) (fun _ => rfl) l]
    omega)
  exact ⟨a, rfl⟩
set_option maxRecDepth 100000 in
set_option maxHeartbeats 8000000 in
theorem copier_plans (RC : Array Value) (r : RecV) (ao : Option Addr) (rc : Nat) (fo : Option Addr) (fc : Nat) (L : List FileV) (ta : Option Addr) (tc : Nat) (T : List UInt8) (go : Option Addr) (gc : Nat) (G : List GotV) (i : Int) (_hi : -9223372036854775808 ≤ i ∧ i ≤ 9223372036854775807) (w : World) (hL : Laid w)
    (H : RecIs w RC r ao rc) (hF : FilesAt w fo fc L) (hFz : ∀ f ∈ L, f.xs.length ≤ reachBytes ∧ f.name.size ≤ reachBytes) (hT : Src w ta (bvs T)) (hTz : T.length ≤ reachBytes) (hTc : T.length ≤ tc) (hT0 : ta = none → tc = 0) (hG : GotsAt w go gc G) (hGz : ∀ g ∈ G, g.xs.length ≤ reachBytes) :
    Calls Tryd.prog 11 #[.agg RC, .slice fo L.length fc, .slice ta T.length tc, .slice go G.length gc, .int .i64 i] w (Holds w) := by
  have hx0 := heap_alloc_new w (.cells RC 77)
  have C0 := Chg.alloc [] w (.cells RC 77)
  have HRC := Lib.hid H.size
  have KA := Lib.hid (fun w' (C : Chg [] w w') => law_awake21 w' (hL.chg C (by simp)))
  have KLG := Lib.hid (fun w' (C : Chg [] w w') => law_large21 RC r ao rc L fo fc ta T.length tc none 0 0 G go gc w' (H.chg0 C) (hF.src.chg C (by simp)) hF.cap (hG.chg C).src hG.cap)
  have HBY := Lib.hid (fun (h : largeB r.L.length T.length 0 L G = false) => largeB_no h)
  have HGX := Lib.hid (fun (h : largeB r.L.length T.length 0 L G = false) (k : Nat) (g : GotV) (hg : G[k]? = some g) => show g.xs.length ≤ 1000000 from by
    obtain ⟨a1, a2, _, _, a5⟩ := largeB_no h
    exact Nat.le_trans (sums_in hTz hFz hGz a1 a5 a2 g (List.mem_of_getElem? hg)) (by decide))
  have KFN := Lib.hid (fun (h : L.length ≤ 10) w' (C : Chg [] w w') => law_finders21 L fo fc w' (hL.chg C (by simp)) (hF.chg C) h)
  have KP1 := Lib.hid (fun (p : Option Addr) (fo : HKey → Option (Pl × List UInt8)) (n : Nat) (hn : (planA r T fo).length = n) w' (C : Chg [] w w') (h1 : FindsAs w' p fo) (h3 : ∀ k, (fX (fo k)).length ≤ 128) => cp_plan_any RC r ao rc p fo ta tc T n w' hn (hL.chg C (by simp)) (H.chg0 C) h1 h3 (hT.chg C (by simp)) (Nat.le_trans hTz (by decide)) hTc hT0)
  have KP2 := Lib.hid (fun (p : Option Addr) (fo : HKey → Option (Pl × List UInt8)) (n : Nat) (hn : (planA r T fo).length = n) w' (C : Chg [] w w') (h1 : FindsAsR w' p fo) (h3 : ∀ k, (fX (fo k)).length ≤ 128) => rf_plan_any RC r ao rc p fo ta tc T n w' hn (H.chg0 C) h1 h3 (hT.chg C (by simp)) (Nat.le_trans hTz (by decide)) hTc hT0)
  have KL1 := Lib.hid (fun (j : Int) w' (C : Chg [] w w') => cp_length RC r ao rc j w' (H.chg0 C))
  have KL2 := Lib.hid (fun (j : Int) w' (C : Chg [] w w') => rf_length RC r ao rc j w' (H.chg0 C))
  have KBU := Lib.hid (fun (l : List StepV) (so : Option Addr) (sc : Nat) (hlc : l.length ≤ sc) (h5 : l.length ≤ 50) (h6 : G.length ≤ 50) (hx : ∀ (k : Nat) (g : GotV), G[k]? = some g → g.xs.length ≤ 1000000) (p p2 : Option Addr) (fo : HKey → Option (Pl × List UInt8)) w' (C : Chg [] w w') (hl : Src w' so (svs l)) (h1 : FindsAs w' p fo) (h2 : FindsAsR w' p2 fo) (h3 : ∀ k, (fX (fo k)).length ≤ 128) =>
    built_any RC r ao rc l so sc p p2 fo ta tc T G go gc w' (hL.chg C (by simp)) (H.chg0 C) h1 h2 h3 (hT.chg C (by simp)) (Nat.le_trans hTz (by decide)) hTc hT0 hl hlc h5 (hG.chg C) h6 hx)
  obtain ⟨tn, htn⟩ : ∃ tn, T.length = tn := ⟨_, rfl⟩
  obtain ⟨Ln, hLn⟩ : ∃ Ln, L.length = Ln := ⟨_, rfl⟩
  obtain ⟨Gn, hGn⟩ : ∃ Gn, G.length = Gn := ⟨_, rfl⟩
  have HLN := Lib.hid hLn
  rw [htn, hLn, hGn] at KLG
  rw [htn] at HBY HGX KP1 KP2
  rw [hLn] at KFN
  rw [hGn, htn] at KBU
  have HL10 : Hid (largeB r.L.length tn 0 L G = false → Ln ≤ 10 ∧ Gn ≤ 50) := Lib.hid (fun h => by
    obtain ⟨a1, _, _, a4, a5⟩ := HBY.out h
    exact ⟨by rw [← hLn]; exact a1, by rw [← hGn]; exact a5⟩)
  rw [htn, hLn, hGn]
  have HF10 : Hid (Ln ≤ 10 → (filesF L).length ≤ 1000) := Lib.hid (fun h => filesF_ten (by rw [hLn]; exact h))
  clear H hF hFz hT hTz hTc hT0 hG hGz hL htn hLn hGn HBY
  go_enter Tryd.func11, Tryd.ntmps11
  go_upto_region 1 with (fail)
  obtain ⟨q0, hq0⟩ : ∃ q0, w.heap.size = q0 := ⟨_, rfl⟩
  rw [hq0] at hx0 ⊢
  generalize hw1 : w.alloc (.cells RC 77) = w1 at *
  have HX1 := Lib.hid hx0
  have HC0 := Lib.hid C0
  have hldr := run_loadAt_rec w1 q0 RC _ hx0 HRC.out
  clear hx0 C0 hq0 hw1
  go_wp2_with (refine wpList_load_y 77 (.tmp 5) rfl (by go_simp) (.pointer (some ⟨q0, 0, none⟩)) (.agg RC) hldr rfl ?_)
  refine (KLG.out w1 HC0.out).mono ?_
  rintro e w2 ⟨rfl, C2⟩
  have HC2 := Lib.hid (HC0.out.trans C2 (by simp))
  have HX2 := Lib.hid ((C2.block q0 (lt_of_block HX1.out) (by simp)).trans HX1.out)
  clear C2 hldr KLG
  obtain ⟨LB, hLB⟩ : ∃ LB, largeB r.L.length tn 0 L G = LB := ⟨_, rfl⟩
  rw [hLB]
  rw [hLB] at HGX HL10
  clear hLB
  cases LB with
  | true =>
    go_wp2_with fail
    refine (KA.out _ HC2.out).mono ?_
    rintro e wa ⟨rfl, Ca⟩
    have HCA := Lib.hid (HC2.out.trans Ca (by simp))
    clear Ca
    go_wp2_with fail
    go_ret
    exact ⟨rfl, HCA.out⟩
  | false =>
    obtain ⟨hL10, hG50⟩ := HL10.out rfl
    have HGX2 := Lib.hid (HGX.out rfl)
    have HFT := Lib.hid (HF10.out hL10)
    have KF := Lib.hid (KFN.out hL10 w2 HC2.out)
    clear HL10 HGX HF10 KFN
    go_wp2_with fail
    refine KF.out.mono ?_
    rintro e w3 ⟨fb, bg, S, TT, rfl, hFS⟩
    have HFA := Lib.hid (hFS.as HFT.out)
    have HC3 := Lib.hid (HC2.out.trans hFS.chg (by simp))
    have HX3 := Lib.hid ((hFS.chg.block q0 (lt_of_block HX2.out) (by simp)).trans HX2.out)
    have hldr := run_loadAt_rec w3 q0 RC _ HX3.out HRC.out
    obtain ⟨FO, hFO⟩ : ∃ FO, findL (filesF L) = FO := ⟨_, rfl⟩
    have HFS0 : Hid (∀ k, (fX (FO k)).length ≤ 128) := Lib.hid (by rw [← hFO]; exact findL_short _)
    rw [hFO] at HFA
    obtain ⟨l, hl⟩ : ∃ l, planA r T FO = l := ⟨_, rfl⟩
    obtain ⟨n, hn⟩ : ∃ n, (planA r T FO).length = n := ⟨_, rfl⟩
    have HLn : Hid (l.length = n) := Lib.hid (by rw [← hl]; exact hn)
    have hn32 : n ≤ 32 := by rw [← hn]; exact planA_len r T FO
    have HBK := Lib.hid (fun (k : Nat) (s : StepV) (h : l[k]? = some s) => show s.block = k from by rw [← hl] at h; exact planA_block h)
    have KQ1 := Lib.hid (KP1.out (some ⟨fb, 0, none⟩) FO n hn w3 HC3.out HFA.out.1 HFS0.out)
    have KQ2 := Lib.hid (fun w' (C : Chg [] w3 w') => KP2.out (some ⟨bg, 0, none⟩) FO n hn w' (HC3.out.trans C (by simp)) (HFA.out.2.chg C) HFS0.out)
    rw [hl] at KQ1 KQ2
    obtain ⟨WT, hWT⟩ : ∃ WT, r.want = WT := ⟨_, rfl⟩
    rw [hWT] at KQ1 KQ2
    clear hFS KF hFO hl hn KP1 KP2 hWT
    go_wp2_with (refine wpList_load_y 77 (.tmp 5) rfl (by go_simp) (.pointer (some ⟨q0, 0, none⟩)) (.agg RC) hldr rfl ?_)
    refine KQ1.out.mono ?_
    rintro e w4 ⟨C4, po, pc, rfl, hs4, hpc⟩
    have HC34 := Lib.hid C4
    have HX4 := Lib.hid ((C4.block q0 (lt_of_block HX3.out) (by simp)).trans HX3.out)
    have HS4 := Lib.hid hs4
    have KQ3 := Lib.hid (KQ2.out w4 C4)
    have hldr := run_loadAt_rec w4 q0 RC _ HX4.out HRC.out
    clear C4 hs4 KQ1 KQ2
    go_wp2_with (refine wpList_load_y 77 (.tmp 5) rfl (by go_simp) (.pointer (some ⟨q0, 0, none⟩)) (.agg RC) hldr rfl ?_)
    refine KQ3.out.mono ?_
    rintro e w5 ⟨C5, mo, mc, rfl, hm5, hmc⟩
    have HC35 := Lib.hid (HC34.out.trans C5 (by simp))
    have HC5 := Lib.hid (HC3.out.trans HC35.out (by simp))
    have HX5 := Lib.hid ((C5.block q0 (lt_of_block HX4.out) (by simp)).trans HX4.out)
    have HS5 := Lib.hid (HS4.out.chg C5 (by simp))
    have HM5 := Lib.hid hm5
    have KLI := Lib.hid (KL1.out i)
    have KLR := Lib.hid (KL2.out i)
    generalize r.len i = RL at *
    clear C5 hm5 KQ3 hldr HS4
    go_upto_region 6 with (fail)
    refine wp_region_held_drew (S := fun w' => Chg [] w5 w') (by kernel_rfl) ((Chg.drewN [] w5 1)) (fun H0 => ?_)
    refine' tkH (i := 0) (v := _) rfl (Or.inl ⟨by rfl, ?hya0⟩) H0 ?resta0
    case hya0 =>
      intro w' hSw
      have s1 := hSw
      go_simp
      try with_reducible rfl
    (try simp only [Act.put, List.getElem_toArray, List.getElem_cons_zero, List.setIfInBounds_toArray, List.set_cons_zero, List.set_cons_succ])
    refine' tkH (i := 1) (v := _) rfl (Or.inl ⟨by rfl, ?hya1⟩) H0 ?resta1
    case hya1 =>
      intro w' hSw
      have s1 := hSw
      go_simp
      try with_reducible rfl
    (try simp only [Act.put, List.getElem_toArray, List.getElem_cons_succ, List.getElem_cons_zero, List.setIfInBounds_toArray, List.set_cons_zero, List.set_cons_succ])
    refine' tkH (i := 2) (v := _) rfl (Or.inl ⟨by rfl, ?hya2⟩) H0 ?resta2
    case hya2 =>
      intro w' hSw
      have s1 := hSw
      go_simp
      try with_reducible rfl
    (try simp only [Act.put, List.getElem_toArray, List.getElem_cons_succ, List.getElem_cons_zero, List.setIfInBounds_toArray, List.set_cons_zero, List.set_cons_succ])
    refine' tkH (i := 3) (v := _) rfl (Or.inl ⟨by rfl, ?hya3⟩) H0 ?resta3
    case hya3 =>
      intro w' hSw
      have s1 := hSw
      go_simp
      try with_reducible rfl
    (try simp only [Act.put, List.getElem_toArray, List.getElem_cons_succ, List.getElem_cons_zero, List.setIfInBounds_toArray, List.set_cons_zero, List.set_cons_succ])
    refine' tkH (i := 4) (v := _) rfl (Or.inl ⟨by rfl, ?hya4⟩) H0 ?resta4
    case hya4 =>
      intro w' hSw
      have s1 := hSw
      go_simp
      try with_reducible rfl
    (try simp only [Act.put, List.getElem_toArray, List.getElem_cons_succ, List.getElem_cons_zero, List.setIfInBounds_toArray, List.set_cons_zero, List.set_cons_succ])
    refine' tkH (i := 5) (v := _) rfl (Or.inl ⟨by rfl, ?hya5⟩) H0 ?resta5
    case hya5 =>
      intro w' hSw
      have s1 := hSw
      go_simp
      try with_reducible rfl
    (try simp only [Act.put, List.getElem_toArray, List.getElem_cons_succ, List.getElem_cons_zero, List.setIfInBounds_toArray, List.set_cons_zero, List.set_cons_succ])
    refine' tkH (i := 6) (v := _) rfl (Or.inl ⟨by rfl, ?hya6⟩) H0 ?resta6
    case hya6 =>
      intro w' hSw
      have s1 := hSw
      go_simp
      try with_reducible rfl
    (try simp only [Act.put, List.getElem_toArray, List.getElem_cons_succ, List.getElem_cons_zero, List.setIfInBounds_toArray, List.set_cons_zero, List.set_cons_succ])
    refine' tkH (i := 7) (v := _) rfl (Or.inl ⟨by rfl, ?hya7⟩) H0 ?resta7
    case hya7 =>
      intro w' hSw
      have s1 := hSw
      go_simp
      try with_reducible rfl
    (try simp only [Act.put, List.getElem_toArray, List.getElem_cons_succ, List.getElem_cons_zero, List.setIfInBounds_toArray, List.set_cons_zero, List.set_cons_succ])
    refine' tkH (i := 8) (v := _) rfl (Or.inl ⟨by rfl, ?hya8⟩) H0 ?resta8
    case hya8 =>
      intro w' hSw
      have s1 := hSw
      go_simp
      try with_reducible rfl
    (try simp only [Act.put, List.getElem_toArray, List.getElem_cons_succ, List.getElem_cons_zero, List.setIfInBounds_toArray, List.set_cons_zero, List.set_cons_succ])
    refine' tkH (i := 9) (v := _) rfl (Or.inl ⟨by rfl, ?hya9⟩) H0 ?resta9
    case hya9 =>
      intro w' hSw
      have s1 := hSw
      go_simp
      try with_reducible rfl
    (try simp only [Act.put, List.getElem_toArray, List.getElem_cons_succ, List.getElem_cons_zero, List.setIfInBounds_toArray, List.set_cons_zero, List.set_cons_succ])
    refine' tkH (i := 10) (v := _) rfl (Or.inl ⟨by rfl, ?hya10⟩) H0 ?resta10
    case hya10 =>
      intro w' hSw
      have s1 := hSw
      go_simp
      try with_reducible rfl
    (try simp only [Act.put, List.getElem_toArray, List.getElem_cons_succ, List.getElem_cons_zero, List.setIfInBounds_toArray, List.set_cons_zero, List.set_cons_succ])
    refine' tkH (i := 11) (v := .agg RC) rfl (Or.inl ⟨by rfl, ?hya11⟩) H0 ?resta11
    case hya11 =>
      intro w' hSw
      have s1 := hSw
      have hl := run_loadAt_rec w' q0 RC _ ((s1.block q0 (lt_of_block HX5.out) (by simp)).trans HX5.out) HRC.out
      simp [execOp, Act.eval, hl, Result.andThen]
    (try simp only [Act.put, List.getElem_toArray, List.getElem_cons_succ, List.getElem_cons_zero, List.setIfInBounds_toArray, List.set_cons_zero, List.set_cons_succ])
    refine' tkH (i := 12) (v := _) rfl (Or.inl ⟨by rfl, ?hya12⟩) H0 ?resta12
    case hya12 =>
      intro w' hSw
      have s1 := hSw
      go_simp
      try with_reducible rfl
    (try simp only [Act.put, List.getElem_toArray, List.getElem_cons_succ, List.getElem_cons_zero, List.setIfInBounds_toArray, List.set_cons_zero, List.set_cons_succ])
    refine' tkH (i := 14) (v := .agg RC) rfl (Or.inl ⟨by rfl, ?hya14⟩) H0 ?resta14
    case hya14 =>
      intro w' hSw
      have s1 := hSw
      have hl := run_loadAt_rec w' q0 RC _ ((s1.block q0 (lt_of_block HX5.out) (by simp)).trans HX5.out) HRC.out
      simp [execOp, Act.eval, hl, Result.andThen]
    (try simp only [Act.put, List.getElem_toArray, List.getElem_cons_succ, List.getElem_cons_zero, List.setIfInBounds_toArray, List.set_cons_zero, List.set_cons_succ])
    refine' tkH (i := 15) (v := _) rfl (Or.inl ⟨by rfl, ?hya15⟩) H0 ?resta15
    case hya15 =>
      intro w' hSw
      have s1 := hSw
      go_simp
      try with_reducible rfl
    (try simp only [Act.put, List.getElem_toArray, List.getElem_cons_succ, List.getElem_cons_zero, List.setIfInBounds_toArray, List.set_cons_zero, List.set_cons_succ])
    refine wpAnyH_ready (rs := [13]) (by kernel_rfl) (by simp) (AllReadyH.cons rfl (fun K hK => ?_) AllReadyH.nil)
    go_simp
    refine (KLI.out _ (HC5.out.trans H0 (by simp))).mono ?_
    rintro e wy13 ⟨rfl, Cy⟩
    go_simp
    refine hK.out _ _ (H0.trans Cy (by simp)) (fun H1 => ?_)
    clear hK K Cy
    refine wpAnyH_ready (rs := [16]) (by kernel_rfl) (by simp) (AllReadyH.cons rfl (fun K hK => ?_) AllReadyH.nil)
    go_simp
    refine (KLR.out _ (HC5.out.trans H1 (by simp))).mono ?_
    rintro e wy16 ⟨rfl, Cy⟩
    go_simp
    refine hK.out _ _ (H1.trans Cy (by simp)) (fun H2 => ?_)
    clear hK K Cy
    refine' tkH (i := 17) (v := _) rfl (Or.inl ⟨by rfl, ?hya17⟩) H2 ?resta17
    case hya17 =>
      intro w' hSw
      have s1 := hSw
      go_simp
      try with_reducible rfl
    (try simp only [Act.put, List.getElem_toArray, List.getElem_cons_succ, List.getElem_cons_zero, List.setIfInBounds_toArray, List.set_cons_zero, List.set_cons_succ])
    refine' tkH (i := 18) (v := _) rfl (Or.inl ⟨by rfl, ?hya18⟩) H2 ?resta18
    case hya18 =>
      intro w' hSw
      have s1 := hSw
      go_simp
      try with_reducible rfl
    (try simp only [Act.put, List.getElem_toArray, List.getElem_cons_succ, List.getElem_cons_zero, List.setIfInBounds_toArray, List.set_cons_zero, List.set_cons_succ])
    refine wpAnyH_done (by kernel_rfl) ?_ _
    have HC6 := Lib.hid (HC5.out.trans H2 (by simp))
    have HC36 := Lib.hid (HC35.out.trans H2 (by simp))
    have HX6 := Lib.hid ((H2.block q0 (lt_of_block HX5.out) (by simp)).trans HX5.out)
    have HS6 := Lib.hid (HS5.out.chg H2 (by simp))
    have HM6 := Lib.hid (HM5.out.chg H2 (by simp))
    clear H0 H1 H2 HX5 HS5 HM5 KLI KLR
    have HSC := Lib.hid (fun (k : Nat) (s : StepV) (h : l[k]? = some s) => step_cells HM6.out h)
    have HAN := Lib.hid (fun (k : Nat) (s : StepV) (h : l[k]? = some s) => askL_next h)
    have HGE := Lib.hid (fun k (hk : k < n) => show ∃ s, l[k]? = some s from ⟨_, List.getElem?_eq_getElem (by rw [HLn.out]; exact hk)⟩)
    have HAL : Hid (l.take n = l) := Lib.hid (by rw [← HLn.out]; exact List.take_of_length_le (Nat.le_refl _))
    obtain ⟨i0, hi0, hz0, hz1, hz2⟩ := info_parts infoIntU
    generalize wy16 = w6 at *
    go_wp2_with fail
    go_loopw [17, 18] (fun v2 v7 wr => ∃ (k m c' : Nat) (ao' : Option Addr), v2 = .slice ao' m c' ∧ v7 = .int .i64 (k : Int) ∧ k ≤ n ∧ m ≤ k ∧ Hid ((askL (l.take k)).length = m) ∧ Hid (wr.ownsRow 0 3 1 (.slice ao' m c') m (nvs (askL (l.take k)))) ∧ Hid (∀ b, (Value.slice ao' m c').ownBlock = some b → w6.heap.size ≤ b) ∧ Hid (Chg [] w6 wr)) (fun _ v _ => n - (intOf v).toNat)
    case atStart => exact ⟨0, 0, 0, none, rfl, rfl, Nat.zero_le _, Nat.zero_le _, Lib.hid rfl, Lib.hid (World.ownsRow_nil _ _ _ _), Lib.hid (fun b hb => by cases hb), Lib.hid (Chg.refl _ _)⟩
    case round =>
      obtain ⟨k, m, c', ao', rfl, rfl, hk, hmk, HM, HO, HNW, HC⟩ := hrel
      by_cases hlt : k < n
      · have e1 : (k : Int) < n := Int.ofNat_lt.2 hlt
        have e0 : (0 : Int) ≤ k := Int.natCast_nonneg _
        have hk1 : k < pc := by omega
        have hk2 : k < mc := by omega
        obtain ⟨s, hsk⟩ := HGE.out k hlt
        obtain ⟨pa, rfl⟩ := src_some HS6.out hsk
        obtain ⟨ma, rfl⟩ := src_some HM6.out hsk
        have HSN := Lib.hid (HBK.out k s hsk)
        obtain ⟨_, e, _, hcb⟩ := HSC.out k s hsk
        cases e
        have HCB := Lib.hid hcb
        have HN := Lib.hid (HAN.out k s hsk)
        have HLA := Lib.hid (fun w' (C : Chg [] wr w') => load_step (HS6.out.chg (HC.out.trans C (by simp)) (by simp)) hsk)
        have HLB := Lib.hid (fun w' (C : Chg [] wr w') => load_stepR (HM6.out.chg (HC.out.trans C (by simp)) (by simp)) hsk)
        have K4k := Lib.hid (fun w' => lw_step s w')
        have HCW := Lib.hid (HC6.out.trans HC.out (by simp))
        have HXL := Lib.hid ((HC.out.block q0 (lt_of_block HX6.out) (by simp)).trans HX6.out)
        have KLk := Lib.hid (KL1.out (k : Int))
        have KRk := Lib.hid (KL2.out (k : Int))
        generalize r.len (k : Int) = RK at *
        obtain ⟨s1, s2, s3, s4, s5⟩ := s
        simp only [StepV.cells] at HLA HLB K4k
        clear hsk hcb hi0 hz0 hz1 hz2
        go_upto_region 12 with (fail)
        refine wp_region_held_drew (S := fun w' => Chg [] wr w') (by kernel_rfl) ((Chg.drewN [] wr 1)) (fun H0 => ?_)
        refine' tkH (i := 0) (v := _) rfl (Or.inl ⟨by rfl, ?hyb0⟩) H0 ?restb0
        case hyb0 =>
          intro w' hSw
          have t1 := hSw
          go_simp
          try with_reducible rfl
        (try simp only [Act.put, List.getElem_toArray, List.getElem_cons_zero, List.setIfInBounds_toArray, List.set_cons_zero, List.set_cons_succ])
        refine' tkH (i := 1) (v := _) rfl (Or.inl ⟨by rfl, ?hyb1⟩) H0 ?restb1
        case hyb1 =>
          intro w' hSw
          have t1 := hSw
          go_simp
          try with_reducible rfl
        (try simp only [Act.put, List.getElem_toArray, List.getElem_cons_succ, List.getElem_cons_zero, List.setIfInBounds_toArray, List.set_cons_zero, List.set_cons_succ])
        refine' tkH (i := 2) (v := _) rfl (Or.inl ⟨by rfl, ?hyb2⟩) H0 ?restb2
        case hyb2 =>
          intro w' hSw
          have t1 := hSw
          go_simp
          try with_reducible rfl
        (try simp only [Act.put, List.getElem_toArray, List.getElem_cons_succ, List.getElem_cons_zero, List.setIfInBounds_toArray, List.set_cons_zero, List.set_cons_succ])
        refine' tkH (i := 3) (v := .agg #[.int .i64 s1, .int .i64 s2, .string s3, .int .i64 s4, .int .i64 s5]) rfl (Or.inl ⟨by rfl, ?hyb3⟩) H0 ?restb3
        case hyb3 =>
          intro w' hSw
          have t1 := hSw
          have hl := HLA.out w' t1
          simp [execOp, Act.eval, hl, Result.andThen]
        (try simp only [Act.put, List.getElem_toArray, List.getElem_cons_succ, List.getElem_cons_zero, List.setIfInBounds_toArray, List.set_cons_zero, List.set_cons_succ])
        refine' tkH (i := 5) (v := _) rfl (Or.inl ⟨by rfl, ?hyb5⟩) H0 ?restb5
        case hyb5 =>
          intro w' hSw
          have t1 := hSw
          go_simp
          try with_reducible rfl
        (try simp only [Act.put, List.getElem_toArray, List.getElem_cons_succ, List.getElem_cons_zero, List.setIfInBounds_toArray, List.set_cons_zero, List.set_cons_succ])
        refine' tkH (i := 6) (v := _) rfl (Or.inl ⟨by rfl, ?hyb6⟩) H0 ?restb6
        case hyb6 =>
          intro w' hSw
          have t1 := hSw
          go_simp
          try with_reducible rfl
        (try simp only [Act.put, List.getElem_toArray, List.getElem_cons_succ, List.getElem_cons_zero, List.setIfInBounds_toArray, List.set_cons_zero, List.set_cons_succ])
        refine' tkH (i := 7) (v := _) rfl (Or.inl ⟨by rfl, ?hyb7⟩) H0 ?restb7
        case hyb7 =>
          intro w' hSw
          have t1 := hSw
          go_simp
          try with_reducible rfl
        (try simp only [Act.put, List.getElem_toArray, List.getElem_cons_succ, List.getElem_cons_zero, List.setIfInBounds_toArray, List.set_cons_zero, List.set_cons_succ])
        refine' tkH (i := 8) (v := .agg #[.int .i64 s1, .int .i64 s2, .string s3, .int .i64 s4, .int .i64 s5]) rfl (Or.inl ⟨by rfl, ?hyb8⟩) H0 ?restb8
        case hyb8 =>
          intro w' hSw
          have t1 := hSw
          have hl := HLB.out w' t1
          simp [execOp, Act.eval, hl, Result.andThen]
        (try simp only [Act.put, List.getElem_toArray, List.getElem_cons_succ, List.getElem_cons_zero, List.setIfInBounds_toArray, List.set_cons_zero, List.set_cons_succ])
        refine wpAnyH_ready (rs := [4]) (by kernel_rfl) (by simp) (AllReadyH.cons rfl (fun K hK => ?_) AllReadyH.nil)
        go_simp
        refine (K4k.out _).mono ?_
        rintro e wy4 ⟨rfl, Cy⟩
        go_simp
        refine hK.out _ _ (H0.trans Cy (by simp)) (fun H1 => ?_)
        clear hK K Cy
        refine' tkH (i := 9) (v := .bool false) rfl (Or.inl ⟨by rfl, ?hyb9⟩) H1 ?restb9
        case hyb9 =>
          intro w' hSw
          have t1 := hSw
          have hq := neq_stepR s1 s2 s3 s4 s5 w'
          simp [execOp, Act.eval, step_guardn, hq, Result.andThen]
        (try simp only [Act.put, List.getElem_toArray, List.getElem_cons_succ, List.getElem_cons_zero, List.setIfInBounds_toArray, List.set_cons_zero, List.set_cons_succ])
        refine' tkH (i := 10) (v := _) rfl (Or.inl ⟨by rfl, ?hyb10⟩) H1 ?restb10
        case hyb10 =>
          intro w' hSw
          have t1 := hSw
          go_simp
          try with_reducible rfl
        (try simp only [Act.put, List.getElem_toArray, List.getElem_cons_succ, List.getElem_cons_zero, List.setIfInBounds_toArray, List.set_cons_zero, List.set_cons_succ])
        refine' tkH (i := 11) (v := .agg RC) rfl (Or.inl ⟨by rfl, ?hyb11⟩) H1 ?restb11
        case hyb11 =>
          intro w' hSw
          have t1 := hSw
          have hl := run_loadAt_rec w' q0 RC _ ((t1.block q0 (lt_of_block HXL.out) (by simp)).trans HXL.out) HRC.out
          simp [execOp, Act.eval, hl, Result.andThen]
        (try simp only [Act.put, List.getElem_toArray, List.getElem_cons_succ, List.getElem_cons_zero, List.setIfInBounds_toArray, List.set_cons_zero, List.set_cons_succ])
        refine' tkH (i := 12) (v := _) rfl (Or.inl ⟨by rfl, ?hyb12⟩) H1 ?restb12
        case hyb12 =>
          intro w' hSw
          have t1 := hSw
          go_simp
          try with_reducible rfl
        (try simp only [Act.put, List.getElem_toArray, List.getElem_cons_succ, List.getElem_cons_zero, List.setIfInBounds_toArray, List.set_cons_zero, List.set_cons_succ])
        refine' tkH (i := 14) (v := .agg RC) rfl (Or.inl ⟨by rfl, ?hyb14⟩) H1 ?restb14
        case hyb14 =>
          intro w' hSw
          have t1 := hSw
          have hl := run_loadAt_rec w' q0 RC _ ((t1.block q0 (lt_of_block HXL.out) (by simp)).trans HXL.out) HRC.out
          simp [execOp, Act.eval, hl, Result.andThen]
        (try simp only [Act.put, List.getElem_toArray, List.getElem_cons_succ, List.getElem_cons_zero, List.setIfInBounds_toArray, List.set_cons_zero, List.set_cons_succ])
        refine' tkH (i := 15) (v := _) rfl (Or.inl ⟨by rfl, ?hyb15⟩) H1 ?restb15
        case hyb15 =>
          intro w' hSw
          have t1 := hSw
          go_simp
          try with_reducible rfl
        (try simp only [Act.put, List.getElem_toArray, List.getElem_cons_succ, List.getElem_cons_zero, List.setIfInBounds_toArray, List.set_cons_zero, List.set_cons_succ])
        refine wpAnyH_ready (rs := [13]) (by kernel_rfl) (by simp) (AllReadyH.cons rfl (fun K hK => ?_) AllReadyH.nil)
        go_simp
        refine (KLk.out _ (HCW.out.trans H1 (by simp))).mono ?_
        rintro e wy13 ⟨rfl, Cy⟩
        go_simp
        refine hK.out _ _ (H1.trans Cy (by simp)) (fun H2 => ?_)
        clear hK K Cy
        refine wpAnyH_ready (rs := [16]) (by kernel_rfl) (by simp) (AllReadyH.cons rfl (fun K hK => ?_) AllReadyH.nil)
        go_simp
        refine (KRk.out _ (HCW.out.trans H2 (by simp))).mono ?_
        rintro e wy16 ⟨rfl, Cy⟩
        go_simp
        refine hK.out _ _ (H2.trans Cy (by simp)) (fun H3 => ?_)
        clear hK K Cy
        refine' tkH (i := 17) (v := _) rfl (Or.inl ⟨by rfl, ?hyb17⟩) H3 ?restb17
        case hyb17 =>
          intro w' hSw
          have t1 := hSw
          go_simp
          try with_reducible rfl
        (try simp only [Act.put, List.getElem_toArray, List.getElem_cons_succ, List.getElem_cons_zero, List.setIfInBounds_toArray, List.set_cons_zero, List.set_cons_succ])
        refine' tkH (i := 18) (v := _) rfl (Or.inl ⟨by rfl, ?hyb18⟩) H3 ?restb18
        case hyb18 =>
          intro w' hSw
          have t1 := hSw
          go_simp
          try with_reducible rfl
        (try simp only [Act.put, List.getElem_toArray, List.getElem_cons_succ, List.getElem_cons_zero, List.setIfInBounds_toArray, List.set_cons_zero, List.set_cons_succ])
        refine wpAnyH_done (by kernel_rfl) ?_ _
        have HC7 := Lib.hid (HC.out.trans H3 (by simp))
        have HO7 := Lib.hid (ownsRow_chg HO.out H3 (by simp))
        have hc1 := HCB.out _ HC7.out
        change wy16.cell? _ = some (.int .i64 s2) at hc1
        have hs1 : s1 = (k : Int) := HSN.out
        clear H0 H1 H2 H3 HO HC HLA HLB K4k HCW HXL KLk KRk HCB
        generalize wy16 = w7 at *
        by_cases h4 : s2 = 4
        · have HN2 : Hid (askL (l.take (k + 1)) = askL (l.take k) ++ [(k : Int)]) := Lib.hid (by rw [HN.out]; show _ ++ (if s2 = 4 then [s1] else _) = _; rw [if_pos h4, hs1])
          obtain ⟨i0, hi0, hz0, hz1, hz2⟩ := info_parts infoIntU
          subst h4
          clear hs1 HSN
          have CB := Chg.alloc [] w7 (.cells #[.int .i64 (k : Int)] 3)
          have hown := ownsRow_chg HO7.out CB (by simp)
          have hsrc := src_row w7 #[.int .i64 (k : Int)] 3 (0, 0)
          have HAB : Hid (m + 1 ≤ maxLen ∧ (m + 1) * 8 ≤ 140737488355328) := Lib.hid (by unfold maxLen; omega)
          clear HN
          go_wp2_with (at_builtin; go_loud (refine wpList_append_y (.tmp 94) (.tmp 96) 63 rfl rfl 3 i0 _ 1 8 Tryd.underlying63 hi0 hz0 hz1 hz2 rfl (by decide) (.slice ao' m c') m (nvs (askL (l.take k))) hown (some ⟨w7.heap.size, 0, none⟩) 1 1 [.int .i64 (k : Int)] rfl hsrc (fun h => by cases h) (by simp [Value.oneCell']) HAB.out.1 HAB.out.2 rfl rfl ?_))
          intro ao2 c3 w8 hown5 hgr hblk
          have CG := Chg.grown hgr (S := (Value.slice ao' m c').ownBlock.toList) (fun b hb => .inl (by simp [hb]))
          have HC8 : Hid (Chg [] w6 w8) := Lib.hid ((HC7.out.trans CB (by simp)).trans CG (fun b hb => .inr (HNW.out b (by simpa using hb))))
          have HN5 : Hid (∀ b, (Value.slice ao2 (m + 1) c3).ownBlock = some b → w6.heap.size ≤ b) := Lib.hid (fun b hb => by
            rcases hblk with h | h <;> rw [h] at hb
            · exact HNW.out b hb
            · rw [← Option.some.inj hb]
              exact Nat.le_trans HC7.out.size (Nat.le_succ _))
          have HO5 : Hid (w8.ownsRow 0 3 1 (.slice ao2 (m + 1) c3) (m + 1) (nvs (askL (l.take (k + 1))))) := Lib.hid (by rw [HN2.out, nvs_append]; exact hown5)
          have HM8 : Hid ((askL (l.take (k + 1))).length = m + 1) := Lib.hid (by rw [HN2.out, List.length_append, HM.out]; rfl)
          clear hown5 hgr hblk hown hsrc CB CG HAB hc1 hi0 hz0 hz1 hz2
          go_wp2_with fail
          go_roundw
          case rel => exact ⟨k + 1, m + 1, c3, ao2, rfl, by go_num, hlt, Nat.succ_le_succ hmk, HM8, HO5, HN5, HC8⟩
          case measure => simp [intOf] <;> omega
        · have HN2 : Hid (askL (l.take (k + 1)) = askL (l.take k)) := Lib.hid (by rw [HN.out]; show _ ++ (if s2 = 4 then _ else _) = _; rw [if_neg h4, List.append_nil])
          have HO5 : Hid (w7.ownsRow 0 3 1 (.slice ao' m c') m (nvs (askL (l.take (k + 1))))) := Lib.hid (by rw [HN2.out]; exact HO7.out)
          have HM8 : Hid ((askL (l.take (k + 1))).length = m) := Lib.hid (by rw [HN2.out]; exact HM.out)
          have h6 : (s2 == 4) = false := by simpa using h4
          clear HN hs1 HSN
          go_wp2_with fail
          go_roundw
          case rel => exact ⟨k + 1, m, c', ao', rfl, by go_num, hlt, Nat.le_succ_of_le hmk, HM8, HO5, HNW, HC7⟩
          case measure => simp [intOf] <;> omega
      · have e1 : ¬ (k : Int) < n := fun h => hlt (Int.ofNat_lt.1 h)
        have hkn : k = n := by omega
        have HTK : Hid (l.take k = l) := Lib.hid (by rw [hkn]; exact HAL.out)
        have HM' : Hid ((askL l).length = m) := Lib.hid (by rw [← HM.out, HTK.out])
        have HO' : Hid (wr.ownsRow 0 3 1 (.slice ao' m c') m (nvs (askL l))) := Lib.hid (by have := HO.out; rwa [HTK.out] at this)
        have HCW := Lib.hid (HC6.out.trans HC.out (by simp))
        have HX7 := Lib.hid ((HC.out.block q0 (lt_of_block HX6.out) (by simp)).trans HX6.out)
        have HS7 := Lib.hid (HS6.out.chg HC.out (by simp))
        have HMM : Hid (m ≤ 1000000) := Lib.hid (by omega)
        have KAS2 := Lib.hid (by
          have := (cp_asked l po pc wr HS7.out (by rw [HLn.out]; exact hpc) (by rw [HLn.out]; omega)).mono (fun e w2 h => h.plain HM'.out)
          rewrite [HLn.out] at this
          exact this)
        clear HO HM hkn HTK hi0 hz0 hz1 hz2 HNW hmk
        go_wp2_with fail
        refine KAS2.out.mono ?_
        rintro e w8 ⟨ko, kc, rfl, hown, C8⟩
        have HC8 := Lib.hid (HCW.out.trans C8 (by simp))
        have HX8 := Lib.hid ((C8.block q0 (lt_of_block HX7.out) (by simp)).trans HX7.out)
        have HS8 := Lib.hid (HS7.out.chg C8 (by simp))
        have KSI := Lib.hid (ints_same (askL l) m HM'.out ko ao' kc c' w8 (ownsRow_src hown) (ownsRow_src (ownsRow_chg HO'.out C8 (by simp))) (own_cap hown) (own_cap HO'.out) HMM.out)
        have HC38 := Lib.hid ((HC36.out.trans HC.out (by simp)).trans C8 (by simp))
        clear C8 hown KAS2
        go_wp2_with fail
        refine KSI.out.mono ?_
        rintro e w9 ⟨rfl, C9⟩
        have HC9 := Lib.hid (HC8.out.trans C9 (by simp))
        have hldr := run_loadAt_rec w9 q0 RC _ ((C9.block q0 (lt_of_block HX8.out) (by simp)).trans HX8.out) HRC.out
        have KB2 := Lib.hid (by
          have := KBU.out l po pc (by rw [HLn.out]; exact hpc) (by rw [HLn.out]; omega) hG50 HGX2.out (some ⟨fb, 0, none⟩) (some ⟨bg, 0, none⟩) FO w9 HC9.out (HS8.out.chg C9 (by simp)) (HFA.out.1.chg (HC38.out.trans C9 (by simp))) (HFA.out.2.chg (HC38.out.trans C9 (by simp))) HFS0.out
          rewrite [HLn.out] at this
          exact this)
        clear C9 KSI
        go_wp2_with (refine wpList_load_y 77 (.tmp 5) rfl (by go_simp) (.pointer (some ⟨q0, 0, none⟩)) (.agg RC) hldr rfl ?_)
        refine KB2.out.mono ?_
        rintro e w10 ⟨rfl, C10⟩
        have HC10 := Lib.hid (HC9.out.trans C10 (by simp))
        clear C10 hldr KB2
        go_wp2_with fail
        refine (KA.out _ HC10.out).mono ?_
        rintro e wa ⟨rfl, Ca⟩
        have HCA := Lib.hid (HC10.out.trans Ca (by simp))
        clear Ca
        go_wp2_with fail
        go_ret
        exact ⟨rfl, HCA.out⟩
end Go.Proofs.YtfdhpjflkimihaaDoor
