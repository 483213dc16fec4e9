/- Steps of the reference's Find, in plain lists; four results. No conditions beyond those that each statement types. -/
import Derived.Test.YtfdhpjflkimihaaDoorBkJb
namespace Go.Proofs.YtfdhpjflkimihaaDoor
open Go.RowKit

theorem results_tmp4 {fn : Func} {t u v x : Tmp} (h : fn.results = #[.tmp t, .tmp u, .tmp v, .tmp x]) (tmps : Array Value) (P : Program) (w : World) :
    (results fn tmps).run P w = .ok (.tuple #[tmps.getD t undef, tmps.getD u undef, tmps.getD v undef, tmps.getD x undef]) w := by
  simp [results, h]
theorem idxK_first {d : List UInt8} {k : HKey} {j : Nat} (h : (keysL d)[j]? = some k) (hb : ∀ t, t < j → (keysL d)[t]? ≠ some k) : idxK d k = some j := by
  cases hi : idxK d k with
  | none => exact absurd h (idxK_none hi j)
  | some i =>
    obtain ⟨h1, h2⟩ := idxK_some hi
    rcases Nat.lt_trichotomy i j with g | g | g
    · exact absurd h1 (hb i g)
    · rw [g]
    · exact absurd h (h2 j g)
theorem idxK_no {d : List UInt8} {k : HKey} (hb : ∀ t, t < (keysL d).length → (keysL d)[t]? ≠ some k) : idxK d k = none := by
  cases hi : idxK d k with
  | none => rfl
  | some i =>
    obtain ⟨h1, _⟩ := idxK_some hi
    exact absurd h1 (hb i (List.getElem?_eq_some_iff.1 h1).1)
theorem frontF_next {R : Files} {i : Nat} {p : ByteArray × List UInt8} {k : HKey} (hp : R[i]? = some p) (h : idxK p.2 k = none) : frontF (R.drop i) k = frontF (R.drop (i + 1)) k := by
  obtain ⟨hlt, e⟩ := List.getElem?_eq_some_iff.1 hp
  rw [List.drop_eq_getElem_cons hlt, e]
  unfold frontF
  rw [h]
  cases R.drop (i + 1) <;> rfl
theorem frontF_here {R : Files} {i j : Nat} {p : ByteArray × List UInt8} {k : HKey} (hp : R[i]? = some p) (h : idxK p.2 k = some j) : frontF (R.drop i) k = some ((p.1, j), partL p.2 j) := by
  obtain ⟨hlt, e⟩ := List.getElem?_eq_some_iff.1 hp
  rw [List.drop_eq_getElem_cons hlt, e]
  unfold frontF
  rw [h]
theorem frontF_end {R : Files} {i : Nat} (h : R.length ≤ i) (k : HKey) : frontF (R.drop i) k = none := by
  rw [List.drop_eq_nil_of_le h]
  rfl
/-- What the reference's Find hands back. -/
def FoundR (w : World) (r : Option (Pl × List UInt8)) (e : Ending) (w' : World) : Prop :=
  Chg [] w w' ∧ match r with
    | none => e = .returned (.tuple #[.slice none 0 0, .string ⟨#[]⟩, .int .i64 0, .bool false])
    | some (m, xs) => ∃ v, e = .returned (.tuple #[v, .string m.1, .int .i64 m.2, .bool true]) ∧ FVal w' v xs ∧ ∀ x, v.ownBlock = some x → w.heap.size ≤ x
end Go.Proofs.YtfdhpjflkimihaaDoor
/- The reference's Find, walked. No conditions beyond those that each statement types. -/
namespace Go.Proofs.YtfdhpjflkimihaaDoor
open Go.RowKit

set_option maxRecDepth 100000 in
set_option maxHeartbeats 8000000 in
theorem ref_find (b : Nat) (R : Files) (k : HKey) (T : List Nat) (w : World) (H : RefIs w b R T) (hl : R.length ≤ 1000) (hd : ∀ p ∈ R, p.2.length ≤ 4096) :
    Calls Tryd.prog 35 #[.pointer (some ⟨b, 0, none⟩), hkV k] w (FoundR w (frontF R k)) := by
  obtain ⟨KR, hKR⟩ : ∃ KR, hkV k = .agg KR := ⟨_, rfl⟩
  have hKS : KR.size = 32 := by
    have : hkV k = .agg (hashC fun i => k.1.getD i 0) := rfl
    rw [hKR] at this
    cases this
    exact hashC_size _
  have HKS := Lib.hid hKS
  have HKR := Lib.hid hKR
  rw [hKR]
  obtain ⟨ao, c, es, h1, h2, h3, _⟩ := H
  have hlen := h3.len
  obtain ⟨n, hn⟩ : ∃ n, R.length = n := ⟨_, rfl⟩
  have HN := Lib.hid hn
  rw [hn] at h1 h2 hl hlen
  have C0 := Chg.alloc [] w (.cells KR 32)
  have hx0 := heap_alloc_new w (.cells KR 32)
  have HB : Hid (∀ wr, Chg [] w wr → wr.cell? ⟨b, 0, none⟩ = some (.slice ao n c)) := Lib.hid (fun wr C => by
    rw [cell_of_row _ _ _ _ _ _ ((C.block b (lt_of_block h1) (by simp)).trans h1)]; rfl)
  have HE : Hid (∀ i, i < n → ∃ g x d a1 c1 a2 c2, ao = some ⟨g, 0, none⟩ ∧ R[i]? = some (x, d) ∧ (∀ wr, Chg [] w wr → wr.cell? ⟨g, i * 3, none⟩ = some (.string x) ∧ wr.cell? ⟨g, i * 3 + 1, none⟩ = some (.slice a1 d.length c1) ∧ wr.cell? ⟨g, i * 3 + 2, none⟩ = some (.slice a2 (listL d).length c2)) ∧ w.ownsRow 0 5 1 (.slice a1 d.length c1) d.length (bvs d) ∧ w.ownsRow 0 32 32 (.slice a2 (listL d).length c2) (listL d).length (hvs (listL d))) := Lib.hid (fun i hi => by
    obtain ⟨e, he⟩ : ∃ e, es[i]? = some e := ⟨_, List.getElem?_eq_getElem (by omega)⟩
    obtain ⟨p, hp⟩ : ∃ p, R[i]? = some p := ⟨_, List.getElem?_eq_getElem (by omega)⟩
    obtain ⟨x, v1, v2⟩ := e
    obtain ⟨x', d⟩ := p
    obtain ⟨e0, ⟨a1, c1, e1, o1⟩, ⟨a2, c2, e2, o2⟩⟩ := h3.ent i _ _ he hp
    simp only [] at e0 e1 e2 o1 o2
    subst e0 e1 e2
    obtain ⟨g, rfl⟩ := ownsRow_head h2 (by omega)
    obtain ⟨q0, q1, q2⟩ := flvs_at he
    have y := fun j u (hj : (flvs es)[j]? = some u) => by
      have := h2.cells (g := g) rfl j u hj
      rwa [addr_add0] at this
    exact ⟨g, x, d, a1, c1, a2, c2, rfl, hp, fun wr C => ⟨C.cell_some (y _ _ q0) (by simp), C.cell_some (y _ _ q1) (by simp), C.cell_some (y _ _ q2) (by simp)⟩, o1, o2⟩)
  have HD := Lib.hid hd
  clear h1 h2 h3 hn hlen hKS hKR hd
  go_enter Tryd.func35, Tryd.ntmps35
  go_upto_region 1 with (fail)
  obtain ⟨q, hq⟩ : ∃ q, w.heap.size = q := ⟨_, rfl⟩
  rw [hq] at hx0
  try rw [hq]
  generalize w.alloc (.cells KR 32) = w0 at *
  have HX0 := Lib.hid hx0
  have HC0 := Lib.hid C0
  have HF0 : Hid (frontF (R.drop 0) k = frontF R k) := Lib.hid rfl
  clear C0 hx0 hq
  go_wp2_with fail
  go_loopw [8] (fun v wr => ∃ i : Nat, v = .int .i64 (i : Int) ∧ i ≤ n ∧ Hid (frontF (R.drop i) k = frontF R k) ∧ Hid (Chg [] w0 wr)) (fun v _ => n - (intOf v).toNat)
  case atStart => exact ⟨0, rfl, Nat.zero_le _, HF0, Lib.hid (Chg.refl _ _)⟩
  case round =>
    obtain ⟨i, rfl, hi, HF, HC⟩ := hrel
    have hb0 := HB.out wr (HC0.out.trans HC.out (by simp))
    by_cases hlt : i < n
    · have e1 : (i : Int) < n := Int.ofNat_lt.2 hlt
      have e0 : (0 : Int) ≤ i := Int.natCast_nonneg _
      obtain ⟨g, x, d, a1, c1, a2, c2, rfl, hp, hy, o1, o2⟩ := HE.out i hlt
      have hd4 : d.length ≤ 4096 := HD.out _ (List.mem_of_getElem? hp)
      have hn2b : (listL d).length ≤ 32 := by rw [listL_length]; exact cntN_le _
      have HKN : Hid ((keysL d).length = (listL d).length) := Lib.hid (by rw [keysL, List.length_map])
      obtain ⟨n2, hn2⟩ : ∃ n2, (listL d).length = n2 := ⟨_, rfl⟩
      obtain ⟨n1, hn1⟩ : ∃ n1, d.length = n1 := ⟨_, rfl⟩
      have HN2 := Lib.hid hn2
      have HN1 := Lib.hid hn1
      rw [hn1, hn2] at hy
      have HY := Lib.hid hy
      have HO1 := Lib.hid o1
      have HO2 := Lib.hid o2
      have HP := Lib.hid hp
      have HD4 := Lib.hid hd4
      rw [hn2] at hn2b
      obtain ⟨y0, y1, y2⟩ := hy wr (HC0.out.trans HC.out (by simp))
      clear hp hy o1 o2 hd4 hn1 hn2
      go_wp2_with fail
      clear hb0 y0 y1 y2
      go_loopw [9] (fun v wr => ∃ j : Nat, v = .int .i64 (j : Int) ∧ j ≤ n2 ∧ Hid (∀ t, t < j → (keysL d)[t]? ≠ some k) ∧ Hid (Chg [] w0 wr)) (fun v _ => n2 - (intOf v).toNat)
      case atStart => exact ⟨0, rfl, Nat.zero_le _, Lib.hid (fun t ht => by omega), HC⟩
      case round =>
        clear HC
        obtain ⟨j, rfl, hj, HNO, HC⟩ := hrel
        have hCW := HC0.out.trans HC.out (by simp)
        have hb0 := HB.out wr hCW
        obtain ⟨y0, y1, y2⟩ := HY.out wr hCW
        have hx := (HC.out.block q (lt_of_block HX0.out) (by simp)).trans HX0.out
        by_cases hjt : j < n2
        · have f1 : (j : Int) < n2 := Int.ofNat_lt.2 hjt
          have f0 : (0 : Int) ≤ j := Int.natCast_nonneg _
          obtain ⟨f, hf⟩ : ∃ f, (listL d)[j]? = some f := ⟨_, List.getElem?_eq_getElem (by rw [HN2.out]; exact hjt)⟩
          have hkf : (keysL d)[j]? = some (hkey f) := by rw [keysL, List.getElem?_map, hf]; rfl
          have HS := Lib.hid (show ∀ w', Chg [] wr w' → Chg [] wr w' ∧ w'.cell? ⟨b, 0, none⟩ = some (.slice (some ⟨g, 0, none⟩) n c) ∧ w'.cell? ⟨g, i * 3, none⟩ = some (.string x) ∧ w'.cell? ⟨g, i * 3 + 1, none⟩ = some (.slice a1 n1 c1) ∧ w'.cell? ⟨g, i * 3 + 2, none⟩ = some (.slice a2 n2 c2) ∧ w'.heap[q]? = some (.cells KR 32 (0, 0)) from fun w' C => ⟨C, C.cell_some hb0 (by simp), C.cell_some y0 (by simp), C.cell_some y1 (by simp), C.cell_some y2 (by simp), (C.block q (lt_of_block hx) (by simp)).trans hx⟩)
          obtain ⟨g2, rfl⟩ : ∃ g2, a2 = some ⟨g2, 0, none⟩ := ownsRow_head HO2.out (by rw [HN2.out]; omega)
          have HLD := Lib.hid (fun w' (C : Chg [] wr w') => load_of_list (ownsRow_chg HO2.out (hCW.trans C (by simp)) (by simp)) rfl hf)
          obtain ⟨BB, hBB⟩ : ∃ BB, decide (hkey f = k) = BB := ⟨_, rfl⟩
          have HQ : Hid (∀ w', (binOp .eql 32 (.agg (hashC f)) (.agg KR)).run Tryd.prog w' = .ok (.bool BB) w') := Lib.hid (fun w' => by
            have := run_eq_hash (fun t => (hkey f).1.getD t 0) (fun t => k.1.getD t 0) w'
            rw [sameHash_key, hBB, show hashV (fun t => (hkey f).1.getD t 0) = hashV f from hkV_hkey f, show hashV (fun t => k.1.getD t 0) = .agg KR from HKR.out] at this
            exact this)
          have HPT := Lib.hid (fun w' (C : Chg [] wr w') => by
            have := ref_part d j a1 c1 w' (ownsRow_src (ownsRow_chg HO1.out (hCW.trans C (by simp)) (by simp))) (by obtain ⟨_, _, e, h, _⟩ := ownsRow_slice HO1.out; cases e; exact h) (by have := HD4.out; omega)
            rw [HN1.out] at this
            exact this)
          go_upto_region 7 with (fail)
          by_cases hk : hkey f = k
          · have hBT : BB = true := by rw [← hBB]; exact decide_eq_true hk
            subst hBT
            have HR : Hid (frontF R k = some ((x, j), partL d j)) := Lib.hid (by
              rw [← HF.out]
              exact frontF_here HP.out (idxK_first (by rw [hkf, hk]) HNO.out))
            have HPZ : Hid (partZ d j = partL d j) := Lib.hid (by
              unfold partZ
              rw [if_pos ⟨f0, by rw [← keysL_length, HKN.out, HN2.out]; simpa using hjt⟩]
              rfl)
            clear hkf hf hBB hk hx
            refine wp_region_held_drew (S := fun w' => Chg [] wr w' ∧ w'.cell? ⟨b, 0, none⟩ = some (.slice (some ⟨g, 0, none⟩) n c) ∧ w'.cell? ⟨g, i * 3, none⟩ = some (.string x) ∧ w'.cell? ⟨g, i * 3 + 1, none⟩ = some (.slice a1 n1 c1) ∧ w'.cell? ⟨g, i * 3 + 2, none⟩ = some (.slice (some ⟨g2, 0, none⟩) n2 c2) ∧ w'.heap[q]? = some (.cells KR 32 (0, 0))) (by kernel_rfl) (HS.out _ (Chg.drewN _ wr 1)) (fun H0 => ?_)
            refine' wpAnyH_take (i := 0) (v := _) rfl (by kernel_rfl) (by kernel_rfl) (by kernel_rfl) (fun _ _ _ h => h) (Or.inl ⟨by rfl, ?hya0⟩) H0 ?resta0
            case hya0 =>
              intro w' hSw
              obtain ⟨s1, s2, s3, s4, s5, s6⟩ := hSw
              go_simp
              try with_reducible rfl
            (try simp only [Act.put, List.getElem_toArray, List.getElem_cons_zero, List.setIfInBounds_toArray, List.set_cons_zero, List.set_cons_succ])
            refine' wpAnyH_take (i := 1) (v := _) rfl (by kernel_rfl) (by kernel_rfl) (by kernel_rfl) (fun _ _ _ h => h) (Or.inl ⟨by rfl, ?hya1⟩) H0 ?resta1
            case hya1 =>
              intro w' hSw
              obtain ⟨s1, s2, s3, s4, s5, s6⟩ := hSw
              go_simp
              try with_reducible rfl
            (try simp only [Act.put, List.getElem_toArray, List.getElem_cons_succ, List.getElem_cons_zero, List.setIfInBounds_toArray, List.set_cons_zero, List.set_cons_succ])
            refine' wpAnyH_take (i := 2) (v := _) rfl (by kernel_rfl) (by kernel_rfl) (by kernel_rfl) (fun _ _ _ h => h) (Or.inl ⟨by rfl, ?hya2⟩) H0 ?resta2
            case hya2 =>
              intro w' hSw
              obtain ⟨s1, s2, s3, s4, s5, s6⟩ := hSw
              go_simp
              try with_reducible rfl
            (try simp only [Act.put, List.getElem_toArray, List.getElem_cons_succ, List.getElem_cons_zero, List.setIfInBounds_toArray, List.set_cons_zero, List.set_cons_succ])
            refine' wpAnyH_take (i := 3) (v := _) rfl (by kernel_rfl) (by kernel_rfl) (by kernel_rfl) (fun _ _ _ h => h) (Or.inl ⟨by rfl, ?hya3⟩) H0 ?resta3
            case hya3 =>
              intro w' hSw
              obtain ⟨s1, s2, s3, s4, s5, s6⟩ := hSw
              go_simp
              try with_reducible rfl
            (try simp only [Act.put, List.getElem_toArray, List.getElem_cons_succ, List.getElem_cons_zero, List.setIfInBounds_toArray, List.set_cons_zero, List.set_cons_succ])
            refine' wpAnyH_take (i := 4) (v := _) rfl (by kernel_rfl) (by kernel_rfl) (by kernel_rfl) (fun _ _ _ h => h) (Or.inl ⟨by rfl, ?hya4⟩) H0 ?resta4
            case hya4 =>
              intro w' hSw
              obtain ⟨s1, s2, s3, s4, s5, s6⟩ := hSw
              go_simp
              try with_reducible rfl
            (try simp only [Act.put, List.getElem_toArray, List.getElem_cons_succ, List.getElem_cons_zero, List.setIfInBounds_toArray, List.set_cons_zero, List.set_cons_succ])
            refine' wpAnyH_take (i := 5) (v := _) rfl (by kernel_rfl) (by kernel_rfl) (by kernel_rfl) (fun _ _ _ h => h) (Or.inl ⟨by rfl, ?hya5⟩) H0 ?resta5
            case hya5 =>
              intro w' hSw
              obtain ⟨s1, s2, s3, s4, s5, s6⟩ := hSw
              go_simp
              try with_reducible rfl
            (try simp only [Act.put, List.getElem_toArray, List.getElem_cons_succ, List.getElem_cons_zero, List.setIfInBounds_toArray, List.set_cons_zero, List.set_cons_succ])
            refine' wpAnyH_take (i := 6) (v := _) rfl (by kernel_rfl) (by kernel_rfl) (by kernel_rfl) (fun _ _ _ h => h) (Or.inl ⟨by rfl, ?hya6⟩) H0 ?resta6
            case hya6 =>
              intro w' hSw
              obtain ⟨s1, s2, s3, s4, s5, s6⟩ := hSw
              go_simp
              try with_reducible rfl
            (try simp only [Act.put, List.getElem_toArray, List.getElem_cons_succ, List.getElem_cons_zero, List.setIfInBounds_toArray, List.set_cons_zero, List.set_cons_succ])
            refine' wpAnyH_take (i := 7) (v := _) rfl (by kernel_rfl) (by kernel_rfl) (by kernel_rfl) (fun _ _ _ h => h) (Or.inl ⟨by rfl, ?hya7⟩) H0 ?resta7
            case hya7 =>
              intro w' hSw
              obtain ⟨s1, s2, s3, s4, s5, s6⟩ := hSw
              go_simp
              try with_reducible rfl
            (try simp only [Act.put, List.getElem_toArray, List.getElem_cons_succ, List.getElem_cons_zero, List.setIfInBounds_toArray, List.set_cons_zero, List.set_cons_succ])
            refine' wpAnyH_take (i := 8) (v := _) rfl (by kernel_rfl) (by kernel_rfl) (by kernel_rfl) (fun _ _ _ h => h) (Or.inl ⟨by rfl, ?hya8⟩) H0 ?resta8
            case hya8 =>
              intro w' hSw
              obtain ⟨s1, s2, s3, s4, s5, s6⟩ := hSw
              go_simp
              try with_reducible rfl
            (try simp only [Act.put, List.getElem_toArray, List.getElem_cons_succ, List.getElem_cons_zero, List.setIfInBounds_toArray, List.set_cons_zero, List.set_cons_succ])
            refine' wpAnyH_take (i := 9) (v := _) rfl (by kernel_rfl) (by kernel_rfl) (by kernel_rfl) (fun _ _ _ h => h) (Or.inl ⟨by rfl, ?hya9⟩) H0 ?resta9
            case hya9 =>
              intro w' hSw
              obtain ⟨s1, s2, s3, s4, s5, s6⟩ := hSw
              go_simp
              try with_reducible rfl
            (try simp only [Act.put, List.getElem_toArray, List.getElem_cons_succ, List.getElem_cons_zero, List.setIfInBounds_toArray, List.set_cons_zero, List.set_cons_succ])
            refine' wpAnyH_take (i := 10) (v := .agg (hashC f)) rfl (by kernel_rfl) (by kernel_rfl) (by kernel_rfl) (fun _ _ _ h => h) (Or.inl ⟨by rfl, ?hya10⟩) H0 ?resta10
            case hya10 =>
              intro w' hSw
              obtain ⟨s1, s2, s3, s4, s5, s6⟩ := hSw
              have hl := HLD.out w' s1
              simp [execOp, Act.eval, hl, Result.andThen]
            (try simp only [Act.put, List.getElem_toArray, List.getElem_cons_succ, List.getElem_cons_zero, List.setIfInBounds_toArray, List.set_cons_zero, List.set_cons_succ])
            refine' wpAnyH_take (i := 11) (v := .agg KR) rfl (by kernel_rfl) (by kernel_rfl) (by kernel_rfl) (fun _ _ _ h => h) (Or.inl ⟨by rfl, ?hya11⟩) H0 ?resta11
            case hya11 =>
              intro w' hSw
              obtain ⟨s1, s2, s3, s4, s5, s6⟩ := hSw
              have hl := run_load_hash w' _ _ _ _ s6 HKS.out
              simp [execOp, Act.eval, hl, Result.andThen]
            (try simp only [Act.put, List.getElem_toArray, List.getElem_cons_succ, List.getElem_cons_zero, List.setIfInBounds_toArray, List.set_cons_zero, List.set_cons_succ])
            refine' wpAnyH_take (i := 12) (v := .bool true) rfl (by kernel_rfl) (by kernel_rfl) (by kernel_rfl) (fun _ _ _ h => h) (Or.inl ⟨by rfl, ?hya12⟩) H0 ?resta12
            case hya12 =>
              intro w' hSw
              obtain ⟨s1, s2, s3, s4, s5, s6⟩ := hSw
              have hqq := HQ.out w'
              simp [execOp, Act.eval, hash_guard, hqq, Result.andThen]
            (try simp only [Act.put, List.getElem_toArray, List.getElem_cons_succ, List.getElem_cons_zero, List.setIfInBounds_toArray, List.set_cons_zero, List.set_cons_succ])
            refine wpAnyH_done (by kernel_rfl) ?_ _
            go_upto_region 8 with (fail)
            refine wp_region_held_drew (S := fun w' => Chg [] wr w' ∧ w'.cell? ⟨b, 0, none⟩ = some (.slice (some ⟨g, 0, none⟩) n c) ∧ w'.cell? ⟨g, i * 3, none⟩ = some (.string x) ∧ w'.cell? ⟨g, i * 3 + 1, none⟩ = some (.slice a1 n1 c1) ∧ w'.cell? ⟨g, i * 3 + 2, none⟩ = some (.slice (some ⟨g2, 0, none⟩) n2 c2) ∧ w'.heap[q]? = some (.cells KR 32 (0, 0))) (by kernel_rfl) (HS.out _ (H0.1.trans (Chg.drewN [] _ 1) (by simp))) (fun H0 => ?_)
            refine' wpAnyH_take (i := 0) (v := _) rfl (by kernel_rfl) (by kernel_rfl) (by kernel_rfl) (fun _ _ _ h => h) (Or.inl ⟨by rfl, ?hyb0⟩) H0 ?restb0
            case hyb0 =>
              intro w' hSw
              obtain ⟨s1, s2, s3, s4, s5, s6⟩ := hSw
              go_simp
              try with_reducible rfl
            (try simp only [Act.put, List.getElem_toArray, List.getElem_cons_zero, List.setIfInBounds_toArray, List.set_cons_zero, List.set_cons_succ])
            refine' wpAnyH_take (i := 1) (v := _) rfl (by kernel_rfl) (by kernel_rfl) (by kernel_rfl) (fun _ _ _ h => h) (Or.inl ⟨by rfl, ?hyb1⟩) H0 ?restb1
            case hyb1 =>
              intro w' hSw
              obtain ⟨s1, s2, s3, s4, s5, s6⟩ := hSw
              go_simp
              try with_reducible rfl
            (try simp only [Act.put, List.getElem_toArray, List.getElem_cons_succ, List.getElem_cons_zero, List.setIfInBounds_toArray, List.set_cons_zero, List.set_cons_succ])
            refine' wpAnyH_take (i := 2) (v := _) rfl (by kernel_rfl) (by kernel_rfl) (by kernel_rfl) (fun _ _ _ h => h) (Or.inl ⟨by rfl, ?hyb2⟩) H0 ?restb2
            case hyb2 =>
              intro w' hSw
              obtain ⟨s1, s2, s3, s4, s5, s6⟩ := hSw
              go_simp
              try with_reducible rfl
            (try simp only [Act.put, List.getElem_toArray, List.getElem_cons_succ, List.getElem_cons_zero, List.setIfInBounds_toArray, List.set_cons_zero, List.set_cons_succ])
            refine' wpAnyH_take (i := 3) (v := _) rfl (by kernel_rfl) (by kernel_rfl) (by kernel_rfl) (fun _ _ _ h => h) (Or.inl ⟨by rfl, ?hyb3⟩) H0 ?restb3
            case hyb3 =>
              intro w' hSw
              obtain ⟨s1, s2, s3, s4, s5, s6⟩ := hSw
              go_simp
              try with_reducible rfl
            (try simp only [Act.put, List.getElem_toArray, List.getElem_cons_succ, List.getElem_cons_zero, List.setIfInBounds_toArray, List.set_cons_zero, List.set_cons_succ])
            refine' wpAnyH_take (i := 4) (v := _) rfl (by kernel_rfl) (by kernel_rfl) (by kernel_rfl) (fun _ _ _ h => h) (Or.inl ⟨by rfl, ?hyb4⟩) H0 ?restb4
            case hyb4 =>
              intro w' hSw
              obtain ⟨s1, s2, s3, s4, s5, s6⟩ := hSw
              go_simp
              try with_reducible rfl
            (try simp only [Act.put, List.getElem_toArray, List.getElem_cons_succ, List.getElem_cons_zero, List.setIfInBounds_toArray, List.set_cons_zero, List.set_cons_succ])
            refine' wpAnyH_take (i := 5) (v := _) rfl (by kernel_rfl) (by kernel_rfl) (by kernel_rfl) (fun _ _ _ h => h) (Or.inl ⟨by rfl, ?hyb5⟩) H0 ?restb5
            case hyb5 =>
              intro w' hSw
              obtain ⟨s1, s2, s3, s4, s5, s6⟩ := hSw
              go_simp
              try with_reducible rfl
            (try simp only [Act.put, List.getElem_toArray, List.getElem_cons_succ, List.getElem_cons_zero, List.setIfInBounds_toArray, List.set_cons_zero, List.set_cons_succ])
            refine' wpAnyH_take (i := 6) (v := _) rfl (by kernel_rfl) (by kernel_rfl) (by kernel_rfl) (fun _ _ _ h => h) (Or.inl ⟨by rfl, ?hyb6⟩) H0 ?restb6
            case hyb6 =>
              intro w' hSw
              obtain ⟨s1, s2, s3, s4, s5, s6⟩ := hSw
              go_simp
              try with_reducible rfl
            (try simp only [Act.put, List.getElem_toArray, List.getElem_cons_succ, List.getElem_cons_zero, List.setIfInBounds_toArray, List.set_cons_zero, List.set_cons_succ])
            refine' wpAnyH_take (i := 7) (v := _) rfl (by kernel_rfl) (by kernel_rfl) (by kernel_rfl) (fun _ _ _ h => h) (Or.inl ⟨by rfl, ?hyb7⟩) H0 ?restb7
            case hyb7 =>
              intro w' hSw
              obtain ⟨s1, s2, s3, s4, s5, s6⟩ := hSw
              go_simp
              try with_reducible rfl
            (try simp only [Act.put, List.getElem_toArray, List.getElem_cons_succ, List.getElem_cons_zero, List.setIfInBounds_toArray, List.set_cons_zero, List.set_cons_succ])
            refine' wpAnyH_take (i := 8) (v := _) rfl (by kernel_rfl) (by kernel_rfl) (by kernel_rfl) (fun _ _ _ h => h) (Or.inl ⟨by rfl, ?hyb8⟩) H0 ?restb8
            case hyb8 =>
              intro w' hSw
              obtain ⟨s1, s2, s3, s4, s5, s6⟩ := hSw
              go_simp
              try with_reducible rfl
            (try simp only [Act.put, List.getElem_toArray, List.getElem_cons_succ, List.getElem_cons_zero, List.setIfInBounds_toArray, List.set_cons_zero, List.set_cons_succ])
            refine' wpAnyH_take (i := 10) (v := _) rfl (by kernel_rfl) (by kernel_rfl) (by kernel_rfl) (fun _ _ _ h => h) (Or.inl ⟨by rfl, ?hyb10⟩) H0 ?restb10
            case hyb10 =>
              intro w' hSw
              obtain ⟨s1, s2, s3, s4, s5, s6⟩ := hSw
              go_simp
              try with_reducible rfl
            (try simp only [Act.put, List.getElem_toArray, List.getElem_cons_succ, List.getElem_cons_zero, List.setIfInBounds_toArray, List.set_cons_zero, List.set_cons_succ])
            refine' wpAnyH_take (i := 11) (v := _) rfl (by kernel_rfl) (by kernel_rfl) (by kernel_rfl) (fun _ _ _ h => h) (Or.inl ⟨by rfl, ?hyb11⟩) H0 ?restb11
            case hyb11 =>
              intro w' hSw
              obtain ⟨s1, s2, s3, s4, s5, s6⟩ := hSw
              go_simp
              try with_reducible rfl
            (try simp only [Act.put, List.getElem_toArray, List.getElem_cons_succ, List.getElem_cons_zero, List.setIfInBounds_toArray, List.set_cons_zero, List.set_cons_succ])
            refine' wpAnyH_take (i := 12) (v := _) rfl (by kernel_rfl) (by kernel_rfl) (by kernel_rfl) (fun _ _ _ h => h) (Or.inl ⟨by rfl, ?hyb12⟩) H0 ?restb12
            case hyb12 =>
              intro w' hSw
              obtain ⟨s1, s2, s3, s4, s5, s6⟩ := hSw
              go_simp
              try with_reducible rfl
            (try simp only [Act.put, List.getElem_toArray, List.getElem_cons_succ, List.getElem_cons_zero, List.setIfInBounds_toArray, List.set_cons_zero, List.set_cons_succ])
            refine' wpAnyH_take (i := 13) (v := _) rfl (by kernel_rfl) (by kernel_rfl) (by kernel_rfl) (fun _ _ _ h => h) (Or.inl ⟨by rfl, ?hyb13⟩) H0 ?restb13
            case hyb13 =>
              intro w' hSw
              obtain ⟨s1, s2, s3, s4, s5, s6⟩ := hSw
              go_simp
              try with_reducible rfl
            (try simp only [Act.put, List.getElem_toArray, List.getElem_cons_succ, List.getElem_cons_zero, List.setIfInBounds_toArray, List.set_cons_zero, List.set_cons_succ])
            refine' wpAnyH_take (i := 14) (v := _) rfl (by kernel_rfl) (by kernel_rfl) (by kernel_rfl) (fun _ _ _ h => h) (Or.inl ⟨by rfl, ?hyb14⟩) H0 ?restb14
            case hyb14 =>
              intro w' hSw
              obtain ⟨s1, s2, s3, s4, s5, s6⟩ := hSw
              go_simp
              try with_reducible rfl
            (try simp only [Act.put, List.getElem_toArray, List.getElem_cons_succ, List.getElem_cons_zero, List.setIfInBounds_toArray, List.set_cons_zero, List.set_cons_succ])
            refine' wpAnyH_take (i := 15) (v := _) rfl (by kernel_rfl) (by kernel_rfl) (by kernel_rfl) (fun _ _ _ h => h) (Or.inl ⟨by rfl, ?hyb15⟩) H0 ?restb15
            case hyb15 =>
              intro w' hSw
              obtain ⟨s1, s2, s3, s4, s5, s6⟩ := hSw
              go_simp
              try with_reducible rfl
            (try simp only [Act.put, List.getElem_toArray, List.getElem_cons_succ, List.getElem_cons_zero, List.setIfInBounds_toArray, List.set_cons_zero, List.set_cons_succ])
            refine' wpAnyH_take (i := 16) (v := _) rfl (by kernel_rfl) (by kernel_rfl) (by kernel_rfl) (fun _ _ _ h => h) (Or.inl ⟨by rfl, ?hyb16⟩) H0 ?restb16
            case hyb16 =>
              intro w' hSw
              obtain ⟨s1, s2, s3, s4, s5, s6⟩ := hSw
              go_simp
              try with_reducible rfl
            (try simp only [Act.put, List.getElem_toArray, List.getElem_cons_succ, List.getElem_cons_zero, List.setIfInBounds_toArray, List.set_cons_zero, List.set_cons_succ])
            refine' wpAnyH_take (i := 17) (v := _) rfl (by kernel_rfl) (by kernel_rfl) (by kernel_rfl) (fun _ _ _ h => h) (Or.inl ⟨by rfl, ?hyb17⟩) H0 ?restb17
            case hyb17 =>
              intro w' hSw
              obtain ⟨s1, s2, s3, s4, s5, s6⟩ := hSw
              go_simp
              try with_reducible rfl
            (try simp only [Act.put, List.getElem_toArray, List.getElem_cons_succ, List.getElem_cons_zero, List.setIfInBounds_toArray, List.set_cons_zero, List.set_cons_succ])
            refine' wpAnyH_take (i := 18) (v := _) rfl (by kernel_rfl) (by kernel_rfl) (by kernel_rfl) (fun _ _ _ h => h) (Or.inl ⟨by rfl, ?hyb18⟩) H0 ?restb18
            case hyb18 =>
              intro w' hSw
              obtain ⟨s1, s2, s3, s4, s5, s6⟩ := hSw
              go_simp
              try with_reducible rfl
            (try simp only [Act.put, List.getElem_toArray, List.getElem_cons_succ, List.getElem_cons_zero, List.setIfInBounds_toArray, List.set_cons_zero, List.set_cons_succ])
            refine wpAnyH_ready (rs := [9]) (by kernel_rfl) (by simp) (AllReadyH.cons rfl (fun K hK => ?_) AllReadyH.nil)
            go_simp
            refine (HPT.out _ (H0).1).mono ?_
            rintro e wx ⟨v, rfl, hfv, hnv, Cx⟩
            go_simp
            refine hK.out _ _ (HS.out _ ((H0).1.trans Cx (by simp))) (fun H1 => ?_)
            clear hK K
            refine' wpAnyH_take (i := 19) (v := _) rfl (by kernel_rfl) (by kernel_rfl) (by kernel_rfl) (fun _ _ _ h => h) (Or.inl ⟨by rfl, ?hyb19⟩) H1 ?restb19
            case hyb19 =>
              intro w' hSw
              obtain ⟨s1, s2, s3, s4, s5, s6⟩ := hSw
              go_simp
              try with_reducible rfl
            (try simp only [Act.put, List.getElem_toArray, List.getElem_cons_succ, List.getElem_cons_zero, List.setIfInBounds_toArray, List.set_cons_zero, List.set_cons_succ])
            refine' wpAnyH_take (i := 20) (v := _) rfl (by kernel_rfl) (by kernel_rfl) (by kernel_rfl) (fun _ _ _ h => h) (Or.inl ⟨by rfl, ?hyb20⟩) H1 ?restb20
            case hyb20 =>
              intro w' hSw
              obtain ⟨s1, s2, s3, s4, s5, s6⟩ := hSw
              go_simp
              try with_reducible rfl
            (try simp only [Act.put, List.getElem_toArray, List.getElem_cons_succ, List.getElem_cons_zero, List.setIfInBounds_toArray, List.set_cons_zero, List.set_cons_succ])
            refine' wpAnyH_take (i := 21) (v := _) rfl (by kernel_rfl) (by kernel_rfl) (by kernel_rfl) (fun _ _ _ h => h) (Or.inl ⟨by rfl, ?hyb21⟩) H1 ?restb21
            case hyb21 =>
              intro w' hSw
              obtain ⟨s1, s2, s3, s4, s5, s6⟩ := hSw
              go_simp
              try with_reducible rfl
            (try simp only [Act.put, List.getElem_toArray, List.getElem_cons_succ, List.getElem_cons_zero, List.setIfInBounds_toArray, List.set_cons_zero, List.set_cons_succ])
            refine' wpAnyH_take (i := 22) (v := _) rfl (by kernel_rfl) (by kernel_rfl) (by kernel_rfl) (fun _ _ _ h => h) (Or.inl ⟨by rfl, ?hyb22⟩) H1 ?restb22
            case hyb22 =>
              intro w' hSw
              obtain ⟨s1, s2, s3, s4, s5, s6⟩ := hSw
              go_simp
              try with_reducible rfl
            (try simp only [Act.put, List.getElem_toArray, List.getElem_cons_succ, List.getElem_cons_zero, List.setIfInBounds_toArray, List.set_cons_zero, List.set_cons_succ])
            refine wpAnyH_done (by kernel_rfl) ?_ _
            have HC6 := Lib.hid (hCW.trans H1.1 (by simp))
            have HSZ := Lib.hid (hCW.trans H0.1 (by simp)).size
            rw [HPZ.out] at hfv
            have HFV := Lib.hid hfv
            have HNV := Lib.hid hnv
            clear hfv hnv Cx H0 H1 hb0 y0 y1 y2
            go_wp2_with fail
            ((try simp only [Exit.inBlock, Exit.then]); refine bodyPost_ret (results_tmp4 rfl _ _ _) rfl ?_)
            rw [HR.out]
            exact ⟨HC6.out, v, rfl, HFV.out, fun y hy => Nat.le_trans HSZ.out (HNV.out y hy)⟩
          · have hBF : BB = false := by rw [← hBB]; exact decide_eq_false hk
            subst hBF
            have HNO2 : Hid (∀ t, t < j + 1 → (keysL d)[t]? ≠ some k) := Lib.hid (fun t ht => by
              rcases Nat.lt_or_ge t j with g | g
              · exact HNO.out t g
              · have : t = j := by omega
                rw [this, hkf]
                exact fun e => hk (Option.some.inj e))
            clear hkf hf hBB hk hx
            refine wp_region_held_drew (S := fun w' => Chg [] wr w' ∧ w'.cell? ⟨b, 0, none⟩ = some (.slice (some ⟨g, 0, none⟩) n c) ∧ w'.cell? ⟨g, i * 3, none⟩ = some (.string x) ∧ w'.cell? ⟨g, i * 3 + 1, none⟩ = some (.slice a1 n1 c1) ∧ w'.cell? ⟨g, i * 3 + 2, none⟩ = some (.slice (some ⟨g2, 0, none⟩) n2 c2) ∧ w'.heap[q]? = some (.cells KR 32 (0, 0))) (by kernel_rfl) (HS.out _ (Chg.drewN _ wr 1)) (fun H0 => ?_)
            refine' wpAnyH_take (i := 0) (v := _) rfl (by kernel_rfl) (by kernel_rfl) (by kernel_rfl) (fun _ _ _ h => h) (Or.inl ⟨by rfl, ?hyc0⟩) H0 ?restc0
            case hyc0 =>
              intro w' hSw
              obtain ⟨s1, s2, s3, s4, s5, s6⟩ := hSw
              go_simp
              try with_reducible rfl
            (try simp only [Act.put, List.getElem_toArray, List.getElem_cons_zero, List.setIfInBounds_toArray, List.set_cons_zero, List.set_cons_succ])
            refine' wpAnyH_take (i := 1) (v := _) rfl (by kernel_rfl) (by kernel_rfl) (by kernel_rfl) (fun _ _ _ h => h) (Or.inl ⟨by rfl, ?hyc1⟩) H0 ?restc1
            case hyc1 =>
              intro w' hSw
              obtain ⟨s1, s2, s3, s4, s5, s6⟩ := hSw
              go_simp
              try with_reducible rfl
            (try simp only [Act.put, List.getElem_toArray, List.getElem_cons_succ, List.getElem_cons_zero, List.setIfInBounds_toArray, List.set_cons_zero, List.set_cons_succ])
            refine' wpAnyH_take (i := 2) (v := _) rfl (by kernel_rfl) (by kernel_rfl) (by kernel_rfl) (fun _ _ _ h => h) (Or.inl ⟨by rfl, ?hyc2⟩) H0 ?restc2
            case hyc2 =>
              intro w' hSw
              obtain ⟨s1, s2, s3, s4, s5, s6⟩ := hSw
              go_simp
              try with_reducible rfl
            (try simp only [Act.put, List.getElem_toArray, List.getElem_cons_succ, List.getElem_cons_zero, List.setIfInBounds_toArray, List.set_cons_zero, List.set_cons_succ])
            refine' wpAnyH_take (i := 3) (v := _) rfl (by kernel_rfl) (by kernel_rfl) (by kernel_rfl) (fun _ _ _ h => h) (Or.inl ⟨by rfl, ?hyc3⟩) H0 ?restc3
            case hyc3 =>
              intro w' hSw
              obtain ⟨s1, s2, s3, s4, s5, s6⟩ := hSw
              go_simp
              try with_reducible rfl
            (try simp only [Act.put, List.getElem_toArray, List.getElem_cons_succ, List.getElem_cons_zero, List.setIfInBounds_toArray, List.set_cons_zero, List.set_cons_succ])
            refine' wpAnyH_take (i := 4) (v := _) rfl (by kernel_rfl) (by kernel_rfl) (by kernel_rfl) (fun _ _ _ h => h) (Or.inl ⟨by rfl, ?hyc4⟩) H0 ?restc4
            case hyc4 =>
              intro w' hSw
              obtain ⟨s1, s2, s3, s4, s5, s6⟩ := hSw
              go_simp
              try with_reducible rfl
            (try simp only [Act.put, List.getElem_toArray, List.getElem_cons_succ, List.getElem_cons_zero, List.setIfInBounds_toArray, List.set_cons_zero, List.set_cons_succ])
            refine' wpAnyH_take (i := 5) (v := _) rfl (by kernel_rfl) (by kernel_rfl) (by kernel_rfl) (fun _ _ _ h => h) (Or.inl ⟨by rfl, ?hyc5⟩) H0 ?restc5
            case hyc5 =>
              intro w' hSw
              obtain ⟨s1, s2, s3, s4, s5, s6⟩ := hSw
              go_simp
              try with_reducible rfl
            (try simp only [Act.put, List.getElem_toArray, List.getElem_cons_succ, List.getElem_cons_zero, List.setIfInBounds_toArray, List.set_cons_zero, List.set_cons_succ])
            refine' wpAnyH_take (i := 6) (v := _) rfl (by kernel_rfl) (by kernel_rfl) (by kernel_rfl) (fun _ _ _ h => h) (Or.inl ⟨by rfl, ?hyc6⟩) H0 ?restc6
            case hyc6 =>
              intro w' hSw
              obtain ⟨s1, s2, s3, s4, s5, s6⟩ := hSw
              go_simp
              try with_reducible rfl
            (try simp only [Act.put, List.getElem_toArray, List.getElem_cons_succ, List.getElem_cons_zero, List.setIfInBounds_toArray, List.set_cons_zero, List.set_cons_succ])
            refine' wpAnyH_take (i := 7) (v := _) rfl (by kernel_rfl) (by kernel_rfl) (by kernel_rfl) (fun _ _ _ h => h) (Or.inl ⟨by rfl, ?hyc7⟩) H0 ?restc7
            case hyc7 =>
              intro w' hSw
              obtain ⟨s1, s2, s3, s4, s5, s6⟩ := hSw
              go_simp
              try with_reducible rfl
            (try simp only [Act.put, List.getElem_toArray, List.getElem_cons_succ, List.getElem_cons_zero, List.setIfInBounds_toArray, List.set_cons_zero, List.set_cons_succ])
            refine' wpAnyH_take (i := 8) (v := _) rfl (by kernel_rfl) (by kernel_rfl) (by kernel_rfl) (fun _ _ _ h => h) (Or.inl ⟨by rfl, ?hyc8⟩) H0 ?restc8
            case hyc8 =>
              intro w' hSw
              obtain ⟨s1, s2, s3, s4, s5, s6⟩ := hSw
              go_simp
              try with_reducible rfl
            (try simp only [Act.put, List.getElem_toArray, List.getElem_cons_succ, List.getElem_cons_zero, List.setIfInBounds_toArray, List.set_cons_zero, List.set_cons_succ])
            refine' wpAnyH_take (i := 9) (v := _) rfl (by kernel_rfl) (by kernel_rfl) (by kernel_rfl) (fun _ _ _ h => h) (Or.inl ⟨by rfl, ?hyc9⟩) H0 ?restc9
            case hyc9 =>
              intro w' hSw
              obtain ⟨s1, s2, s3, s4, s5, s6⟩ := hSw
              go_simp
              try with_reducible rfl
            (try simp only [Act.put, List.getElem_toArray, List.getElem_cons_succ, List.getElem_cons_zero, List.setIfInBounds_toArray, List.set_cons_zero, List.set_cons_succ])
            refine' wpAnyH_take (i := 10) (v := .agg (hashC f)) rfl (by kernel_rfl) (by kernel_rfl) (by kernel_rfl) (fun _ _ _ h => h) (Or.inl ⟨by rfl, ?hyc10⟩) H0 ?restc10
            case hyc10 =>
              intro w' hSw
              obtain ⟨s1, s2, s3, s4, s5, s6⟩ := hSw
              have hl := HLD.out w' s1
              simp [execOp, Act.eval, hl, Result.andThen]
            (try simp only [Act.put, List.getElem_toArray, List.getElem_cons_succ, List.getElem_cons_zero, List.setIfInBounds_toArray, List.set_cons_zero, List.set_cons_succ])
            refine' wpAnyH_take (i := 11) (v := .agg KR) rfl (by kernel_rfl) (by kernel_rfl) (by kernel_rfl) (fun _ _ _ h => h) (Or.inl ⟨by rfl, ?hyc11⟩) H0 ?restc11
            case hyc11 =>
              intro w' hSw
              obtain ⟨s1, s2, s3, s4, s5, s6⟩ := hSw
              have hl := run_load_hash w' _ _ _ _ s6 HKS.out
              simp [execOp, Act.eval, hl, Result.andThen]
            (try simp only [Act.put, List.getElem_toArray, List.getElem_cons_succ, List.getElem_cons_zero, List.setIfInBounds_toArray, List.set_cons_zero, List.set_cons_succ])
            refine' wpAnyH_take (i := 12) (v := .bool false) rfl (by kernel_rfl) (by kernel_rfl) (by kernel_rfl) (fun _ _ _ h => h) (Or.inl ⟨by rfl, ?hyc12⟩) H0 ?restc12
            case hyc12 =>
              intro w' hSw
              obtain ⟨s1, s2, s3, s4, s5, s6⟩ := hSw
              have hqq := HQ.out w'
              simp [execOp, Act.eval, hash_guard, hqq, Result.andThen]
            (try simp only [Act.put, List.getElem_toArray, List.getElem_cons_succ, List.getElem_cons_zero, List.setIfInBounds_toArray, List.set_cons_zero, List.set_cons_succ])
            refine wpAnyH_done (by kernel_rfl) ?_ _
            have HC6 := Lib.hid (HC.out.trans H0.1 (by simp))
            clear H0
            go_wp2_with fail
            go_roundw
            case rel => exact ⟨j + 1, by go_num, hjt, HNO2, HC6⟩
            case measure => simp [intOf] <;> omega
        · have f1 : ¬ (j : Int) < n2 := fun h => hjt (Int.ofNat_lt.1 h)
          have HF2 : Hid (frontF (R.drop (i + 1)) k = frontF R k) := Lib.hid (by
            rw [← HF.out, frontF_next HP.out (idxK_no (fun t ht => HNO.out t (by rw [HKN.out, HN2.out] at ht; omega)))])
          clear hx
          go_wp2_with fail
          go_roundw
          case rel => exact ⟨i + 1, by go_num, hlt, HF2, HC⟩
          case measure => simp [intOf] <;> omega
    · have e1 : ¬ (i : Int) < n := fun h => hlt (Int.ofNat_lt.1 h)
      have HR : Hid (frontF R k = none) := Lib.hid (by rw [← HF.out]; exact frontF_end (by rw [HN.out]; omega) k)
      go_wp2_with fail
      ((try simp only [Exit.inBlock, Exit.then]); refine bodyPost_ret (results_tmp4 rfl _ _ _) rfl ?_)
      rw [HR.out]
      exact ⟨HC0.out.trans HC.out (by simp), rfl⟩
end Go.Proofs.YtfdhpjflkimihaaDoor
