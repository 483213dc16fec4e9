/- What Left and Stuck of the reference's fetch do to memory. No conditions beyond those that each statement types. -/
import Derived.Test.YtcapbfhiiiggdaaFetchW
namespace Go.Proofs.Ytcapbfhiiiggdaa
open Go.RowKit

def gat (p : RB → Bool) (l : List RB) (k : Nat) : List Int := ((l.take k).filter p).map (·.n)
theorem gat_yes {p : RB → Bool} {l : List RB} {k : Nat} {x : RB} (h : l[k]? = some x) (hp : p x = true) : gat p l (k + 1) = gat p l k ++ [x.n] := by
  unfold gat
  obtain ⟨hk, rfl⟩ := List.getElem?_eq_some_iff.1 h
  rw [List.take_succ_eq_append_getElem hk, List.filter_append, List.map_append]
  simp [hp]
theorem gat_no {p : RB → Bool} {l : List RB} {k : Nat} {x : RB} (h : l[k]? = some x) (hp : p x = false) : gat p l (k + 1) = gat p l k := by
  unfold gat
  obtain ⟨hk, rfl⟩ := List.getElem?_eq_some_iff.1 h
  rw [List.take_succ_eq_append_getElem hk, List.filter_append, List.map_append]
  simp [hp]
theorem gat_le (p : RB → Bool) (l : List RB) (k : Nat) : (gat p l k).length ≤ k := by
  unfold gat
  have h1 := List.length_filter_le p (l.take k)
  have h2 := List.length_take_le k l
  rw [List.length_map]
  omega
def RS.left (R : RS) : List Int := gat (fun x => !x.had) R.bs R.bs.length

set_option maxHeartbeats 1000000 in
theorem ref_left (Ad : Nat → Prop) (q : Nat) (R : RS) (m : RM) (w : World) (h : RefAt w Ad q R m) :
    Calls Try.prog 26 #[.pointer (some ⟨q, 0, none⟩)] w (Listed w R.left) := by
  obtain ⟨i0, hi, hz0, hz1, hz2⟩ := info_parts Try.infoInt
  have hf := h.few
  obtain ⟨N, hN⟩ : ∃ n, R.bs.length = n := ⟨_, rfl⟩
  rw [hN] at hf
  have HL : Hid (R.left = gat (fun x => !x.had) R.bs N) := Lib.hid (by rw [← hN]; rfl)
  obtain ⟨a0, c0', hbv, hac⟩ := m.bv_len N
  have hc0 : ∀ wr, Chg [] w wr → wr.cell? ⟨q, 0, none⟩ = some (.slice a0 N c0') := fun wr C => by
    have := (h.keep C (by simp)).c0
    rw [hN, hbv] at this
    exact this
  have HN := Lib.hid hN
  have HC := Lib.hid hc0
  have c00 := hc0 w (Chg.refl _ _)
  clear hN hbv hc0
  go_enter Try.func26, Try.ntmps26
  go_wp2_with fail
  go_loopw [3, 4] (fun v i wr => ∃ (k n c : Nat) (a : Option Addr), v = .slice a n c ∧ i = .int .i64 k ∧ k ≤ N ∧ (gat (fun x => !x.had) R.bs k).length = n ∧ wr.ownsRow 0 3 1 (.slice a n c) n (ivs (gat (fun x => !x.had) R.bs k)) ∧ Chg [] w wr ∧ ∀ q, (Value.slice a n c).ownBlock = some q → w.heap.size ≤ q) (fun _ i _ => N - (intOf i).toNat)
  case atStart => exact ⟨0, 0, 0, none, rfl, rfl, by omega, rfl, World.ownsRow_nil _ _ _ _, Chg.refl _ _, fun q hq => by cases hq⟩
  case round =>
    obtain ⟨k, n, c, a, rfl, rfl, hk, hn, ho, C, hnew⟩ := hrel
    have hnk := gat_le (fun x => !x.had) R.bs k
    rw [hn] at hnk
    have cr := HC.out wr C
    clear c00
    by_cases hlt : k < N
    · have hlt' : (k : Int) < N := by omega
      obtain ⟨rfl, rfl⟩ := hac k hlt
      have hr := h.keep C (by simp)
      obtain ⟨x, hx⟩ : ∃ x, R.bs[k]? = some x := ⟨_, List.getElem?_eq_getElem (by rw [HN.out]; exact hlt)⟩
      have ch := (hr.blk k x hx).had
      have cn := (hr.blk k x hx).n
      have hl := ownsRow_lt ho
      have hk0 : (0 : Int) ≤ k := by omega
      have hyes := fun hp => gat_yes (p := fun x => !x.had) hx hp
      have hno := fun hp => gat_no (p := fun x => !x.had) hx hp
      obtain ⟨b, hb⟩ : ∃ b, x.had = b := ⟨_, rfl⟩
      obtain ⟨y, hy⟩ : ∃ b, x.n = b := ⟨_, rfl⟩
      rw [hb] at ch
      rw [hy] at cn hyes
      cases b with
      | true =>
        have hs := Lib.hid (hno (by simp [hb]))
        have HN2 := Lib.hid hn
        clear hn hyes hno hb hy hx hr
        go_wp2_with fail
        go_roundw
        case rel => exact ⟨k + 1, n, c, a, rfl, by go_num, by omega, by rw [hs.out]; exact HN2.out, by rw [hs.out]; exact ho, C, hnew⟩
        case measure => simp [intOf]; omega
      | false =>
        have hs := Lib.hid (hyes (by simp [hb]))
        have HN2 := Lib.hid hn
        clear hn hyes hno hb hy hx hr
        have CA := Chg.alloc [] wr (Obj.cells #[.int .i64 y] 3)
        have hsrc := src_one_int (wr := wr) (x := y)
        go_wp2_with (at_builtin; refine wpList_append_x _ rfl _ _ 24 rfl 3 i0 _ 1 8 Try.underlying24 hi hz0 hz1 hz2 rfl (by decide) (.slice a n c) n (ivs (gat (fun x => !x.had) R.bs k)) rfl (ownsRow_chg ho CA (by simp)) (some ⟨wr.heap.size, 0, none⟩) 1 1 (ivs [y]) rfl rfl hsrc (fun h => by cases h) (ivs_one _) (by unfold maxLen; omega) (by omega) ?_)
        intro ao' c' w1 hown hgr hblk
        have C1 : Chg [] w w1 := (C.trans CA (by simp)).trans (Chg.grown hgr (S := (Value.slice a n c).ownBlock.toList) (by intro q hq; left; simp [hq])) (by intro q hq; right; exact hnew q (by simpa using hq))
        have hnew1 : ∀ q, (Value.slice ao' (n + 1) c').ownBlock = some q → w.heap.size ≤ q := by
          intro q hq
          have h0 := C.size
          rcases hblk with h1 | h1 <;> rw [h1] at hq
          · exact hnew q hq
          · have := Option.some.inj hq; try simp only [World.size_alloc] at this
            omega
        go_wp2_with fail
        go_roundw
        case rel => exact ⟨k + 1, n + 1, c', ao', rfl, by go_num, by omega, by rw [hs.out, List.length_append, HN2.out]; rfl, by rw [hs.out, ivs_append]; exact hown, C1, hnew1⟩
        case measure => simp [intOf]; omega
    · have hkn : k = N := by omega
      subst hkn
      have HN2 := Lib.hid hn
      clear hn
      go_wp2_with fail
      go_ret
      exact ⟨_, rfl, by rw [HL.out, HN2.out]; exact ho, C, hnew⟩

/-- Is nobody left for a block? By the first k peers. -/
def RS.freeTo (R : RS) (x : RB) (k : Nat) : Bool := !x.had && x.of == 0 && (R.ps.take k).all fun p => decide (p ∈ x.tr)
def RS.free (R : RS) (x : RB) : Bool := R.freeTo x R.ps.length
def RS.stuck (R : RS) : List Int := gat R.free R.bs R.bs.length
theorem RS.freeTo_succ {R : RS} {x : RB} {k : Nat} {p : Int} (h : R.ps[k]? = some p) : R.freeTo x (k + 1) = (R.freeTo x k && decide (p ∈ x.tr)) := by
  unfold RS.freeTo
  obtain ⟨hk, rfl⟩ := List.getElem?_eq_some_iff.1 h
  rw [List.take_succ_eq_append_getElem hk, List.all_append]
  simp [Bool.and_assoc]

set_option maxHeartbeats 4000000 in
theorem ref_stuck (Ad : Nat → Prop) (q : Nat) (R : RS) (m : RM) (w : World) (h : RefAt w Ad q R m) (hps : R.ps.length ≤ 1000000) (htr : ∀ (i : Nat) (x : RB), R.bs[i]? = some x → x.tr.length ≤ 1000000) :
    Calls Try.prog 27 #[.pointer (some ⟨q, 0, none⟩)] w (Listed w R.stuck) := by
  obtain ⟨i0, hi, hz0, hz1, hz2⟩ := info_parts Try.infoInt
  have hf := h.few
  obtain ⟨N, hN⟩ : ∃ n, R.bs.length = n := ⟨_, rfl⟩
  obtain ⟨M, hM⟩ : ∃ n, R.ps.length = n := ⟨_, rfl⟩
  rw [hN] at hf
  rw [hM] at hps
  have HL : Hid (R.stuck = gat R.free R.bs N) := Lib.hid (by rw [← hN]; rfl)
  have HF : Hid (∀ x, R.free x = R.freeTo x M) := Lib.hid (fun x => by rw [← hM]; rfl)
  obtain ⟨a0, c0', hbv, hac⟩ := m.bv_len N
  obtain ⟨pa, pc, hpv, hpc, hpn⟩ := ownsRow_slice h.prs
  rw [hM] at hpv
  have hc0 : ∀ wr, Chg [] w wr → wr.cell? ⟨q, 0, none⟩ = some (.slice a0 N c0') ∧ wr.cell? ⟨q, 1, none⟩ = some (.slice pa M pc) ∧ Src wr pa (ivs R.ps) := fun wr C => by
    have hk := h.keep C (by simp)
    have h0 := hk.c0
    have h1 := hk.c1
    have h2 := hk.prs
    rw [hN, hbv] at h0
    rw [hpv] at h1 h2
    rw [hM] at h2
    exact ⟨h0, h1, ownsRow_src h2⟩
  have HN := Lib.hid hN
  have HM := Lib.hid hM
  have HC := Lib.hid hc0
  have c00 := (hc0 w (Chg.refl _ _)).1
  clear hN hbv hc0 hpv hpc hpn hM
  go_enter Try.func27, Try.ntmps27
  go_wp2_with fail
  go_loopw [3, 4] (fun v i wr => ∃ (k n c : Nat) (a : Option Addr), v = .slice a n c ∧ i = .int .i64 k ∧ k ≤ N ∧ (gat R.free R.bs k).length = n ∧ wr.ownsRow 0 3 1 (.slice a n c) n (ivs (gat R.free R.bs k)) ∧ Chg [] w wr ∧ ∀ q, (Value.slice a n c).ownBlock = some q → w.heap.size ≤ q) (fun _ i _ => N - (intOf i).toNat)
  case atStart => exact ⟨0, 0, 0, none, rfl, rfl, by omega, rfl, World.ownsRow_nil _ _ _ _, Chg.refl _ _, fun q hq => by cases hq⟩
  case round =>
    obtain ⟨k, n, c, a, rfl, rfl, hk, hn, ho, C, hnew⟩ := hrel
    have hnk := gat_le R.free R.bs k
    rw [hn] at hnk
    have cr := (HC.out wr C).1
    clear c00
    by_cases hlt : k < N
    · have hlt' : (k : Int) < N := by omega
      obtain ⟨rfl, rfl⟩ := hac k hlt
      have hr := h.keep C (by simp)
      obtain ⟨x, hx⟩ : ∃ x, R.bs[k]? = some x := ⟨_, List.getElem?_eq_getElem (by rw [HN.out]; exact hlt)⟩
      have hb := hr.blk k x hx
      have c1 := hb.n
      have c2 := hb.had
      have c3 := hb.of
      have c4 := hb.tried
      have hown := hb.own
      have hxl := htr k x hx
      obtain ⟨ta, tc, htv, _, _⟩ := ownsRow_slice hown
      rw [htv] at c4 hown
      have hk0 : (0 : Int) ≤ k := by omega
      have hyes := fun hp => gat_yes (p := R.free) hx hp
      have hno := fun hp => gat_no (p := R.free) hx hp
      have hfz : ∀ j, R.ps[j]? = none ∨ ∃ p, R.ps[j]? = some p ∧ R.freeTo x (j + 1) = (R.freeTo x j && decide (p ∈ x.tr)) := fun j => by
        cases hj : R.ps[j]? with
        | none => exact .inl rfl
        | some p => exact .inr ⟨p, rfl, RS.freeTo_succ hj⟩
      have hst : R.freeTo x 0 = (!x.had && x.of == 0) := by unfold RS.freeTo; simp
      have hff := HF.out x
      have HASK : ∀ (y : Int) (w1 : World), Chg [] wr w1 → Calls Try.prog 37 #[.slice ta x.tr.length tc, .int .i64 y] w1 fun e w' => e = .returned (.bool (decide (y ∈ x.tr))) ∧ w1 = w' := fun y w1 C1 =>
        ref_has x.tr ta tc y w1 ((ownsRow_src hown).chg C1 (by simp)) (by omega)
      have hsl := (ownsRow_src hown)
      obtain ⟨b, hbb⟩ : ∃ b, x.had = b := ⟨_, rfl⟩
      obtain ⟨y, hy⟩ : ∃ b, x.n = b := ⟨_, rfl⟩
      obtain ⟨o, hoo⟩ : ∃ b, x.of = b := ⟨_, rfl⟩
      obtain ⟨L, hLL⟩ : ∃ b, x.tr.length = b := ⟨_, rfl⟩
      rw [hbb] at c2 hst
      rw [hy] at c1 hyes
      rw [hoo] at c3 hst
      rw [hLL] at c4 HASK
      have HASK' := Lib.hid HASK
      have HFZ := Lib.hid hfz
      have HST := Lib.hid hst
      have HY := Lib.hid hyes
      have HNO := Lib.hid hno
      have HFF := Lib.hid hff
      have HN2 := Lib.hid hn
      clear hn hyes hno hbb hy hx hr hb hst hff hfz HASK hoo hLL htv hown hsl
      go_upto_region 6 with (fail)
      have CA := Chg.alloc [] wr (Obj.cells #[.int .i64 y, .bool b, .int .i64 o, .slice ta L tc] 75)
      have hnx := heap_alloc_new wr (Obj.cells #[.int .i64 y, .bool b, .int .i64 o, .slice ta L tc] 75)
      have C2 := C.trans CA (by simp)
      have ho2 := ownsRow_chg ho CA (by simp)
      generalize wr.alloc (Obj.cells #[.int .i64 y, .bool b, .int .i64 o, .slice ta L tc] 75) = w2 at *
      obtain ⟨e, he⟩ : ∃ e, wr.heap.size = e := ⟨_, rfl⟩
      rw [he] at hnx ⊢
      have b0 : w2.cell? ⟨e, 0, none⟩ = some (.int .i64 y) := by rw [cell_of_row _ _ 0 _ _ _ hnx]; rfl
      have b1 : w2.cell? ⟨e, 1, none⟩ = some (.bool b) := by rw [cell_of_row _ _ 1 _ _ _ hnx]; rfl
      have b2 : w2.cell? ⟨e, 2, none⟩ = some (.int .i64 o) := by rw [cell_of_row _ _ 2 _ _ _ hnx]; rfl
      have b3 : w2.cell? ⟨e, 3, none⟩ = some (.slice ta L tc) := by rw [cell_of_row _ _ 3 _ _ _ hnx]; rfl
      obtain ⟨p0, p1, ps1⟩ := HC.out w2 C2
      have HCA := Lib.hid CA
      clear c1 c2 c3 c4 hnx he cr CA
      go_cut [6] (fun v w' => v = .bool (R.freeTo x 0) ∧ w2 = w')
      case first =>
        cases b with
        | true =>
          go_wp2_with fail
          all_goals go_meet
          case rel => exact ⟨by rw [HST.out]; rfl, rfl⟩
        | false =>
          go_wp2_with fail
          all_goals go_meet
          case rel => exact ⟨by rw [HST.out]; rfl, rfl⟩
      case rest =>
      obtain ⟨rfl, rfl⟩ := hcut
      go_wp2_with fail
      go_loopw [6, 7] (fun f j wz => ∃ (t mq : Nat), f = .bool (R.freeTo x t) ∧ j = .int .i64 t ∧ t ≤ M ∧ wz = w2.drewN mq) (fun _ j _ => M - (intOf j).toNat)
      case atStart => exact ⟨0, 0, rfl, rfl, by omega, rfl⟩
      case round =>
        obtain ⟨t, mq, rfl, rfl, ht, rfl⟩ := hrel
        have CD := C2.trans (Chg.drewN [] w2 mq) (by simp)
        have CD2 := Lib.hid (HCA.out.trans (Chg.drewN [] w2 mq) (by simp))
        have d0 : (w2.drewN mq).cell? ⟨e, 0, none⟩ = some (.int .i64 y) := b0
        have d3 : (w2.drewN mq).cell? ⟨e, 3, none⟩ = some (.slice ta L tc) := b3
        have q1 : (w2.drewN mq).cell? ⟨q, 1, none⟩ = some (.slice pa M pc) := p1
        have ho3 := ownsRow_chg ho2 (Chg.drewN [] w2 mq) (by simp)
        have psq := ps1.chg (Chg.drewN [] w2 mq) (by simp)
        clear b0 b1 b2 b3 p0 p1 ps1 C2 ho2 HCA
        generalize hw3 : w2.drewN mq = w3 at *
        have HW3 := Lib.hid hw3
        clear hw3
        by_cases htl : t < M
        · have htl' : (t : Int) < M := by omega
          obtain ⟨ad, z, rfl, hz, cz⟩ := ivs_src_at psq (k := t) (by rw [HM.out]; exact htl)
          have ht0 : (0 : Int) ≤ t := by omega
          have hstep : R.freeTo x (t + 1) = (R.freeTo x t && decide (z ∈ x.tr)) := by
            rcases HFZ.out t with h1 | ⟨p, h1, h2⟩
            · rw [hz] at h1; cases h1
            · rw [hz] at h1; cases h1; exact h2
          have HSTEP := Lib.hid hstep
          clear hz hstep
          have hcall : ∀ wq, Chg [] w3 wq → Calls Try.prog 37 #[.slice ta L tc, .int .i64 z] wq fun e w' => e = .returned (.bool (decide (z ∈ x.tr))) ∧ wq = w' := fun wq Cq => HASK'.out z wq (CD2.out.trans Cq (by simp))
          have HCALL := Lib.hid hcall
          clear hcall
          obtain ⟨bz, hbz⟩ : ∃ b, decide (z ∈ x.tr) = b := ⟨_, rfl⟩
          rw [hbz] at HSTEP HCALL
          clear hbz
          go_wp2_with fail
          go_quiet ((go_at_call 37; exact Calls.quiet_of_same ((HCALL.out _ (Chg.drewN [] _ _)).mono (fun r w' ⟨h, g⟩ => ⟨h, g.symm⟩))))
          cases bz with
          | true =>
            go_wp2_with fail
            go_roundw
            case rel => exact ⟨t + 1, mq + nq, by rw [HSTEP.out]; simp, by go_num, by omega, by rw [← HW3.out, World.drewN_drewN]⟩
            case measure => simp [intOf]; omega
          | false =>
            go_wp2_with fail
            go_roundw
            case rel => exact ⟨t + 1, mq + nq, by rw [HSTEP.out]; simp, by go_num, by omega, by rw [← HW3.out, World.drewN_drewN]⟩
            case measure => simp [intOf]; omega
        · obtain rfl : t = M := by omega
          have hfin := HFF.out
          have hyes := HY.out
          have hno := HNO.out
          rw [hfin] at hyes hno
          cases hfr : R.freeTo x t with
          | false =>
            have hs := Lib.hid (hno hfr)
            clear hyes hno hfin hfr
            go_wp2_with fail
            go_roundw
            case rel => exact ⟨k + 1, n, c, a, rfl, by go_num, by omega, by rw [hs.out]; exact HN2.out, by rw [hs.out]; exact ho3, CD, hnew⟩
            case measure => simp [intOf]; omega
          | true =>
            have hs := Lib.hid (hyes hfr)
            have hl := ownsRow_lt ho3
            have hszw : w.heap.size ≤ w3.heap.size := CD.size
            clear hyes hno hfin hfr
            have CA3 := Chg.alloc [] w3 (Obj.cells #[.int .i64 y] 3)
            have hsrc := src_one_int (wr := w3) (x := y)
            go_wp2_with (at_builtin; refine wpList_append_x _ rfl _ _ 24 rfl 3 i0 _ 1 8 Try.underlying24 hi hz0 hz1 hz2 rfl (by decide) (.slice a n c) n (ivs (gat R.free R.bs k)) rfl (ownsRow_chg ho3 CA3 (by simp)) (some ⟨w3.heap.size, 0, none⟩) 1 1 (ivs [y]) rfl rfl hsrc (fun h => by cases h) (ivs_one _) (by unfold maxLen; omega) (by omega) ?_)
            intro ao' c' w1 hown hgr hblk
            have C1 : Chg [] w w1 := (CD.trans CA3 (by simp)).trans (Chg.grown hgr (S := (Value.slice a n c).ownBlock.toList) (by intro q hq; left; simp [hq])) (by intro q hq; right; exact hnew q (by simpa using hq))
            have hnew1 : ∀ q, (Value.slice ao' (n + 1) c').ownBlock = some q → w.heap.size ≤ q := by
              intro q hq
              rcases hblk with h1 | h1 <;> rw [h1] at hq
              · exact hnew q hq
              · have := Option.some.inj hq; try simp only [World.size_alloc] at this
                omega
            go_wp2_with fail
            go_roundw
            case rel => exact ⟨k + 1, n + 1, c', ao', rfl, by go_num, by omega, by rw [hs.out, List.length_append, HN2.out]; rfl, by rw [hs.out, ivs_append]; exact hown, C1, hnew1⟩
            case measure => simp [intOf]; omega
    · have hkn : k = N := by omega
      subst hkn
      have HN2 := Lib.hid hn
      clear hn
      go_wp2_with fail
      go_ret
      exact ⟨_, rfl, by rw [HL.out, HN2.out]; exact ho, C, hnew⟩
end Go.Proofs.Ytcapbfhiiiggdaa
