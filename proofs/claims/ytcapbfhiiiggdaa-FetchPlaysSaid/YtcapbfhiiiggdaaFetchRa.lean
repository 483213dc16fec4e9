/- What Lost and Found of the reference's fetch do to memory. No conditions beyond those that each statement types. -/
import Derived.Test.YtcapbfhiiiggdaaFetchZ
namespace Go.Proofs.Ytcapbfhiiiggdaa
open Go.RowKit

/-- A new list of peers. -/
theorem RefAt.setPeers {w0 w : World} {Ad : Nat → Prop} {q : Nat} {R : RS} {m : RM} (h : RefAt w0 Ad q R m) {S0 : List Nat} (C0 : Chg S0 w0 w) (hS0 : ∀ k ∈ S0, m.pv.ownBlock = some k)
    (hA : ∀ k, w0.heap.size ≤ k → Ad k) (v' : Value) (l : List Int) (hown : w.ownsRow 0 3 1 v' l.length (ivs l)) (hlow : ∀ k, v'.ownBlock = some k → m.pv.ownBlock = some k ∨ w0.heap.size ≤ k) :
    RefAt (w.setCell ⟨q, 1, none⟩ v') Ad q { R with ps := l } { m with pv := v' } := by
  have qS : q ∉ S0 := fun hm => (h.hp _ (hS0 _ hm)).2.1 rfl
  have gS : R.bs ≠ [] → m.g ∉ S0 := fun hb hm => (h.hp _ (hS0 _ hm)).2.2 hb rfl
  have C1 := Chg.setCell (S := [q]) w ⟨q, 1, none⟩ v' (.inl (by simp))
  have C : Chg (q :: S0) w0 (w.setCell ⟨q, 1, none⟩ v') := (C0.mono (fun k hk => by simp [hk])).trans C1 (fun k hk => .inl (by simp at hk; simp [hk]))
  have qlt := lt_of_block h.head
  have gC : R.bs ≠ [] → m.g ∉ q :: S0 := fun hb hm => by
    rcases List.mem_cons.1 hm with h1 | h1
    · exact (h.hg hb).2 h1
    · exact gS hb h1
  have glt : R.bs ≠ [] → m.g < w0.heap.size := fun hb => by obtain ⟨D, hD⟩ := h.row hb; exact lt_of_block hD
  have ne : ∀ (i : Nat) x, R.bs[i]? = some x → R.bs ≠ [] := fun i x hx e => by rw [e] at hx; simp at hx
  have hl1 : ∀ k, v'.ownBlock = some k → Ad k ∧ k ≠ q := fun k hk => by
    rcases hlow k hk with h1 | h1
    · exact ⟨(h.hp k h1).1, (h.hp k h1).2.1⟩
    · exact ⟨hA k h1, by omega⟩
  refine ⟨h.hq, ?_, fun hb => ?_, fun i x hx => ?_, ?_, h.hg, h.ht, h.tt, fun k hk => ⟨(hl1 k hk).1, (hl1 k hk).2, fun hb => ?_⟩, fun i k hi hk h2 => ?_, h.few⟩
  · have h1 := heap_setCell_same w q 1 _ _ v' ((C0.block q qlt qS).trans h.head)
    exact h1
  · obtain ⟨D, hD⟩ := h.row hb
    exact ⟨D, (C.block _ (lt_of_block hD) (gC hb)).trans hD⟩
  · have hb := h.blk i x hx
    have hi := (List.getElem?_eq_some_iff.1 hx).1
    have g2 := gC (ne i x hx)
    exact ⟨C.cell_some hb.n g2, C.cell_some hb.had g2, C.cell_some hb.of g2, C.cell_some hb.tried g2, ownsRow_chg hb.own C (fun k hk hm => by
      rcases List.mem_cons.1 hm with h3 | h3
      · exact (h.ht i k hi hk).2.1 h3
      · exact h.tp i k hi hk (hS0 k h3))⟩
  · exact ownsRow_chg hown C1 (fun k hk hm => by have := (hl1 k hk).2; simp at hm; exact this hm)
  · rcases hlow k hk with h1 | h1
    · exact (h.hp k h1).2.2 hb
    · have := glt hb
      intro e
      have e' : k = m.g := e
      omega
  · rcases hlow k h2 with h1 | h1
    · exact h.tp i k hi hk h1
    · have hx := List.getElem?_eq_getElem hi
      have := ownsRow_lt (h.blk i _ hx).own k hk
      omega

def RS.foundC (R : RS) (d : Int) : Int := if d < 1 ∨ 16 < d then 2 else if d ∈ R.ps then 6 else 0
def RS.found (R : RS) (d : Int) : RS := if d < 1 ∨ 16 < d then R else if d ∈ R.ps then R else { R with ps := R.ps ++ [d] }

set_option maxHeartbeats 2000000 in
theorem ref_found (Ad : Nat → Prop) (q : Nat) (R : RS) (m : RM) (d : Int) (w : World) (h : RefAt w Ad q R m) (hA : ∀ k, w.heap.size ≤ k → Ad k) (hps : R.ps.length ≤ 1000000) :
    Calls Try.prog 24 #[.pointer (some ⟨q, 0, none⟩), .int .i64 d] w (RDone Ad q (R.found d) (.int .i64 (R.foundC d)) w) := by
  obtain ⟨i0, hi0, hz0, hz1, hz2⟩ := info_parts Try.infoInt
  have TRIV : ∀ v, RDone Ad q R v w (.returned v) w := fun v => ⟨m, rfl, h, ChgFrom.of (Chg.refl [] _) (by simp)⟩
  by_cases h1 : d < 1
  · have e1 : R.found d = R := by unfold RS.found; rw [if_pos (.inl h1)]
    have e2 : R.foundC d = 2 := by unfold RS.foundC; rw [if_pos (.inl h1)]
    rw [e1, e2]
    clear e1 e2
    go_enter Try.func24, Try.ntmps24
    go_wp2_with fail
    go_ret
    exact TRIV _
  · by_cases h2 : 16 < d
    · have e1 : R.found d = R := by unfold RS.found; rw [if_pos (.inr h2)]
      have e2 : R.foundC d = 2 := by unfold RS.foundC; rw [if_pos (.inr h2)]
      rw [e1, e2]
      clear e1 e2
      go_enter Try.func24, Try.ntmps24
      go_wp2_with fail
      go_ret
      exact TRIV _
    · have hn : ¬ (d < 1 ∨ 16 < d) := by omega
      obtain ⟨pa, pc, hpv, _, _⟩ := ownsRow_slice h.prs
      obtain ⟨M, hM⟩ : ∃ n, R.ps.length = n := ⟨_, rfl⟩
      have c1 := h.c1
      have hown := h.prs
      rw [hpv, hM] at c1 hown
      rw [hM] at hps
      have k := ref_has R.ps pa pc d w (ownsRow_src hown) (by omega)
      rw [hM] at k
      have hf := h.fz 1
      have HM := Lib.hid hM
      have HPV := Lib.hid hpv
      have H := Lib.hid h
      by_cases h3 : d ∈ R.ps
      · have e1 : R.found d = R := by unfold RS.found; rw [if_neg hn, if_pos h3]
        have e2 : R.foundC d = 6 := by unfold RS.foundC; rw [if_neg hn, if_pos h3]
        rw [e1, e2]
        rw [decide_eq_true h3] at k
        clear e1 e2 h3 hM hpv h
        go_enter Try.func24, Try.ntmps24
        go_wp2_with fail
        refine k.mono ?_
        rintro r w' ⟨rfl, rfl⟩
        go_wp2_with fail
        go_ret
        exact TRIV _
      · have e1 : R.found d = { R with ps := R.ps ++ [d] } := by unfold RS.found; rw [if_neg hn, if_neg h3]
        have e2 : R.foundC d = 0 := by unfold RS.foundC; rw [if_neg hn, if_neg h3]
        rw [e1, e2]
        rw [decide_eq_false h3] at k
        have QS : ∀ w2, Chg (Value.slice pa M pc).ownBlock.toList w w2 → w2.cell? ⟨q, 1, none⟩ = some (.slice pa M pc) ∧ w2.frozen? ⟨q, 1, none⟩ = false := fun w2 D => by
          have nq : q ∉ (Value.slice pa M pc).ownBlock.toList := fun hm => (h.hp q (by rw [hpv, hM]; simpa using hm)).2.1 rfl
          refine ⟨D.cell_some c1 nq, ?_⟩
          have hb := D.block q (lt_of_block h.head) nq
          have : w2.frozen? ⟨q, 1, none⟩ = w.frozen? ⟨q, 1, none⟩ := by simp only [World.frozen?, hb]
          rw [this]; exact hf
        have LOW : Hid (∀ k, (Value.slice pa M pc).ownBlock = some k → Ad k) := Lib.hid (fun k hk => (h.hp k (by rw [hpv, hM]; exact hk)).1)
        have HQ := Lib.hid h.hq
        clear e1 e2 h3 hM hpv h TRIV
        go_enter Try.func24, Try.ntmps24
        go_wp2_with fail
        refine k.mono ?_
        rintro r w' ⟨rfl, rfl⟩
        go_wp2_with (at_builtin; refine wpList_append_x _ rfl _ _ 24 rfl 3 i0 _ 1 8 Try.underlying24 hi0 hz0 hz1 hz2 rfl (by decide) (.slice pa M pc) M (ivs R.ps) rfl (ownsRow_chg hown (Chg.alloc [] _ _) (by simp)) (some ⟨w.heap.size, 0, none⟩) 1 1 (ivs [d]) rfl rfl (src_one_int (wr := w)) (fun h => by cases h) (ivs_one _) (by unfold maxLen; omega) (by omega) ?_)
        intro ao2 cap2 w2 hown2 hgr2 hblk2
        have D2 : Chg (Value.slice pa M pc).ownBlock.toList w w2 := (Chg.alloc (Value.slice pa M pc).ownBlock.toList w _).trans (Chg.grown (S := (Value.slice pa M pc).ownBlock.toList) hgr2 (fun k hk => .inl (by simp [hk]))) (fun k hk => .inl hk)
        obtain ⟨p1, p2⟩ := QS w2 D2
        go_wp2_with fail
        go_ret
        have h2 := H.out.setPeers D2 (fun k hk => by rw [HPV.out, HM.out]; simpa using hk) hA (.slice ao2 (M + 1) cap2) (R.ps ++ [d]) (by rw [List.length_append, HM.out, ivs_append]; exact hown2) (fun k hk => by
          rcases hblk2 with e | e
          · left; rw [HPV.out, HM.out, ← e]; exact hk
          · right; rw [e] at hk; have := Option.some.inj hk; (try simp at this); omega)
        exact ⟨_, rfl, h2, (ChgFrom.of D2 (fun k hk => LOW.out k (by simpa using hk))).trans (ChgFrom.of (Chg.setCell (S := [q]) w2 _ _ (.inl (by simp))) (by simp; exact HQ.out))⟩

def RB.lost (d : Int) (x : RB) : RB := { x with of := if x.of = d then 0 else x.of, tr := x.tr.filter (· != d) }
def RS.lostTo (R : RS) (d : Int) (k : Nat) : RS := { bs := (R.bs.take k).map (RB.lost d) ++ R.bs.drop k, ps := R.ps.filter (· != d) }
def RS.lostC (R : RS) (d : Int) : Int := if d ∈ R.ps then 0 else 5
def RS.lost (R : RS) (d : Int) : RS := if d ∈ R.ps then { bs := R.bs.map (RB.lost d), ps := R.ps.filter (· != d) } else R
theorem RS.lostTo_length (R : RS) (d : Int) (k : Nat) : (R.lostTo d k).bs.length = R.bs.length := by
  simp only [RS.lostTo, List.length_append, List.length_map, List.length_take, List.length_drop]
  omega
theorem RS.lostTo_at {R : RS} {d : Int} {k : Nat} {x : RB} (hx : R.bs[k]? = some x) : (R.lostTo d k).bs[k]? = some x := by
  have hk := (List.getElem?_eq_some_iff.1 hx).1
  have hl : ((R.bs.take k).map (RB.lost d)).length = k := by simp; omega
  show ((R.bs.take k).map (RB.lost d) ++ R.bs.drop k)[k]? = _
  rw [List.getElem?_append_right (by omega), hl, Nat.sub_self, List.getElem?_drop, Nat.add_zero]
  exact hx
theorem RS.lostTo_upd {R : RS} {d : Int} {k : Nat} {x : RB} (hx : R.bs[k]? = some x) : (R.lostTo d k).upd k (x.lost d) = R.lostTo d (k + 1) := by
  obtain ⟨hk, rfl⟩ := List.getElem?_eq_some_iff.1 hx
  have hl : ((R.bs.take k).map (RB.lost d)).length = k := by simp; omega
  unfold RS.upd RS.lostTo
  congr 1
  simp only
  rw [List.set_append_right _ _ (by omega), hl, Nat.sub_self, List.drop_eq_getElem_cons hk, List.set_cons_zero, List.take_succ_eq_append_getElem hk, List.map_append, List.append_assoc]
  rfl
theorem RS.lostTo_all (R : RS) (d : Int) (h : d ∈ R.ps) : R.lostTo d R.bs.length = R.lost d := by
  unfold RS.lostTo RS.lost
  rw [if_pos h, List.take_length, List.drop_length, List.append_nil]

/-- The last step of a round: a new list for the block. -/
theorem RefAt.relist {w0 w : World} {Ad : Nat → Prop} {q : Nat} {R : RS} {m : RM} (h : RefAt w0 Ad q R m) {i : Nat} {x : RB} (hx : R.bs[i]? = some x) (C0 : Chg [] w0 w) (hA : ∀ k, w0.heap.size ≤ k → Ad k)
    (t' : Value) (l : List Int) (hown : w.ownsRow 0 3 1 t' l.length (ivs l)) (hlow : ∀ k, t'.ownBlock = some k → w0.heap.size ≤ k) :
    ∃ m', RefAt (w.setCell ⟨m.g, i * 4 + 3, none⟩ t') Ad q (R.upd i { x with tr := l }) m' ∧ ChgFrom Ad w0 (w.setCell ⟨m.g, i * 4 + 3, none⟩ t') := by
  obtain ⟨m', h1, _⟩ := h.setTried hx C0 (by simp) hA t' l hown (fun k hk => .inr (hlow k hk))
  have hne : R.bs ≠ [] := fun e => by rw [e] at hx; simp at hx
  exact ⟨m', h1, (ChgFrom.of C0 (by simp)).trans (ChgFrom.of (Chg.setCell (S := [m.g]) w ⟨m.g, i * 4 + 3, none⟩ t' (.inl (by simp))) (by simp; exact (h.hg hne).1))⟩

set_option maxRecDepth 100000 in
set_option maxHeartbeats 8000000 in
theorem ref_lost (Ad : Nat → Prop) (q : Nat) (R : RS) (m : RM) (d : Int) (w : World) (h : RefAt w Ad q R m) (hA : ∀ k, w.heap.size ≤ k → Ad k) (hps : R.ps.length ≤ 1000000) (htr : ∀ (i : Nat) (x : RB), R.bs[i]? = some x → x.tr.length ≤ 1000000) :
    Calls Try.prog 22 #[.pointer (some ⟨q, 0, none⟩), .int .i64 d] w (RDone Ad q (R.lost d) (.int .i64 (R.lostC d)) w) := by
  obtain ⟨pa, pc, hpv, _, _⟩ := ownsRow_slice h.prs
  obtain ⟨M, hM⟩ : ∃ n, R.ps.length = n := ⟨_, rfl⟩
  have c1 := h.c1
  have hown := h.prs
  rw [hpv, hM] at c1 hown
  rw [hM] at hps
  have k := ref_has R.ps pa pc d w (ownsRow_src hown) (by omega)
  have k2 := ref_but R.ps pa pc d w (ownsRow_src hown) (by omega)
  rw [hM] at k k2
  have hf := h.fz 1
  by_cases h3 : d ∈ R.ps
  · have E1 : Hid (R.lost d = R.lostTo d R.bs.length) := Lib.hid (R.lostTo_all d h3).symm
    have E2 : Hid (R.lostC d = 0) := Lib.hid (by unfold RS.lostC; rw [if_pos h3])
    have hfew := h.few
    obtain ⟨N, hN⟩ : ∃ n, R.bs.length = n := ⟨_, rfl⟩
    rw [hN] at E1 hfew
    have HN := Lib.hid hN
    have HQ := Lib.hid h.hq
    have HF := Lib.hid (show ∀ w2, Chg [] w w2 → w2.cell? ⟨q, 1, none⟩ = some (.slice pa M pc) ∧ w2.frozen? ⟨q, 1, none⟩ = false from fun w2 D => by
      have h2 := h.keep D (by simp)
      have e := h2.c1
      rw [hpv, hM] at e
      exact ⟨e, h2.fz 1⟩)
    have H := Lib.hid h
    rw [decide_eq_true h3] at k
    clear h3 hM hpv h hN
    go_enter Try.func22, Try.ntmps22
    go_wp2_with fail
    refine k.mono ?_
    rintro r w' ⟨rfl, rfl⟩
    go_wp2_with fail
    refine k2.mono ?_
    rintro r w1 ⟨v, rfl, hv, C1, hnew⟩
    obtain ⟨p1, p2⟩ := HF.out w1 C1
    have HS := Lib.hid (H.out.setPeers C1 (by simp) hA v _ hv (fun k hk => .inr (hnew k hk)))
    have hsz : w.heap.size ≤ (w1.setCell ⟨q, 1, none⟩ v).heap.size := by simpa using C1.size
    have CS := Lib.hid ((ChgFrom.of (Ad := Ad) C1 (by simp)).trans (ChgFrom.of (Chg.setCell (S := [q]) w1 ⟨q, 1, none⟩ v (.inl (by simp))) (by simp; exact HQ.out)))
    obtain ⟨va, vc, rfl, _, _⟩ := ownsRow_slice hv
    go_upto_region 4 with (fail)
    generalize w1.setCell ⟨q, 1, none⟩ _ = w2 at *
    clear p1 p2 hv C1 hnew k k2 c1 hf hown
    go_wp2_with fail
    go_loopw [5] (fun i wr => ∃ (k : Nat) (m' : RM), i = .int .i64 k ∧ k ≤ N ∧ Hid (RefAt wr Ad q (R.lostTo d k) m') ∧ Hid (ChgFrom Ad w wr) ∧ w.heap.size ≤ wr.heap.size) (fun i _ => N - (intOf i).toNat)
    case atStart => exact ⟨0, _, rfl, by omega, Lib.hid (by
      have := HS.out
      exact this), CS, hsz⟩
    case round =>
      clear HS CS
      clear hsz
      obtain ⟨k, m', rfl, hk, HR, HC, hsz⟩ := hrel
      have c0 := HR.out.c0
      rw [RS.lostTo_length, HN.out] at c0
      obtain ⟨a0, c0', hbv, hac⟩ := m'.bv_len N
      rw [hbv] at c0
      clear hbv
      by_cases hlt : k < N
      · have hlt' : (k : Int) < N := by omega
        have hk0 : (0 : Int) ≤ k := by omega
        obtain ⟨rfl, rfl⟩ := hac k hlt
        obtain ⟨x, hx⟩ : ∃ x, R.bs[k]? = some x := ⟨_, List.getElem?_eq_getElem (by rw [HN.out]; exact hlt)⟩
        have hxl := htr k x hx
        have hx2 := RS.lostTo_at (d := d) hx
        have UPD := Lib.hid (RS.lostTo_upd (d := d) hx)
        have hne : (R.lostTo d k).bs ≠ [] := fun e => by rw [e] at hx2; simp at hx2
        have hb := HR.out.blk k x hx2
        have co := hb.of
        have fo := HR.out.fg hne (k * 4 + 2)
        by_cases hod : x.of = d
        · obtain ⟨m1, h1, g1, t1, k1⟩ := HR.out.setOf hx2 0
          have hx3 := upd_at { x with of := 0 } hx2
          have hb1 := h1.blk k _ hx3
          have hne1 : ((R.lostTo d k).upd k { x with of := 0 }).bs ≠ [] := fun e => by rw [e] at hx3; simp at hx3
          obtain ⟨ta, tc, htv, _, _⟩ := ownsRow_slice hb1.own
          have ct := hb1.tried
          have ho := hb1.own
          rw [htv] at ct ho
          rw [g1] at ct
          have CH := Lib.hid (HC.out.trans (ChgFrom.of (Chg.setCell (S := [m'.g]) wr ⟨m'.g, k * 4 + 2, none⟩ (.int .i64 0) (.inl (by simp))) (by simp; exact (HR.out.hg hne).1)))
          have BUT := Lib.hid (fun w2 (C : Chg [] (wr.setCell ⟨m'.g, k * 4 + 2, none⟩ (.int .i64 0)) w2) => ref_but x.tr ta tc d w2 ((ownsRow_src ho).chg C (by simp)) (by omega))
          have c0' := h1.c0
          rw [show ((R.lostTo d k).upd k { x with of := 0 }).bs.length = N by simp [RS.upd, RS.lostTo_length, HN.out], RM.bv_some hlt, g1, k1] at c0'
          have QS := Lib.hid (fun w2 (C : Chg [] (wr.setCell ⟨m'.g, k * 4 + 2, none⟩ (.int .i64 0)) w2) => (⟨C.cell_some c0' (by simp), C.cell_some ct (by simp), by have := (h1.keep C (by simp)).fg hne1 (k * 4 + 3); rw [g1] at this; exact this⟩ : w2.cell? ⟨q, 0, none⟩ = some (.slice (some ⟨m'.g, 0, none⟩) N m'.c) ∧ w2.cell? ⟨m'.g, k * 4 + 3, none⟩ = some (.slice ta x.tr.length tc) ∧ w2.frozen? ⟨m'.g, k * 4 + 3, none⟩ = false))
          have H1 := Lib.hid h1
          have HX3 := Lib.hid hx3
          have EQ : Hid (((R.lostTo d k).upd k { x with of := 0 }).upd k { { x with of := 0 } with tr := x.tr.filter (· != d) } = R.lostTo d (k + 1)) := Lib.hid (by
            rw [upd_upd, ← UPD.out]
            congr 1
            unfold RB.lost
            rw [if_pos hod])
          have HG := Lib.hid g1
          obtain ⟨L, hL⟩ : ∃ L, x.tr.length = L := ⟨_, rfl⟩
          rw [hL] at BUT QS
          rw [hod] at co
          clear h1 hb1 htv ct ho c0' hx3 hx2 hx hb hne hne1 hod hL t1
          go_upto_region 9 with (fail)
          have hsz3 : (wr.setCell ⟨m'.g, k * 4 + 2, none⟩ (.int .i64 0)).heap.size = wr.heap.size := by simp
          generalize wr.setCell ⟨m'.g, k * 4 + 2, none⟩ (.int .i64 0) = w3 at *
          obtain ⟨q1, q2, q3⟩ := QS.out w3.drew (Chg.drewN [] w3 1)
          go_region_law (go_simp; go_at_call 40; refine (BUT.out _ (Chg.drewN [] w3 1)).mono ?_; rintro r w4 ⟨v, rfl, hv, C4, hnew⟩; have C3 := (Chg.drewN [] w3 1).trans C4 (by simp); obtain ⟨p1, p2, p3⟩ := QS.out w4 C3; obtain ⟨va, vc, rfl, _, _⟩ := ownsRow_slice hv)
          all_goals
            go_wp2_with fail
            go_roundw
            case rel =>
              obtain ⟨m5, h5, g5⟩ := H1.out.relist HX3.out C3 (fun k hk => hA k (by omega)) _ _ hv (fun k hk => hnew k hk)
              rw [HG.out] at h5 g5
              rw [EQ.out] at h5
              exact ⟨k + 1, m5, by go_num, by omega, Lib.hid h5, Lib.hid (CH.out.trans g5), by have := C3.size; simp; omega⟩
            case measure => simp [intOf]; omega
        · have ed : (x.of == d) = false := by simpa using hod
          obtain ⟨ta, tc, htv, _, _⟩ := ownsRow_slice hb.own
          have ct := hb.tried
          have ho := hb.own
          rw [htv] at ct ho
          have CH := HC
          have BUT := Lib.hid (fun w2 (C : Chg [] wr w2) => ref_but x.tr ta tc d w2 ((ownsRow_src ho).chg C (by simp)) (by omega))
          have QS := Lib.hid (fun w2 (C : Chg [] wr w2) => (⟨C.cell_some c0 (by simp), C.cell_some ct (by simp), (HR.out.keep C (by simp)).fg hne (k * 4 + 3)⟩ : w2.cell? ⟨q, 0, none⟩ = some (.slice (some ⟨m'.g, 0, none⟩) N m'.c) ∧ w2.cell? ⟨m'.g, k * 4 + 3, none⟩ = some (.slice ta x.tr.length tc) ∧ w2.frozen? ⟨m'.g, k * 4 + 3, none⟩ = false))
          have H1 := HR
          have HX3 := Lib.hid hx2
          have EQ : Hid ((R.lostTo d k).upd k { x with tr := x.tr.filter (· != d) } = R.lostTo d (k + 1)) := Lib.hid (by
            rw [← UPD.out]
            congr 1
            unfold RB.lost
            rw [if_neg hod])
          have HG : Hid (m'.g = m'.g) := Lib.hid rfl
          obtain ⟨L, hL⟩ : ∃ L, x.tr.length = L := ⟨_, rfl⟩
          obtain ⟨o, hoo⟩ : ∃ L, x.of = L := ⟨_, rfl⟩
          rw [hL] at BUT QS
          rw [hoo] at co ed
          clear htv ct ho hx2 hx hb hne hod hL hoo
          go_upto_region 9 with (fail)
          obtain ⟨q1, q2, q3⟩ := QS.out wr.drew (Chg.drewN [] wr 1)
          go_region_law (go_simp; go_at_call 40; refine (BUT.out _ (Chg.drewN [] wr 1)).mono ?_; rintro r w4 ⟨v, rfl, hv, C4, hnew⟩; have C3 := (Chg.drewN [] wr 1).trans C4 (by simp); obtain ⟨p1, p2, p3⟩ := QS.out w4 C3; obtain ⟨va, vc, rfl, _, _⟩ := ownsRow_slice hv)
          all_goals
            go_wp2_with fail
            go_roundw
            case rel =>
              obtain ⟨m5, h5, g5⟩ := H1.out.relist HX3.out C3 (fun k hk => hA k (by omega)) _ _ hv (fun k hk => hnew k hk)
              rw [HG.out] at h5 g5
              rw [EQ.out] at h5
              exact ⟨k + 1, m5, by go_num, by omega, Lib.hid h5, Lib.hid (CH.out.trans g5), by have := C3.size; simp; omega⟩
            case measure => simp [intOf]; omega
      · have hkn : k = N := by omega
        subst hkn
        go_wp2_with fail
        go_ret
        exact ⟨m', by rw [E2.out]; rfl, by rw [E1.out]; exact HR.out, HC.out⟩
  · have e1 : R.lost d = R := by unfold RS.lost; rw [if_neg h3]
    have e2 : R.lostC d = 5 := by unfold RS.lostC; rw [if_neg h3]
    rw [e1, e2]
    rw [decide_eq_false h3] at k
    have H := Lib.hid h
    clear e1 e2 h3 hM hpv h
    go_enter Try.func22, Try.ntmps22
    go_wp2_with fail
    refine k.mono ?_
    rintro r w' ⟨rfl, rfl⟩
    go_wp2_with fail
    go_ret
    exact ⟨m, rfl, H.out, ChgFrom.of (Chg.refl [] _) (by simp)⟩
end Go.Proofs.Ytcapbfhiiiggdaa
