/- What Ask, Done and Failed of the reference's fetch do to memory. No conditions beyond those that each statement types. -/
import Derived.Test.YtcapbfhiiiggdaaFetchX
namespace Go.Proofs.Ytcapbfhiiiggdaa
open Go.RowKit

def RS.upd (R : RS) (i : Nat) (x : RB) : RS := { R with bs := R.bs.set i x }
def ChgFrom (Ad : Nat → Prop) (w w' : World) : Prop := ∃ S, Chg S w w' ∧ ∀ k ∈ S, Ad k
theorem ChgFrom.of {Ad : Nat → Prop} {w w' : World} {S : List Nat} (h : Chg S w w') (hS : ∀ k ∈ S, Ad k) : ChgFrom Ad w w' := ⟨S, h, hS⟩
theorem ChgFrom.trans {Ad : Nat → Prop} {a b c : World} (h : ChgFrom Ad a b) (g : ChgFrom Ad b c) : ChgFrom Ad a c := by
  obtain ⟨S, h1, h2⟩ := h
  obtain ⟨T, g1, g2⟩ := g
  exact ⟨S ++ T, (h1.mono (T := S ++ T) (fun k hk => by simp [hk])).trans (g1.mono (T := S ++ T) (fun k hk => by simp [hk])) (fun k hk => .inl hk), fun k hk => by
    rcases List.mem_append.1 hk with h | h
    · exact h2 k h
    · exact g2 k h⟩

theorem RefAt.put2 {w0 w : World} {Ad : Nat → Prop} {q : Nat} {R : RS} {m : RM} (h : RefAt w0 Ad q R m) {i : Nat} {x : RB} (hx : R.bs[i]? = some x) {S0 : List Nat} (C0 : Chg S0 w0 w) (hS0 : ∀ k ∈ S0, (m.T i).ownBlock = some k)
    (off : Nat) (v : Value) (ho : off < 4) (x' : RB) (t' : Value)
    (hb : BlkAt (w.setCell ⟨m.g, i * 4 + off, none⟩ v) m.g i x' t') (hlow : ∀ k, t'.ownBlock = some k → Ad k ∧ k ≠ q ∧ k ≠ m.g) (htt : ∀ j k, j < R.bs.length → j ≠ i → t'.ownBlock = some k → (m.T j).ownBlock ≠ some k)
    (htp : ∀ k, t'.ownBlock = some k → m.pv.ownBlock ≠ some k) : RefAt (w.setCell ⟨m.g, i * 4 + off, none⟩ v) Ad q (R.upd i x') { m with T := fun j => if j = i then t' else m.T j } := by
  have hi := (List.getElem?_eq_some_iff.1 hx).1
  have hne : R.bs ≠ [] := fun e => by rw [e] at hx; simp at hx
  have hg := h.hg hne
  have hlen : (R.upd i x').bs.length = R.bs.length := by simp [RS.upd]
  have C1 := Chg.setCell (S := [m.g]) w ⟨m.g, i * 4 + off, none⟩ v (.inl (by simp))
  have C : Chg (m.g :: S0) w0 (w.setCell ⟨m.g, i * 4 + off, none⟩ v) := (C0.mono (fun k hk => by simp [hk])).trans C1 (fun k hk => .inl (by simp at hk; simp [hk]))
  have gS : m.g ∉ S0 := fun hm => (h.ht i _ hi (hS0 _ hm)).2.2 rfl
  have qS : q ∉ S0 := fun hm => (h.ht i _ hi (hS0 _ hm)).2.1 rfl
  have hcell : ∀ k, k ≠ i * 4 + off → ∀ u, w0.cell? ⟨m.g, k, none⟩ = some u → (w.setCell ⟨m.g, i * 4 + off, none⟩ v).cell? ⟨m.g, k, none⟩ = some u := fun k hk u hu =>
    (World.cell?_setCell_other _ _ _ _ (fun e => hk (by injection e with _ e2; exact e2.symm))).trans (C0.cell_some hu gS)
  refine ⟨h.hq, ?_, fun _ => ?_, fun j y hy => ?_, ?_, fun _ => hg, fun j k hj hk => ?_, fun j j' k hj hj' hjj hk => ?_, fun k hk => ⟨(h.hp k hk).1, (h.hp k hk).2.1, fun _ => (h.hp k hk).2.2 hne⟩, fun j k hj hk => ?_, by rw [hlen]; exact h.few⟩
  · rw [hlen]
    exact (C.block q (lt_of_block h.head) (by simp; exact ⟨fun e => hg.2 e.symm, qS⟩)).trans h.head
  · obtain ⟨D, hD⟩ := h.row hne
    exact ⟨_, heap_setCell_same w m.g _ _ _ v ((C0.block _ (lt_of_block hD) gS).trans hD)⟩
  · show BlkAt _ m.g j y (if j = i then t' else m.T j)
    by_cases hji : j = i
    · subst hji
      rw [if_pos rfl]
      have : y = x' := by
        have h1 : (R.bs.set j x')[j]? = some y := hy
        rw [List.getElem?_set_self hi] at h1
        exact (Option.some.inj h1).symm
      rw [this]
      exact hb
    · rw [if_neg hji]
      have h1 : (R.bs.set i x')[j]? = some y := hy
      rw [List.getElem?_set_ne (fun e => hji e.symm)] at h1
      have hj := (List.getElem?_eq_some_iff.1 h1).1
      have hk := h.blk j y h1
      exact ⟨hcell _ (by omega) _ hk.n, hcell _ (by omega) _ hk.had, hcell _ (by omega) _ hk.of, hcell _ (by omega) _ hk.tried, ownsRow_chg hk.own C (fun k hk hm => by
        have h2 := (h.ht j k hj hk).2.2
        rcases List.mem_cons.1 hm with h3 | h3
        · exact h2 h3
        · exact h.tt j i k hj hi hji hk (hS0 k h3))⟩
  · exact ownsRow_chg h.prs C (fun k hk hm => by
      rcases List.mem_cons.1 hm with h3 | h3
      · exact (h.hp k hk).2.2 hne h3
      · exact h.tp i k hi (hS0 k h3) hk)
  · rw [hlen] at hj
    have hk' : (if j = i then t' else m.T j).ownBlock = some k := hk
    by_cases hji : j = i
    · rw [if_pos hji] at hk'; exact hlow k hk'
    · rw [if_neg hji] at hk'; exact h.ht j k hj hk'
  · rw [hlen] at hj hj'
    have hk' : (if j = i then t' else m.T j).ownBlock = some k := hk
    show (if j' = i then t' else m.T j').ownBlock ≠ some k
    by_cases hji : j = i
    · rw [if_pos hji] at hk'
      rw [if_neg (by omega)]
      exact htt j' k hj' (by omega) hk'
    · rw [if_neg hji] at hk'
      by_cases hji' : j' = i
      · rw [if_pos hji']
        intro h2
        exact htt j k hj hji h2 hk'
      · rw [if_neg hji']
        exact h.tt j j' k hj hj' hjj hk'
  · rw [hlen] at hj
    have hk' : (if j = i then t' else m.T j).ownBlock = some k := hk
    by_cases hji : j = i
    · rw [if_pos hji] at hk'; exact htp k hk'
    · rw [if_neg hji] at hk'; exact h.tp j k hj hk'

theorem RefAt.put {w : World} {Ad : Nat → Prop} {q : Nat} {R : RS} {m : RM} (h : RefAt w Ad q R m) {i : Nat} {x : RB} (hx : R.bs[i]? = some x) (off : Nat) (v : Value) (ho : off < 4) (x' : RB) (t' : Value)
    (hb : BlkAt (w.setCell ⟨m.g, i * 4 + off, none⟩ v) m.g i x' t') (hlow : ∀ k, t'.ownBlock = some k → Ad k ∧ k ≠ q ∧ k ≠ m.g) (htt : ∀ j k, j < R.bs.length → j ≠ i → t'.ownBlock = some k → (m.T j).ownBlock ≠ some k)
    (htp : ∀ k, t'.ownBlock = some k → m.pv.ownBlock ≠ some k) : RefAt (w.setCell ⟨m.g, i * 4 + off, none⟩ v) Ad q (R.upd i x') { m with T := fun j => if j = i then t' else m.T j } :=
  h.put2 hx (Chg.refl [] w) (by simp) off v ho x' t' hb hlow htt htp

theorem RefAt.setOf {w : World} {Ad : Nat → Prop} {q : Nat} {R : RS} {m : RM} (h : RefAt w Ad q R m) {i : Nat} {x : RB} (hx : R.bs[i]? = some x) (d : Int) :
    ∃ m', RefAt (w.setCell ⟨m.g, i * 4 + 2, none⟩ (.int .i64 d)) Ad q (R.upd i { x with of := d }) m' ∧ m'.g = m.g ∧ m'.T i = m.T i ∧ m'.c = m.c := by
  have hi := (List.getElem?_eq_some_iff.1 hx).1
  have hb := h.blk i x hx
  have C := Chg.setCell (S := [m.g]) w ⟨m.g, i * 4 + 2, none⟩ (.int .i64 d) (.inl (by simp))
  have hcell : ∀ k, k ≠ i * 4 + 2 → (w.setCell ⟨m.g, i * 4 + 2, none⟩ (.int .i64 d)).cell? ⟨m.g, k, none⟩ = w.cell? ⟨m.g, k, none⟩ := fun k hk => World.cell?_setCell_other _ _ _ _ (fun e => hk (by injection e with _ e2; exact e2.symm))
  refine ⟨_, h.put hx 2 (.int .i64 d) (by omega) { x with of := d } (m.T i) ⟨by rw [hcell _ (by omega)]; exact hb.n, by rw [hcell _ (by omega)]; exact hb.had, World.cell?_setCell_same _ _ _ hb.of, by rw [hcell _ (by omega)]; exact hb.tried, ownsRow_chg hb.own C (fun k hk hm => by have := (h.ht i k hi hk).2.2; simp at hm; exact this hm)⟩
    (fun k hk => h.ht i k hi hk) (fun j k hj hji hk => h.tt i j k hi hj (fun e => hji e.symm) hk) (fun k hk => h.tp i k hi hk), rfl, if_pos rfl, rfl⟩

theorem RefAt.setHad {w : World} {Ad : Nat → Prop} {q : Nat} {R : RS} {m : RM} (h : RefAt w Ad q R m) {i : Nat} {x : RB} (hx : R.bs[i]? = some x) (d : Bool) :
    ∃ m', RefAt (w.setCell ⟨m.g, i * 4 + 1, none⟩ (.bool d)) Ad q (R.upd i { x with had := d }) m' ∧ m'.g = m.g ∧ m'.T i = m.T i ∧ m'.c = m.c := by
  have hi := (List.getElem?_eq_some_iff.1 hx).1
  have hb := h.blk i x hx
  have C := Chg.setCell (S := [m.g]) w ⟨m.g, i * 4 + 1, none⟩ (.bool d) (.inl (by simp))
  have hcell : ∀ k, k ≠ i * 4 + 1 → (w.setCell ⟨m.g, i * 4 + 1, none⟩ (.bool d)).cell? ⟨m.g, k, none⟩ = w.cell? ⟨m.g, k, none⟩ := fun k hk => World.cell?_setCell_other _ _ _ _ (fun e => hk (by injection e with _ e2; exact e2.symm))
  refine ⟨_, h.put hx 1 (.bool d) (by omega) { x with had := d } (m.T i) ⟨by rw [hcell _ (by omega)]; exact hb.n, World.cell?_setCell_same _ _ _ hb.had, by rw [hcell _ (by omega)]; exact hb.of, by rw [hcell _ (by omega)]; exact hb.tried, ownsRow_chg hb.own C (fun k hk hm => by have := (h.ht i k hi hk).2.2; simp at hm; exact this hm)⟩
    (fun k hk => h.ht i k hi hk) (fun j k hj hji hk => h.tt i j k hi hj (fun e => hji e.symm) hk) (fun k hk => h.tp i k hi hk), rfl, if_pos rfl, rfl⟩

/-- A new list for one block. -/
theorem RefAt.setTried {w0 w : World} {Ad : Nat → Prop} {q : Nat} {R : RS} {m : RM} (h : RefAt w0 Ad q R m) {i : Nat} {x : RB} (hx : R.bs[i]? = some x) {S0 : List Nat} (C0 : Chg S0 w0 w) (hS0 : ∀ k ∈ S0, (m.T i).ownBlock = some k)
    (hA : ∀ k, w0.heap.size ≤ k → Ad k) (t' : Value) (l : List Int) (hown : w.ownsRow 0 3 1 t' l.length (ivs l))
    (hlow : ∀ k, t'.ownBlock = some k → (m.T i).ownBlock = some k ∨ w0.heap.size ≤ k) :
    ∃ m', RefAt (w.setCell ⟨m.g, i * 4 + 3, none⟩ t') Ad q (R.upd i { x with tr := l }) m' ∧ m'.g = m.g := by
  have hi := (List.getElem?_eq_some_iff.1 hx).1
  have hne : R.bs ≠ [] := fun e => by rw [e] at hx; simp at hx
  have hb := h.blk i x hx
  have gS : m.g ∉ S0 := fun hm => (h.ht i _ hi (hS0 _ hm)).2.2 rfl
  have C := Chg.setCell (S := [m.g]) w ⟨m.g, i * 4 + 3, none⟩ t' (.inl (by simp))
  have qlt := lt_of_block h.head
  have glt : m.g < w0.heap.size := by obtain ⟨D, hD⟩ := h.row hne; exact lt_of_block hD
  have hcell : ∀ k, k ≠ i * 4 + 3 → ∀ u, w0.cell? ⟨m.g, k, none⟩ = some u → (w.setCell ⟨m.g, i * 4 + 3, none⟩ t').cell? ⟨m.g, k, none⟩ = some u := fun k hk u hu =>
    (World.cell?_setCell_other _ _ _ _ (fun e => hk (by injection e with _ e2; exact e2.symm))).trans (C0.cell_some hu gS)
  have hl1 : ∀ k, t'.ownBlock = some k → Ad k ∧ k ≠ q ∧ k ≠ m.g := fun k hk => by
    rcases hlow k hk with h1 | h1
    · exact h.ht i k hi h1
    · exact ⟨hA k h1, by omega, by omega⟩
  refine ⟨_, h.put2 hx C0 hS0 3 t' (by omega) { x with tr := l } t' ⟨hcell _ (by omega) _ hb.n, hcell _ (by omega) _ hb.had, hcell _ (by omega) _ hb.of, World.cell?_setCell_same _ _ _ (C0.cell_some hb.tried gS), ownsRow_chg hown C (fun k hk hm => by have := (hl1 k hk).2.2; simp at hm; exact this hm)⟩ hl1
    (fun j k hj hji hk => ?_) (fun k hk => ?_), rfl⟩
  · rcases hlow k hk with h1 | h1
    · exact h.tt i j k hi hj (fun e => hji e.symm) h1
    · intro h2
      have := ownsRow_lt (h.blk j _ (List.getElem?_eq_getElem hj)).own k h2
      omega
  · rcases hlow k hk with h1 | h1
    · exact h.tp i k hi h1
    · intro h2
      have := ownsRow_lt h.prs k h2
      omega

/-- What a function of the reference leaves: an answer, and another fetch. -/
def RDone (Ad : Nat → Prop) (q : Nat) (R' : RS) (v : Value) (w : World) (r : Ending) (w' : World) : Prop := ∃ m', r = .returned v ∧ RefAt w' Ad q R' m' ∧ ChgFrom Ad w w'

theorem upd_at {R : RS} {i : Nat} {x : RB} (y : RB) (hx : R.bs[i]? = some x) : (R.upd i y).bs[i]? = some y := by
  have hi := (List.getElem?_eq_some_iff.1 hx).1
  show (R.bs.set i y)[i]? = _
  rw [List.getElem?_set_self hi]
theorem upd_upd (R : RS) (i : Nat) (y z : RB) : (R.upd i y).upd i z = R.upd i z := by simp [RS.upd]

def RS.doneC (R : RS) (n d : Int) : Int := match R.at n d with | some _ => 0 | none => 5
def RS.done (R : RS) (n d : Int) : RS := match R.at n d with | some i => (match R.bs[i]? with | some x => R.upd i { x with of := 0, had := true } | none => R) | none => R
theorem RS.at_some {R : RS} {n d : Int} {i : Nat} (h : R.at n d = some i) : ∃ x, R.bs[i]? = some x ∧ x.n = n ∧ x.of = d ∧ d ≠ 0 := by
  obtain ⟨hi, h1, _⟩ := List.findIdx?_eq_some_iff_getElem.1 h
  refine ⟨R.bs[i], List.getElem?_eq_getElem hi, ?_⟩
  unfold RB.isAt at h1
  simp only [Bool.and_eq_true, beq_iff_eq, bne_iff_ne] at h1
  exact ⟨h1.1.1, h1.1.2, h1.2⟩

set_option maxHeartbeats 1000000 in
theorem ref_done (Ad : Nat → Prop) (q : Nat) (R : RS) (m : RM) (b d : Int) (w : World) (h : RefAt w Ad q R m) :
    Calls Try.prog 19 #[.pointer (some ⟨q, 0, none⟩), .int .i64 b, .int .i64 d] w (RDone Ad q (R.done b d) (.int .i64 (R.doneC b d)) w) := by
  have k := ref_at Ad q R m b d w h
  cases hat : R.at b d with
  | none =>
    have e1 : R.done b d = R := by unfold RS.done; rw [hat]
    have e2 : R.doneC b d = 5 := by unfold RS.doneC; rw [hat]
    rw [hat] at k
    rw [e1, e2]
    clear e1 e2 hat
    go_enter Try.func19, Try.ntmps19
    go_wp2_with fail
    refine k.mono ?_
    rintro r w' ⟨rfl, rfl⟩
    go_wp2_with fail
    go_ret
    exact ⟨m, rfl, h, ChgFrom.of (Chg.refl [] _) (by simp)⟩
  | some i =>
    obtain ⟨x, hx, _, _, _⟩ := RS.at_some hat
    have hi := (List.getElem?_eq_some_iff.1 hx).1
    have e1 : R.done b d = R.upd i { x with of := 0, had := true } := by unfold RS.done; rw [hat]; simp only [hx]
    have e2 : R.doneC b d = 0 := by unfold RS.doneC; rw [hat]
    rw [hat] at k
    rw [e1, e2]
    have hne : R.bs ≠ [] := fun e => by rw [e] at hx; simp at hx
    have c0 := h.c0
    rw [m.bv_some hi] at c0
    have hf := h.few
    obtain ⟨m1, h1, g1, t1, k1⟩ := h.setOf hx 0
    obtain ⟨m2, h2, g2, t2, k2⟩ := h1.setHad (upd_at _ hx) true
    rw [g1, upd_upd] at h2
    have H2 := Lib.hid h2
    have f1 := h.fg hne
    have f2 := h1.fg (fun e => by rw [RS.upd] at e; simp at e; exact hne e)
    rw [g1] at f2
    have c1 := h1.c0
    have hb := (h.blk i x hx)
    have o1 := hb.had
    have o2 := hb.of
    have o3 := (h1.blk i _ (upd_at _ hx)).had
    rw [g1] at o3
    have hlen : (R.upd i { x with of := 0 }).bs.length = R.bs.length := by simp [RS.upd]
    have C1 := Chg.setCell (S := [m.g]) w ⟨m.g, i * 4 + 2, none⟩ (.int .i64 0) (.inl (by simp))
    have C2 := Chg.setCell (S := [m.g]) (w.setCell ⟨m.g, i * 4 + 2, none⟩ (.int .i64 0)) ⟨m.g, i * 4 + 1, none⟩ (.bool true) (.inl (by simp))
    have C12 := Lib.hid (C1.trans C2 (fun k hk => .inl hk))
    have c1' : (w.setCell ⟨m.g, i * 4 + 2, none⟩ (.int .i64 0)).cell? ⟨q, 0, none⟩ = some (.slice (some ⟨m.g, 0, none⟩) R.bs.length m.c) := C1.cell_some c0 (by simp; exact fun e => (h.hg hne).2 e.symm)
    have hlo := Lib.hid (h.hg hne).1
    obtain ⟨N, hN⟩ : ∃ N, R.bs.length = N := ⟨_, rfl⟩
    rw [hN] at c0 c1' hi hf
    have hi' : (i : Int) < N := by omega
    have hi0 : (0 : Int) ≤ i := by omega
    clear e1 e2 hat h1 h2 t1 t2 k1 k2 g1 g2 hb hlen C1 C2 c1 hN
    obtain ⟨o, ho⟩ : ∃ o, x.of = o := ⟨_, rfl⟩
    obtain ⟨bb, hbb⟩ : ∃ o, x.had = o := ⟨_, rfl⟩
    rw [ho] at o2
    rw [hbb] at o1
    have o3' : (w.setCell ⟨m.g, i * 4 + 2, none⟩ (.int .i64 0)).cell? ⟨m.g, i * 4 + 1, none⟩ = some (.bool bb) := by rw [← hbb]; exact o3
    clear o3 ho hbb hx
    have f1' := f1 (i * 4 + 2)
    have f2' := f2 (i * 4 + 1)
    clear f1 f2 h
    go_enter Try.func19, Try.ntmps19
    go_wp2_with fail
    refine k.mono ?_
    rintro r w' ⟨rfl, rfl⟩
    go_wp2_with fail
    go_ret
    exact ⟨m2, rfl, H2.out, ChgFrom.of C12.out (by simp; exact hlo.out)⟩

theorem app_chg {w1 w2 : World} {t : Value} {o : Obj} (hgr : (w1.drew.alloc o).grownBy w2 t.ownBlock) : Chg t.ownBlock.toList w1 w2 :=
  ((Chg.drewN t.ownBlock.toList w1 1).trans (Chg.alloc t.ownBlock.toList (w1.drewN 1) o) (fun k hk => .inl hk)).trans (Chg.grown (S := t.ownBlock.toList) hgr (fun k hk => .inl (by simp [hk]))) (fun k hk => .inl hk)

def RS.failed (R : RS) (n d : Int) : RS := match R.at n d with | some i => (match R.bs[i]? with | some x => R.upd i { x with of := 0, tr := x.tr ++ [d] } | none => R) | none => R

set_option maxHeartbeats 4000000 in
theorem ref_failed (Ad : Nat → Prop) (q : Nat) (R : RS) (m : RM) (b d : Int) (w : World) (h : RefAt w Ad q R m) (hA : ∀ k, w.heap.size ≤ k → Ad k) (htr : ∀ (i : Nat) (x : RB), R.bs[i]? = some x → x.tr.length ≤ 1000000) :
    Calls Try.prog 20 #[.pointer (some ⟨q, 0, none⟩), .int .i64 b, .int .i64 d] w (RDone Ad q (R.failed b d) (.int .i64 (R.doneC b d)) w) := by
  have k := ref_at Ad q R m b d w h
  obtain ⟨i0, hi0, hz0, hz1, hz2⟩ := info_parts Try.infoInt
  cases hat : R.at b d with
  | none =>
    have e1 : R.failed b d = R := by unfold RS.failed; rw [hat]
    have e2 : R.doneC b d = 5 := by unfold RS.doneC; rw [hat]
    rw [hat] at k
    rw [e1, e2]
    clear e1 e2 hat
    go_enter Try.func20, Try.ntmps20
    go_wp2_with fail
    refine k.mono ?_
    rintro r w' ⟨rfl, rfl⟩
    go_wp2_with fail
    go_ret
    exact ⟨m, rfl, h, ChgFrom.of (Chg.refl [] _) (by simp)⟩
  | some i =>
    obtain ⟨x, hx, _, _, _⟩ := RS.at_some hat
    have hi := (List.getElem?_eq_some_iff.1 hx).1
    have hxl := htr i x hx
    have e1 : R.failed b d = R.upd i { x with of := 0, tr := x.tr ++ [d] } := by unfold RS.failed; rw [hat]; simp only [hx]
    have e2 : R.doneC b d = 0 := by unfold RS.doneC; rw [hat]
    rw [hat] at k
    rw [e1, e2]
    have hne : R.bs ≠ [] := fun e => by rw [e] at hx; simp at hx
    have c0 := h.c0
    rw [m.bv_some hi] at c0
    have hf := h.few
    obtain ⟨m1, h1, g1, t1, k1⟩ := h.setOf hx 0
    have f1 := h.fg hne (i * 4 + 2)
    have hne1 : (R.upd i { x with of := 0 }).bs ≠ [] := fun e => by rw [RS.upd] at e; simp at e; exact hne e
    have hlen : (R.upd i { x with of := 0 }).bs.length = R.bs.length := by simp [RS.upd]
    have c1 := h1.c0
    have hi1 : i < (R.upd i { x with of := 0 }).bs.length := by rw [hlen]; exact hi
    rw [m1.bv_some hi1, hlen] at c1
    have hx1 := upd_at { x with of := 0 } hx
    have hb := (h.blk i x hx)
    have o2 := hb.of
    have hb1 := h1.blk i _ hx1
    have o3 := hb1.tried
    have ho := hb1.own
    have f3 := h1.fg hne1 (i * 4 + 3)
    obtain ⟨ta, tc, htv, _, _⟩ := ownsRow_slice ho
    have C1 := Chg.setCell (S := [m.g]) w ⟨m.g, i * 4 + 2, none⟩ (.int .i64 0) (.inl (by simp))
    have hlo := Lib.hid (h.hg hne).1
    have EQ : Hid ((R.upd i { x with of := 0 }).upd i { { x with of := 0 } with tr := x.tr ++ [d] } = R.upd i { x with of := 0, tr := x.tr ++ [d] }) := Lib.hid (upd_upd _ _ _ _)
    rw [htv] at o3 ho
    have HTV := Lib.hid htv
    obtain ⟨o, hoo⟩ : ∃ o, x.of = o := ⟨_, rfl⟩
    rw [hoo] at o2
    have HG := Lib.hid g1
    rw [g1] at c1 f3 o3
    rw [k1] at c1
    have HX1 := Lib.hid hx1
    have H1 := Lib.hid h1
    have qlt := lt_of_block h1.head
    have gq := (h1.hg hne1)
    rw [g1] at gq
    have tg := Lib.hid (fun k hk => h1.ht i k hi1 hk)
    generalize hw1 : w.setCell ⟨m.g, i * 4 + 2, none⟩ (.int .i64 0) = w1 at *
    have HW1 := Lib.hid hw1
    have HA : Hid (∀ k, w1.heap.size ≤ k → Ad k) := Lib.hid (fun k hk => hA k (by rw [← hw1] at hk; simpa using hk))
    obtain ⟨N, hN⟩ : ∃ N, R.bs.length = N := ⟨_, rfl⟩
    rw [hN] at c0 c1 hi hf
    have hi' : (i : Int) < N := by omega
    have hi00 : (0 : Int) ≤ i := by omega
    obtain ⟨L, hL⟩ : ∃ L, x.tr.length = L := ⟨_, rfl⟩
    have HLL := Lib.hid hL
    have ho' : w1.ownsRow 0 3 1 (.slice ta L tc) L (ivs x.tr) := by rw [← hL]; exact ho
    have o3' : w1.cell? ⟨m.g, i * 4 + 3, none⟩ = some (.slice ta L tc) := by rw [← hL]; exact o3
    rw [hL] at hxl
    have n1 := World.cell?_alloc_lt w1 (.cells #[.int .i64 d] 3) ⟨m.g, i * 4 + 3, none⟩ (World.block_lt_of_cell? _ _ o3')
    have n2 := World.cell?_alloc_lt w1 (.cells #[.int .i64 d] 3) ⟨q, 0, none⟩ (World.block_lt_of_cell? _ _ c1)
    clear e1 e2 hat t1 k1 hb hb1 hlen hN hi1 hx1 htv hoo h1 g1 ho o3 hx hL hne1 htr hne h hw1
    go_enter Try.func20, Try.ntmps20
    go_wp2_with fail
    refine k.mono ?_
    rintro r w' ⟨rfl, rfl⟩
    go_upto_region 5 with (fail)
    rw [HW1.out]
    have TG : ∀ k, (Value.slice ta L tc).ownBlock = some k → k ≠ q ∧ k ≠ m.g := fun k hk => by
      have e : (m1.T i).ownBlock = some k := by rw [HTV.out, HLL.out]; exact hk
      have := tg.out k e
      exact ⟨this.2.1, by rw [← HG.out]; exact this.2.2⟩
    have QS : ∀ w2, Chg (Value.slice ta L tc).ownBlock.toList w1 w2 → w2.cell? ⟨q, 0, none⟩ = some (.slice (some ⟨m.g, 0, none⟩) N m.c) ∧ w2.cell? ⟨m.g, i * 4 + 3, none⟩ = some (.slice ta L tc) ∧ w2.frozen? ⟨m.g, i * 4 + 3, none⟩ = false := fun w2 D => by
      have nq : q ∉ (Value.slice ta L tc).ownBlock.toList := fun hm => (TG q (by simpa using hm)).1 rfl
      have ng : m.g ∉ (Value.slice ta L tc).ownBlock.toList := fun hm => (TG m.g (by simpa using hm)).2 rfl
      refine ⟨D.cell_some c1 nq, D.cell_some o3' ng, ?_⟩
      have hb := D.block m.g (World.block_lt_of_cell? _ _ o3') ng
      have : w2.frozen? ⟨m.g, i * 4 + 3, none⟩ = w1.frozen? ⟨m.g, i * 4 + 3, none⟩ := by simp only [World.frozen?, hb]
      rw [this]; exact f3
    go_region_law (refine step_append_x _ rfl _ _ 24 rfl 3 i0 _ 1 8 Try.underlying24 hi0 hz0 hz1 hz2 rfl (by decide) (.slice ta L tc) L (ivs x.tr) rfl (ownsRow_chg ho' ((Chg.drewN [] _ 1).trans (Chg.alloc [] _ _) (by simp)) (by simp)) (some ⟨w1.heap.size, 0, none⟩) 1 1 (ivs [d]) rfl rfl (src_one_int (wr := w1.drewN 1)) (fun h => by cases h) (ivs_one _) (by unfold maxLen; omega) (by omega) ?_; intro ao2 cap2 w2 hown2 hgr2 hblk2; have D2 := app_chg hgr2; obtain ⟨p1, p2, p3⟩ := QS w2 D2)
    all_goals
      go_wp2_with fail
      go_ret
      obtain ⟨m2, h2, g2⟩ := H1.out.setTried HX1.out D2 (fun k hk => by rw [HTV.out, HLL.out]; simpa using hk) HA.out (.slice ao2 (L + 1) cap2) (x.tr ++ [d]) (by rw [List.length_append, HLL.out, ivs_append]; exact hown2) (fun k hk => by
        rcases hblk2 with e | e
        · left; rw [HTV.out, HLL.out, ← e]; exact hk
        · right; rw [e] at hk; have := Option.some.inj hk; simp at this; omega)
      rw [HG.out] at h2
      rw [EQ.out] at h2
      exact ⟨m2, rfl, h2, (ChgFrom.of C1 (by simp; exact hlo.out)).trans ((ChgFrom.of D2 (fun k hk => by
        have e : (m1.T i).ownBlock = some k := by rw [HTV.out, HLL.out]; simpa using hk
        exact (tg.out k e).1)).trans (ChgFrom.of (Chg.setCell (S := [m.g]) w2 _ _ (.inl (by simp))) (by simp; exact hlo.out)))⟩
end Go.Proofs.Ytcapbfhiiiggdaa
