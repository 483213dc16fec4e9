/- The reference's finder in memory; its Forget. No conditions beyond those that each statement types. -/
import Derived.Test.YtfdhpjflkimihaaDoorBkJa
import Derived.Test.YtfdhpjflkimihaaDoorBkJf
namespace Go.Proofs.YtfdhpjflkimihaaDoor
open Go.RowKit

/-- A file of the reference: its name, the slices of its bytes and of its list. -/
abbrev Ent := ByteArray × Value × Value
def flvs (es : List Ent) : List Value := es.flatMap fun e => [.string e.1, e.2.1, e.2.2]
theorem flvs_append (a b : List Ent) : flvs (a ++ b) = flvs a ++ flvs b := by simp [flvs]
theorem flvs_cons (e : Ent) (l : List Ent) : flvs (e :: l) = .string e.1 :: e.2.1 :: e.2.2 :: flvs l := rfl
theorem flvs_length (l : List Ent) : (flvs l).length = l.length * 3 := by
  induction l with
  | nil => rfl
  | cons p l ih => rw [flvs_cons, List.length_cons, List.length_cons, List.length_cons, ih, List.length_cons]; omega
theorem flvs_at : ∀ {l : List Ent} {i : Nat} {e : Ent}, l[i]? = some e → (flvs l)[i * 3]? = some (.string e.1) ∧ (flvs l)[i * 3 + 1]? = some e.2.1 ∧ (flvs l)[i * 3 + 2]? = some e.2.2
  | [], i, p, h => by simp at h
  | q :: l, 0, p, h => by
    simp at h
    subst h
    exact ⟨rfl, rfl, rfl⟩
  | q :: l, i + 1, p, h => by
    have := flvs_at (l := l) (i := i) (e := p) (by simpa using h)
    rw [flvs_cons, show (i + 1) * 3 = i * 3 + 1 + 1 + 1 by omega]
    exact this
def HVal (w : World) (v : Value) (L : List (Nat → UInt8)) : Prop := ∃ ao c, v = .slice ao L.length c ∧ w.ownsRow 0 32 32 (.slice ao L.length c) L.length (hvs L)
theorem HVal.chg {w w' : World} {v : Value} {L : List (Nat → UInt8)} {T : List Nat} (h : HVal w v L) (C : Chg T w w') (hT : ∀ k, v.ownBlock = some k → k ∉ T) : HVal w' v L := by
  obtain ⟨ao, c, rfl, ho⟩ := h
  exact ⟨ao, c, rfl, ownsRow_chg ho C hT⟩
/-- Files of the reference, in memory. -/
structure EntsIs (w : World) (es : List Ent) (R : Files) : Prop where
  len : es.length = R.length
  ent : ∀ (i : Nat) e p, es[i]? = some e → R[i]? = some p → e.1 = p.1 ∧ FVal w e.2.1 p.2 ∧ HVal w e.2.2 (listL p.2)
/-- The blocks of the reference's finder. -/
structure RefFoot (w : World) (b : Nat) (v : Value) (es : List Ent) (T : List Nat) : Prop where
  own : b ∈ T
  row : ∀ k, v.ownBlock = some k → k ∈ T
  ents : ∀ e ∈ es, ∀ k, e.2.1.ownBlock = some k ∨ e.2.2.ownBlock = some k → k ∈ T
  lt : ∀ k ∈ T, k < w.heap.size
/-- The reference's finder in memory; what it turns is its own block alone; all its blocks are among T. -/
def RefIs (w : World) (b : Nat) (R : Files) (T : List Nat) : Prop :=
  ∃ ao c es, w.heap[b]? = some (.cells #[.slice ao R.length c] 48 (0, 0)) ∧ w.ownsRow 0 123 3 (.slice ao R.length c) R.length (flvs es) ∧ EntsIs w es R ∧ RefFoot w b (.slice ao R.length c) es T
/-- What a step of it leaves. -/
def RefTo (w : World) (b : Nat) (R' : Files) (T : List Nat) (w' : World) : Prop := ∃ T', RefIs w' b R' T' ∧ Chg [b] w w' ∧ ∀ k ∈ T', k ∈ T ∨ w.heap.size ≤ k
theorem HVal.block {w : World} {v : Value} {L : List (Nat → UInt8)} {x : Nat} (h : HVal w v L) (hx : v.ownBlock = some x) : ∃ cur, w.heap[x]? = some (.cells cur 32 (0, 0)) := by
  obtain ⟨ao, c, rfl, ho⟩ := h
  exact row_block ho hx
/-- Entries stay where no block of bytes or of digests is turned. -/
theorem EntsIs.chg {w w' : World} {es : List Ent} {R : Files} (h : EntsIs w es R) {T : List Nat} (C : Chg T w w') (hT : ∀ x ∈ T, ∀ cs t fr, w.heap[x]? = some (.cells cs t fr) → t ≠ 5 ∧ t ≠ 32) : EntsIs w' es R :=
  ⟨h.len, fun i e p he hp => by
    obtain ⟨h1, h2, h3⟩ := h.ent i e p he hp
    refine ⟨h1, h2.chg C (fun x hx hm => ?_), h3.chg C (fun x hx hm => ?_)⟩
    · obtain ⟨cur, hc⟩ := h2.block hx
      exact (hT x hm _ _ _ hc).1 rfl
    · obtain ⟨cur, hc⟩ := h3.block hx
      exact (hT x hm _ _ _ hc).2 rfl⟩
theorem EntsIs.keep {w w' : World} {es : List Ent} {R : Files} (h : EntsIs w es R) {U : List Nat} (C : Chg U w w') (hU : ∀ e ∈ es, ∀ k, e.2.1.ownBlock = some k ∨ e.2.2.ownBlock = some k → k ∉ U) : EntsIs w' es R :=
  ⟨h.len, fun i e p he hp => by
    obtain ⟨h1, h2, h3⟩ := h.ent i e p he hp
    exact ⟨h1, h2.chg C (fun k hk => hU e (List.mem_of_getElem? he) k (.inl hk)), h3.chg C (fun k hk => hU e (List.mem_of_getElem? he) k (.inr hk))⟩⟩
theorem RefIs.chg {w w' : World} {b : Nat} {R : Files} {T : List Nat} (h : RefIs w b R T) {U : List Nat} (C : Chg U w w') (hU : ∀ x ∈ T, x ∉ U) : RefIs w' b R T := by
  obtain ⟨ao, c, es, h1, h2, h3, h4⟩ := h
  exact ⟨ao, c, es, (C.block b (lt_of_block h1) (hU b h4.own)).trans h1, ownsRow_chg h2 C (fun x hx => hU x (h4.row x hx)), h3.keep C (fun e he k hk => hU k (h4.ents e he k hk)), h4.own, h4.row, h4.ents, fun k hk => Nat.lt_of_lt_of_le (h4.lt k hk) C.size⟩
theorem ref_new (w : World) : RefIs (w.alloc (.cells #[.slice none 0 0] 48)) w.heap.size [] [w.heap.size] :=
  ⟨none, 0, [], heap_alloc_new w _, World.ownsRow_nil _ _ _ _, ⟨rfl, fun i e p he => by simp at he⟩, by simp, fun k hk => (by cases hk), fun e he => (by cases he), fun k hk => (by simp at hk; subst hk; simp)⟩
end Go.Proofs.YtfdhpjflkimihaaDoor
/- The reference's Forget, walked. No conditions beyond those that each statement types. -/
namespace Go.Proofs.YtfdhpjflkimihaaDoor
open Go.RowKit

theorem infoFileU : (Tryd.prog.info? 123).map (fun i => (i.zero, i.size, i.bytes)) = some (some (.agg #[.string ⟨#[]⟩, .slice none 0 0, .slice none 0 0]), 3, 64) := by kernel_rfl
def entO (nm : ByteArray) (es : List Ent) : List Ent := es.filter fun e => !decide (e.1 = nm)
theorem app1000 {k : Nat} (h : k ≤ 1000) : k + 1 ≤ maxLen ∧ (k + 1) * 64 ≤ 140737488355328 := by unfold maxLen; omega
theorem EntsIs.cons {w : World} {e : Ent} {p : ByteArray × List UInt8} {es : List Ent} {R : Files} (h : e.1 = p.1 ∧ FVal w e.2.1 p.2 ∧ HVal w e.2.2 (listL p.2)) (g : EntsIs w es R) : EntsIs w (e :: es) (p :: R) :=
  ⟨by rw [List.length_cons, List.length_cons, g.len], fun i e' p' he hp => by
    cases i with
    | zero => cases he; cases hp; exact h
    | succ i => exact g.ent i e' p' (by simpa using he) (by simpa using hp)⟩
theorem EntsIs.tail {w : World} {e : Ent} {p : ByteArray × List UInt8} {es : List Ent} {R : Files} (g : EntsIs w (e :: es) (p :: R)) : (e.1 = p.1 ∧ FVal w e.2.1 p.2 ∧ HVal w e.2.2 (listL p.2)) ∧ EntsIs w es R :=
  ⟨g.ent 0 e p rfl rfl, by have := g.len; simpa using this, fun i e' p' he hp => g.ent (i + 1) e' p' (by simpa using he) (by simpa using hp)⟩
theorem EntsIs.nil (w : World) : EntsIs w [] [] := ⟨rfl, fun i e p he => by simp at he⟩
theorem EntsIs.del {w : World} (nm : ByteArray) : ∀ {es : List Ent} {R : Files}, EntsIs w es R → EntsIs w (entO nm es) (Fdel R nm)
  | [], [], _ => EntsIs.nil w
  | [], _ :: _, h => by have := h.len; simp at this
  | _ :: _, [], h => by have := h.len; simp at this
  | e :: es, p :: R, h => by
    obtain ⟨h1, h2⟩ := h.tail
    have ih := EntsIs.del nm h2
    unfold entO Fdel at ih ⊢
    by_cases g : p.1 = nm
    · rw [List.filter_cons_of_neg (by simp [h1.1, g]), List.filter_cons_of_neg (by simp [g])]
      exact ih
    · rw [List.filter_cons_of_pos (by simp [h1.1, g]), List.filter_cons_of_pos (by simp [g])]
      exact EntsIs.cons h1 ih
theorem EntsIs.any {w : World} (nm : ByteArray) : ∀ {es : List Ent} {R : Files}, EntsIs w es R → (es.any fun e => decide (e.1 = nm)) = hasF R nm
  | [], [], _ => rfl
  | [], _ :: _, h => by have := h.len; simp at this
  | _ :: _, [], h => by have := h.len; simp at this
  | e :: es, p :: R, h => by
    obtain ⟨h1, h2⟩ := h.tail
    have ih := EntsIs.any nm h2
    unfold hasF at ih ⊢
    rw [List.any_cons, List.any_cons, ih, h1.1]
set_option maxRecDepth 100000 in
set_option maxHeartbeats 4000000 in
theorem ref_forget (b : Nat) (R : Files) (nm : ByteArray) (T : List Nat) (w : World) (H : RefIs w b R T) (hl : R.length ≤ 1000) :
    Calls Tryd.prog 29 #[.pointer (some ⟨b, 0, none⟩), .string nm] w fun e w' => e = .returned (.bool (hasF R nm)) ∧ RefTo w b (Fdel R nm) T w' := by
  obtain ⟨ao, c, es, h1, h2, h3, h4⟩ := H
  have HFT := Lib.hid h4
  have hlen := h3.len
  obtain ⟨n, hn⟩ : ∃ n, R.length = n := ⟨_, rfl⟩
  have HN := Lib.hid hn
  rw [hn] at h1 h2 hl hlen
  have HB : Hid (∀ wr, Chg [] w wr → wr.cell? ⟨b, 0, none⟩ = some (.slice ao n c)) := Lib.hid (fun wr C => by
    rw [cell_of_row _ _ _ _ _ _ ((C.block b (lt_of_block h1) (by simp)).trans h1)]; rfl)
  have HE : Hid (∀ k wr, k < n → Chg [] w wr → ∃ g x a1 n1 c1 a2 n2 c2, ao = some ⟨g, 0, none⟩ ∧ es[k]? = some (x, .slice a1 n1 c1, .slice a2 n2 c2) ∧ wr.cell? ⟨g, k * 3, none⟩ = some (.string x) ∧ wr.cell? ⟨g, k * 3 + 1, none⟩ = some (.slice a1 n1 c1) ∧ wr.cell? ⟨g, k * 3 + 2, none⟩ = some (.slice a2 n2 c2)) := Lib.hid (fun k wr hk C => by
    obtain ⟨e, he⟩ : ∃ e, es[k]? = some e := ⟨_, List.getElem?_eq_getElem (by omega)⟩
    obtain ⟨p, hp⟩ : ∃ p, R[k]? = some p := ⟨_, List.getElem?_eq_getElem (by omega)⟩
    obtain ⟨x, v1, v2⟩ := e
    obtain ⟨_, ⟨a1, c1, e1, _⟩, ⟨a2, c2, e2, _⟩⟩ := h3.ent k _ p he hp
    simp only [] at e1 e2
    subst e1 e2
    obtain ⟨g, rfl⟩ := ownsRow_head h2 (by omega)
    obtain ⟨q0, q1, q2⟩ := flvs_at he
    have y := fun j u (hj : (flvs es)[j]? = some u) => by
      have := h2.cells (g := g) rfl j u hj
      rwa [addr_add0] at this
    exact ⟨g, x, _, _, _, _, _, _, rfl, he, C.cell_some (y _ _ q0) (by simp), C.cell_some (y _ _ q1) (by simp), C.cell_some (y _ _ q2) (by simp)⟩)
  have H1 := Lib.hid h1
  have H3 := Lib.hid h3
  have HLE := Lib.hid hlen
  obtain ⟨i0, hi, hz0, hz1, hz2⟩ := info_parts infoFileU
  clear h1 h2 h3 h4 hn hlen
  go_enter Tryd.func29, Tryd.ntmps29
  go_wp2_with fail
  go_loopw [5, 6, 7] (fun v5 v6 v7 wr => ∃ (k m c' : Nat) (ao' : Option Addr) (bb : Bool), v5 = .slice ao' m c' ∧ v6 = .bool bb ∧ v7 = .int .i64 (k : Int) ∧ k ≤ n ∧ m ≤ k ∧ Hid (m = (entO nm (es.take k)).length) ∧ Hid (bb = (es.take k).any fun e => decide (e.1 = nm)) ∧ Hid (wr.ownsRow 0 123 3 (.slice ao' m c') m (flvs (entO nm (es.take k)))) ∧ Hid (∀ b, (Value.slice ao' m c').ownBlock = some b → w.heap.size ≤ b) ∧ Hid (Chg [] w wr)) (fun _ _ v _ => n - (intOf v).toNat)
  case atStart => exact ⟨0, 0, 0, none, false, rfl, rfl, rfl, Nat.zero_le _, Nat.le_refl _, Lib.hid rfl, Lib.hid rfl, Lib.hid (World.ownsRow_nil _ _ _ _), Lib.hid (fun b hb => by cases hb), Lib.hid (Chg.refl _ _)⟩
  case round =>
    obtain ⟨k, m, c', ao', bb, rfl, rfl, rfl, hk, hmk, HM, HBB, HO, HW, HC⟩ := hrel
    have hb0 := HB.out wr HC.out
    by_cases hlt : k < n
    · have e1 : (k : Int) < n := Int.ofNat_lt.2 hlt
      have e0 : (0 : Int) ≤ k := Int.natCast_nonneg _
      obtain ⟨g, x, a1, n1, c1, a2, n2, c2, rfl, he, y0, y1, y2⟩ := HE.out k wr hlt HC.out
      by_cases hx : x = nm
      · have hq : (x.toList == nm.toList) = true := by rw [hx]; simp
        have htk : es.take (k + 1) = es.take k ++ [(x, .slice a1 n1 c1, .slice a2 n2 c2)] := by rw [List.take_add_one, he]; rfl
        have HM2 : Hid (m = (entO nm (es.take (k + 1))).length) := Lib.hid (by rw [htk, entO, List.filter_append]; simp [hx]; exact HM.out)
        have HO2 : Hid (wr.ownsRow 0 123 3 (.slice ao' m c') m (flvs (entO nm (es.take (k + 1))))) := Lib.hid (by
          have : entO nm (es.take (k + 1)) = entO nm (es.take k) := by rw [htk, entO, List.filter_append]; simp [hx, entO]
          rw [this]
          exact HO.out)
        have HB2 : Hid (true = (es.take (k + 1)).any fun e => decide (e.1 = nm)) := Lib.hid (by rw [htk]; simp [hx])
        clear htk he hx
        go_wp2_with fail
        go_roundw
        case rel => exact ⟨k + 1, m, c', ao', true, rfl, rfl, by go_num, hlt, Nat.le_succ_of_le hmk, HM2, HB2, HO2, HW, HC⟩
        case measure => simp [intOf] <;> omega
      · have hq : (x.toList == nm.toList) = false := by
          rw [beq_eq_false_iff_ne]
          exact fun e => hx (toList_inj e)
        have htk : es.take (k + 1) = es.take k ++ [(x, .slice a1 n1 c1, .slice a2 n2 c2)] := by rw [List.take_add_one, he]; rfl
        have hto : entO nm (es.take (k + 1)) = entO nm (es.take k) ++ [(x, .slice a1 n1 c1, .slice a2 n2 c2)] := by rw [htk, entO, List.filter_append]; simp [hx, entO]
        have HTO := Lib.hid hto
        have HM2 : Hid (m + 1 = (entO nm (es.take (k + 1))).length) := Lib.hid (by rw [hto, List.length_append, ← HM.out]; rfl)
        have HB2 : Hid (bb = (es.take (k + 1)).any fun e => decide (e.1 = nm)) := Lib.hid (by rw [htk, List.any_append, ← HBB.out]; simp [hx])
        have CA := Chg.alloc [] wr (.cells #[.string x, .slice a1 n1 c1, .slice a2 n2 c2] 123)
        have hown := ownsRow_chg HO.out CA (by simp)
        have hsrc := src_row wr #[.string x, .slice a1 n1 c1, .slice a2 n2 c2] 123 (0, 0)
        have HAB := Lib.hid (app1000 (show m ≤ 1000 by omega))
        clear htk hto he hx
        go_wp2_with (at_builtin; (refine wpList_append_y (.tmp 27) (.tmp 35) 46 rfl rfl 123 i0 _ 3 64 Tryd.underlying46 hi hz0 hz1 hz2 rfl (by decide) (.slice ao' m c') m (flvs (entO nm (es.take k))) hown (some ⟨wr.heap.size, 0, none⟩) 1 1 [.string x, .slice a1 n1 c1, .slice a2 n2 c2] rfl hsrc (fun h => by cases h) (by simp [Value.oneCell']) HAB.out.1 HAB.out.2 rfl rfl ?_))
        intro ao2 c3 w2 hown2 hgr hblk
        have CG := Chg.grown hgr (S := (Value.slice ao' m c').ownBlock.toList) (fun x hx => .inl (by simp [hx]))
        have HC2 : Hid (Chg [] w w2) := Lib.hid ((HC.out.trans CA (by simp)).trans CG (fun y hy => .inr (HW.out y (by simpa using hy))))
        have HSZ := Lib.hid HC.out.size
        have HW2 : Hid (∀ b, (Value.slice ao2 (m + 1) c3).ownBlock = some b → w.heap.size ≤ b) := Lib.hid (fun b hb => by
          rcases hblk with h | h <;> rw [h] at hb
          · exact HW.out b hb
          · rw [← Option.some.inj hb]
            exact Nat.le_trans HSZ.out (Nat.le_succ _))
        have HO2 : Hid (w2.ownsRow 0 123 3 (.slice ao2 (m + 1) c3) (m + 1) (flvs (entO nm (es.take (k + 1))))) := Lib.hid (by
          rw [HTO.out, flvs_append]
          exact hown2)
        clear hown2 hgr hblk hown hsrc CG CA hi hz0 hz1 hz2 HAB y0 y1 y2
        go_wp2_with fail
        go_roundw
        case rel => exact ⟨k + 1, m + 1, c3, ao2, bb, rfl, rfl, by go_num, hlt, Nat.succ_le_succ hmk, HM2, HB2, HO2, HW2, HC2⟩
        case measure => simp [intOf] <;> omega
    · have e1 : ¬ (k : Int) < n := fun h => hlt (Int.ofNat_lt.1 h)
      have hkn : k = n := by omega
      have hb1 := (HC.out.block b (lt_of_block H1.out) (by simp)).trans H1.out
      have hall : es.take k = es := List.take_of_length_le (by rw [HLE.out]; omega)
      have HBF : Hid (bb = hasF R nm) := Lib.hid (by rw [HBB.out, hall]; exact H3.out.any nm)
      have hf0 : wr.frozen? ⟨b, 0, none⟩ = false := by simp [World.frozen?, hb1]
      have h2 := HO.out
      have hm2 := HM.out
      rw [hall] at h2 hm2
      have hd := (H3.out.chg HC.out (by simp)).del nm
      have hC := HC.out.mono (T := [b]) (by simp) |>.trans (Chg.setCell (S := [b]) wr ⟨b, 0, none⟩ (.slice ao' m c') (.inl (by simp))) (fun x hx => .inl hx)
      have hCS := Chg.setCell (S := [b]) wr ⟨b, 0, none⟩ (.slice ao' m c') (.inl (by simp))
      have hmR : m = (Fdel R nm).length := by rw [hm2, hd.len]
      have HFIN : Hid (RefIs (wr.setCell ⟨b, 0, none⟩ (.slice ao' m c')) b (Fdel R nm) (T ++ (Value.slice ao' m c').ownBlock.toList)) := Lib.hid (by
        have hrow0 : ∀ i, i < 1 → (#[.slice ao n c] : Array Value)[i]? = some ((fun _ => Value.slice ao n c) i) := fun i hi => by
          have h0 : i = 0 := by omega
          subst h0
          rfl
        have hr := rowIs_setCells [.slice ao' m c'] 0 wr (fun _ => .slice ao n c) (show wr.rowIs b 48 1 (fun _ => .slice ao n c) from ⟨#[.slice ao n c], hb1, rfl, hrow0⟩)
        obtain ⟨cc, g1, g2, g3⟩ := hr
        have gc : cc = #[.slice ao' m c'] := by
          apply Array.ext_getElem?
          intro i
          by_cases hi : i < 1
          · have : i = 0 := by omega
            subst this
            rw [g3 0 (by omega)]
            rfl
          · rw [Array.getElem?_eq_none (by omega), Array.getElem?_eq_none (by simp; omega)]
        refine ⟨ao', c', entO nm es, ?_, ?_, hd.chg hCS (fun x hx cs t fr hc => ?_), List.mem_append_left _ HFT.out.own, fun k hk => List.mem_append_right _ (by rw [hmR, hk]; simp), fun e he k hk => List.mem_append_left _ (HFT.out.ents e (List.mem_filter.1 he).1 k hk), fun k hk => ?_⟩
        · rw [← hmR, ← gc]
          exact g1
        · rw [← hmR]
          exact ownsRow_chg h2 hCS (fun x hx hm => by
            obtain ⟨cur, hc⟩ := row_block h2 hx
            have hm' : x = b := by simpa using hm
            rw [hm', hb1] at hc
            cases hc)
        · have hx' : x = b := by simpa using hx
          rw [hx', hb1] at hc
          cases hc
          exact ⟨by decide, by decide⟩
        · rcases List.mem_append.1 hk with hk | hk
          · exact Nat.lt_of_lt_of_le (HFT.out.lt k hk) (Nat.le_trans HC.out.size hCS.size)
          · exact Nat.lt_of_lt_of_le (ownsRow_lt h2 k (by simpa using hk)) hCS.size)
      have HTT : Hid (∀ k ∈ T ++ (Value.slice ao' m c').ownBlock.toList, k ∈ T ∨ w.heap.size ≤ k) := Lib.hid (fun k hk => (List.mem_append.1 hk).imp id (fun hk => HW.out k (by simpa using hk)))
      have HCF := Lib.hid hC
      clear hkn hall h2 hm2 hd hC hCS hmR
      go_wp2_with fail
      go_ret
      exact ⟨by rw [HBF.out]; rfl, _, HFIN.out, HCF.out, HTT.out⟩
end Go.Proofs.YtfdhpjflkimihaaDoor
/- A file put where its name stands, step by step, over whatever stands beside the names. Plain; no conditions beyond those that each statement types. -/
namespace Go.Proofs.YtfdhpjflkimihaaDoor
open Go.RowKit

section
variable {α : Type}
def insG : List (ByteArray × α) → ByteArray × α → List (ByteArray × α)
  | [], p => [p]
  | q :: R, p => if p.1.toList < q.1.toList then p :: q :: R else q :: insG R p
/-- Does one of them stand behind it? -/
def behind (l : List (ByteArray × α)) (p : ByteArray × α) : Bool := l.any fun q => decide (p.1.toList < q.1.toList)
theorem insG_done {l : List (ByteArray × α)} {p q : ByteArray × α} (h : behind l p = true) : insG (l ++ [q]) p = insG l p ++ [q] := by
  induction l with
  | nil => simp [behind] at h
  | cons a l ih =>
    rw [List.cons_append]
    unfold insG
    by_cases g : p.1.toList < a.1.toList
    · rw [if_pos g, if_pos g]
      rfl
    · rw [if_neg g, if_neg g, ih (by unfold behind at h ⊢; rw [List.any_cons] at h; simpa [g] using h)]
      rfl
theorem insG_end {l : List (ByteArray × α)} {p : ByteArray × α} (h : behind l p = false) : insG l p = l ++ [p] := by
  induction l with
  | nil => rfl
  | cons a l ih =>
    unfold behind at h
    rw [List.any_cons, Bool.or_eq_false_iff] at h
    unfold insG
    rw [if_neg (by simpa using h.1), ih h.2]
    rfl
theorem insG_here {l : List (ByteArray × α)} {p q : ByteArray × α} (h : behind l p = false) (hq : p.1.toList < q.1.toList) : insG (l ++ [q]) p = l ++ [p, q] := by
  induction l with
  | nil => simp [insG, hq]
  | cons a l ih =>
    unfold behind at h
    rw [List.any_cons, Bool.or_eq_false_iff] at h
    rw [List.cons_append]
    unfold insG
    rw [if_neg (by simpa using h.1), ih h.2]
    rfl
theorem behind_next (l : List (ByteArray × α)) (p q : ByteArray × α) : behind (l ++ [q]) p = (behind l p || decide (p.1.toList < q.1.toList)) := by
  unfold behind
  rw [List.any_append]
  simp
end
theorem insF_G : ∀ (R : Files) (p : ByteArray × List UInt8), insF R p = insG R p
  | [], _ => rfl
  | q :: R, p => by unfold insF insG; rw [insF_G R p]
/-- Entries, one put where its name stands, beside the files so. -/
theorem EntsIs.ins {w : World} {e : Ent} {p : ByteArray × List UInt8} (h : e.1 = p.1 ∧ FVal w e.2.1 p.2 ∧ HVal w e.2.2 (listL p.2)) : ∀ {es : List Ent} {R : Files}, EntsIs w es R → EntsIs w (insG es e) (insF R p)
  | [], [], _ => EntsIs.cons h (EntsIs.nil w)
  | [], _ :: _, g => by have := g.len; simp at this
  | _ :: _, [], g => by have := g.len; simp at this
  | a :: es, q :: R, g => by
    obtain ⟨g1, g2⟩ := g.tail
    unfold insG insF
    rw [h.1, g1.1]
    split
    · exact EntsIs.cons h g
    · exact EntsIs.cons g1 (EntsIs.ins h g2)
end Go.Proofs.YtfdhpjflkimihaaDoor
/- The reference's Add, walked: of a file that is too long. No conditions beyond those that each statement types. -/
namespace Go.Proofs.YtfdhpjflkimihaaDoor
open Go.RowKit

set_option maxRecDepth 100000 in
set_option maxHeartbeats 4000000 in
theorem ref_add_long (b : Nat) (R : Files) (nm : ByteArray) (d : List UInt8) (ao : Option Addr) (c : Nat) (T : List Nat) (w : World) (H : RefIs w b R T) (hs : Src w ao (bvs d)) (hlc : d.length ≤ c) (hlong : 4096 < d.length) (hlm : d.length ≤ 9223372036854775807) :
    Calls Tryd.prog 32 #[.pointer (some ⟨b, 0, none⟩), .string nm, .slice ao d.length c] w fun e w' => e = .returned (.int .i64 3) ∧ RefIs w' b R T ∧ Chg [] w w' := by
  have KL := ref_list d ao c w hs hlc hlm
  rw [show listO d = none by unfold listO; rw [if_pos hlong]] at KL
  have HKL := Lib.hid KL
  have HH := Lib.hid H
  clear KL hs hlc hlong hlm H
  generalize d.length = n at *
  go_enter Tryd.func32, Tryd.ntmps32
  go_wp2_with fail
  refine HKL.out.mono ?_
  rintro e w1 ⟨C1, rfl⟩
  have HC1 := Lib.hid C1
  clear C1
  go_wp2_with fail
  go_ret
  exact ⟨rfl, HH.out.chg HC1.out (by simp), HC1.out⟩
end Go.Proofs.YtfdhpjflkimihaaDoor
/- The reference's Add, walked. No conditions beyond those that each statement types. -/
namespace Go.Proofs.YtfdhpjflkimihaaDoor
open Go.RowKit

/-- What stands when the first k have been passed. -/
def gE (es : List Ent) (k : Nat) (own : Ent) : List Ent := if behind (es.take k) own then insG (es.take k) own else es.take k
theorem take_nextE {α : Type} {es : List α} {k : Nat} {e : α} (h : es[k]? = some e) : es.take (k + 1) = es.take k ++ [e] := by rw [List.take_add_one, h]; rfl
theorem behind_t {es : List Ent} {k : Nat} {e own : Ent} (h : es[k]? = some e) (hb : true = behind (es.take k) own) : true = behind (es.take (k + 1)) own := by rw [take_nextE h, behind_next, ← hb]; rfl
theorem behind_h {es : List Ent} {k : Nat} {e own : Ent} (h : es[k]? = some e) (hl : own.1.toList < e.1.toList) : true = behind (es.take (k + 1)) own := by rw [take_nextE h, behind_next, decide_eq_true hl, Bool.or_true]
theorem behind_n {es : List Ent} {k : Nat} {e own : Ent} (h : es[k]? = some e) (hb : false = behind (es.take k) own) (hl : ¬ own.1.toList < e.1.toList) : false = behind (es.take (k + 1)) own := by rw [take_nextE h, behind_next, ← hb, decide_eq_false hl]; rfl
theorem gE_done {es : List Ent} {k : Nat} {e own : Ent} (h : es[k]? = some e) (hb : true = behind (es.take k) own) : gE es (k + 1) own = gE es k own ++ [e] := by
  unfold gE
  rw [← behind_t h hb, ← hb, take_nextE h]
  exact insG_done hb.symm
theorem gE_here {es : List Ent} {k : Nat} {e own : Ent} (h : es[k]? = some e) (hb : false = behind (es.take k) own) (hl : own.1.toList < e.1.toList) : gE es (k + 1) own = (gE es k own ++ [own]) ++ [e] := by
  unfold gE
  rw [← behind_h h hl, ← hb, take_nextE h, List.append_assoc]
  exact insG_here hb.symm hl
theorem gE_not {es : List Ent} {k : Nat} {e own : Ent} (h : es[k]? = some e) (hb : false = behind (es.take k) own) (hl : ¬ own.1.toList < e.1.toList) : gE es (k + 1) own = gE es k own ++ [e] := by
  unfold gE
  rw [← behind_n h hb hl, ← hb, take_nextE h]
  rfl
theorem gE_all_t {es : List Ent} {k : Nat} {own : Ent} (h : es.take k = es) (hb : true = behind (es.take k) own) : gE es k own = insG es own := by
  unfold gE
  rw [← hb, h]
  rfl
theorem gE_all_n {es : List Ent} {k : Nat} {own : Ent} (h : es.take k = es) (hb : false = behind (es.take k) own) : gE es k own ++ [own] = insG es own := by
  unfold gE
  rw [← hb, h, insG_end (by rw [h] at hb; exact hb.symm)]
  rfl
theorem gE_len {es : List Ent} {k : Nat} {own : Ent} (hb : false = behind (es.take k) own) : (gE es k own).length ≤ k := by
  unfold gE
  rw [← hb]
  exact List.length_take_le _ _
theorem set1_block {w : World} {g : Nat} {a b c v : Value} {t : TypeId} {fr : Nat × Nat} (h : w.heap[g]? = some (.cells #[a, b, c] t fr)) : (w.setCell ⟨g, 1, none⟩ v).heap[g]? = some (.cells #[a, v, c] t fr) := by
  simp [World.setCell, Array.getElem?_modify, h]
/-- The finder's slice put: its files are others now. -/
theorem insG_mem {α : Type} {l : List (ByteArray × α)} {p x : ByteArray × α} (h : x ∈ insG l p) : x = p ∨ x ∈ l := by
  induction l with
  | nil => exact .inl (by simpa [insG] using h)
  | cons a l ih =>
    unfold insG at h
    split at h
    · rcases List.mem_cons.1 h with h | h
      · exact .inl h
      · exact .inr h
    · rcases List.mem_cons.1 h with h | h
      · exact .inr (by rw [h]; exact List.mem_cons_self)
      · exact (ih h).imp id (List.mem_cons_of_mem _)
def putT (T : List Nat) (v : Value) (own : Ent) : List Nat := T ++ (v.ownBlock.toList ++ (own.2.1.ownBlock.toList ++ own.2.2.ownBlock.toList))
theorem putT_mem {T : List Nat} {v : Value} {own : Ent} {k : Nat} : k ∈ putT T v own ↔ k ∈ T ∨ v.ownBlock = some k ∨ own.2.1.ownBlock = some k ∨ own.2.2.ownBlock = some k := by
  unfold putT
  simp
theorem ref_put {w5 wr : World} {b m1 c1 m c' : Nat} {ao1 ao' : Option Addr} {es G : List Ent} {R : Files} {own : Ent} {nm : ByteArray} {d : List UInt8} {T : List Nat} {v0 : Value} {w2 : World} (hf : RefFoot w2 b v0 es T) (hsz : w2.heap.size ≤ w5.heap.size)
    (hb5 : w5.heap[b]? = some (.cells #[.slice ao1 m1 c1] 48 (0, 0))) (h35 : EntsIs w5 es R) (hnew : own.1 = nm ∧ FVal w5 own.2.1 d ∧ HVal w5 own.2.2 (listL d)) (C : Chg [] w5 wr)
    (ho : wr.ownsRow 0 123 3 (.slice ao' m c') m (flvs G)) (hm : m = G.length) (hG : G = insG es own) :
    RefIs (wr.setCell ⟨b, 0, none⟩ (.slice ao' m c')) b (insF R (nm, d)) (putT T (.slice ao' m c') own) := by
  have hCS := Chg.setCell (S := [b]) wr ⟨b, 0, none⟩ (.slice ao' m c') (.inl (by simp))
  have hb1 := (C.block b (lt_of_block hb5) (by simp)).trans hb5
  have hI : EntsIs wr (insG es own) (insF R (nm, d)) := EntsIs.ins (p := (nm, d)) ⟨hnew.1, hnew.2.1.chg C (by simp), hnew.2.2.chg C (by simp)⟩ (h35.chg C (by simp))
  have hl := hI.len
  rw [← hG, ← hm] at hl
  have hn2 := hnew.2.1.chg C (by simp)
  have hn3 := hnew.2.2.chg C (by simp)
  refine ⟨ao', c', G, ?_, ?_, ?_, putT_mem.2 (.inl hf.own), fun k hk => putT_mem.2 (.inr (.inl (by rw [hl]; exact hk))), fun e he k hk => ?_, fun k hk => ?_⟩
  · rw [one_setCell hb1, hl]
  · rw [← hl]
    exact ownsRow_chg ho hCS (fun x hx hx' => by
      obtain ⟨cur, hc⟩ := row_block ho hx
      have hm' : x = b := by simpa using hx'
      rw [hm', hb1] at hc
      cases hc)
  · rw [hG]
    exact hI.chg hCS (fun x hx cs t fr hc => by
      have hx' : x = b := by simpa using hx
      rw [hx', hb1] at hc
      cases hc
      exact ⟨by decide, by decide⟩)
  · rw [hG] at he
    rcases insG_mem he with rfl | he
    · exact putT_mem.2 (.inr (.inr hk))
    · exact putT_mem.2 (.inl (hf.ents e he k hk))
  · refine Nat.lt_of_lt_of_le ?_ hCS.size
    rcases putT_mem.1 hk with hk | hk | hk | hk
    · exact Nat.lt_of_lt_of_le (hf.lt k hk) (Nat.le_trans hsz C.size)
    · exact ownsRow_lt ho k hk
    · obtain ⟨_, _, e, h⟩ := hn2
      rw [e] at hk
      exact ownsRow_lt h k hk
    · obtain ⟨_, _, e, h⟩ := hn3
      rw [e] at hk
      exact ownsRow_lt h k hk

set_option maxRecDepth 100000 in
set_option maxHeartbeats 8000000 in
theorem ref_addN (b : Nat) (R : Files) (nm : ByteArray) (d : List UInt8) (ao : Option Addr) (c : Nat) (T : List Nat) (w : World) (H : RefIs w b R T) (hs : Src w ao (bvs d)) (hlc : d.length ≤ c) (hc0 : ao = none → c = 0) (hd4 : d.length ≤ 4096) (hl : R.length ≤ 999) (hb : 0 < d.length → ∀ a, ao = some a → a.block ≠ b) :
    Calls Tryd.prog 32 #[.pointer (some ⟨b, 0, none⟩), .string nm, .slice ao d.length c] w fun e w' => e = .returned (.int .i64 0) ∧ RefTo w b (insF (Fdel R nm) (nm, d)) T w' := by
  have KL := ref_list d ao c w hs hlc (by omega)
  rw [show listO d = some (listL d) by unfold listO; rw [if_neg (by omega)]] at KL
  have HKL := Lib.hid KL
  have HH := Lib.hid H
  have HS := Lib.hid hs
  have HC0 := Lib.hid hc0
  have HBN := Lib.hid hb
  obtain ⟨n, hn⟩ : ∃ n, d.length = n := ⟨_, rfl⟩
  have HN := Lib.hid hn
  rw [hn] at HKL hlc hd4 ⊢
  clear KL H hs hc0 hb hn
  go_enter Tryd.func32, Tryd.ntmps32
  go_wp2_with fail
  refine HKL.out.mono ?_
  rintro e w1 ⟨C1, al, cl, rfl, ho1, hn1⟩
  obtain ⟨LN, hLN⟩ : ∃ LN, (listL d).length = LN := ⟨_, rfl⟩
  have HLN := Lib.hid hLN
  have HL : Hid ((Fdel R nm).length ≤ 999) := Lib.hid (Nat.le_trans (List.length_filter_le _ _) hl)
  have KF := Lib.hid (ref_forget b R nm T w1 (HH.out.chg C1 (by simp)) (by omega))
  have HC1 := Lib.hid C1
  have HO1 := Lib.hid ho1
  have HN1 := Lib.hid hn1
  rw [hLN]
  clear C1 ho1 hn1 hLN HKL
  go_wp2_with fail
  refine KF.out.mono ?_
  rintro e w2 ⟨rfl, T2, HR2, C2, hT2⟩
  have HT2 := Lib.hid hT2
  have HR2 := Lib.hid HR2
  have HC2 := Lib.hid C2
  clear C2 hT2 KF
  go_upto_region 7 with (fail)
  have hx3 := heap_alloc_new w2 (.cells #[.string nm, .slice none 0 0, .slice al LN cl] 123)
  have CA := Chg.alloc [] w2 (.cells #[.string nm, .slice none 0 0, .slice al LN cl] 123)
  obtain ⟨q3, hq3⟩ : ∃ q3, w2.heap.size = q3 := ⟨_, rfl⟩
  rw [hq3] at hx3 ⊢
  have HQ3 : Hid (w2.heap.size = q3) := Lib.hid hq3
  have HC3 := Lib.hid CA
  generalize w2.alloc (.cells #[.string nm, .slice none 0 0, .slice al LN cl] 123) = w3 at *
  have y1 : w3.cell? ⟨q3, 1, none⟩ = some (.slice none 0 0) := by rw [cell_of_row _ _ _ _ _ _ hx3]; rfl
  have z1 : w3.frozen? ⟨q3, 1, none⟩ = false := by simp [World.frozen?, hx3]
  obtain ⟨i0, hi, hz0, hz1, hz2⟩ := info_parts Tryd.infoU8'
  have hsr : Src w3 ao (bvs d) := ((HS.out.chg HC1.out (by simp)).chgN HC2.out (fun h a ha => by simpa using HBN.out (by rwa [bvs_length] at h) a ha)).chg HC3.out (by simp)
  have hbv : (bvs d).length = n * 1 := by rw [bvs_length, HN.out, Nat.mul_one]
  have hcc := HC0.out
  have HAB := Lib.hid (app_bounds (show n ≤ 100000 by omega))
  go_wp2_with (at_builtin; go_loud (refine wpList_append_y (.tmp 28) (.tmp 29) 25 rfl rfl 5 i0 _ 1 1 Tryd.underlying25 hi hz0 hz1 hz2 rfl (by decide) (.slice none 0 0) 0 [] (World.ownsRow_nil _ _ _ _) ao n c (bvs d) hbv hsr hcc (bvs_one _) HAB.out.1 HAB.out.2 rfl rfl ?_))
  intro ad c4 w4 hown4 hgr4 hblk4
  try simp only [Nat.zero_add, List.nil_append] at hown4
  have C4 : Chg [] w3 w4 := Chg.grown hgr4 (fun x hx => by cases hx)
  have hx4 := (C4.block q3 (lt_of_block hx3) (by simp)).trans hx3
  have y4 : w4.cell? ⟨q3, 1, none⟩ = some (.slice none 0 0) := by rw [cell_of_row _ _ _ _ _ _ hx4]; rfl
  have z4 : w4.frozen? ⟨q3, 1, none⟩ = false := by simp [World.frozen?, hx4]
  have HO4 := Lib.hid hown4
  have HBL : Hid ((Value.slice ad n c4).ownBlock = none ∨ (Value.slice ad n c4).ownBlock = some w3.heap.size) := Lib.hid hblk4
  have HC4 := Lib.hid C4
  have HX4 := Lib.hid hx4
  clear hown4 hgr4 hblk4 C4 hx3 hx4 y1 z1 hsr hbv hcc hi hz0 hz1 hz2
  go_upto_region 10 with (fail)
  have h5 : (w4.setCell ⟨q3, 1, none⟩ (.slice ad n c4)).heap[q3]? = some (.cells #[.string nm, .slice ad n c4, .slice al LN cl] 123 (0, 0)) := set1_block HX4.out
  have C5 : Chg [] w2 (w4.setCell ⟨q3, 1, none⟩ (.slice ad n c4)) := (HC3.out.trans HC4.out (by simp)).trans (Chg.setCell (S := [q3]) w4 ⟨q3, 1, none⟩ (.slice ad n c4) (.inl (by simp))) (fun x hx => .inr (by
    have : x = q3 := by simpa using hx
    rw [HQ3.out]
    omega))
  have hown5 : (w4.setCell ⟨q3, 1, none⟩ (.slice ad n c4)).ownsRow 0 5 1 (.slice ad n c4) n (bvs d) := ownsRow_chg HO4.out (Chg.setCell (S := [q3]) w4 ⟨q3, 1, none⟩ (.slice ad n c4) (.inl (by simp))) (fun x hx hm => by
    have hm' : x = q3 := by simpa using hm
    subst hm'
    exact ownsRow_ne HO4.out HX4.out (by decide) hx)
  have hfv : FVal (w4.setCell ⟨q3, 1, none⟩ (.slice ad n c4)) (.slice ad n c4) d := ⟨ad, c4, by rw [HN.out], by rw [HN.out]; exact hown5⟩
  have hhv : HVal (w4.setCell ⟨q3, 1, none⟩ (.slice ad n c4)) (.slice al LN cl) (listL d) := by
    refine ⟨al, cl, by rw [HLN.out], ?_⟩
    rw [HLN.out]
    have ho := HO1.out
    rw [HLN.out] at ho
    have hr1 := HH.out.chg HC1.out (by simp)
    obtain ⟨_, _, _, hb1, _, _, _⟩ := hr1
    refine ownsRow_chg (ownsRow_chg ho HC2.out (fun x hx hm => ?_)) C5 (by simp)
    have hm' : x = b := by simpa using hm
    subst hm'
    exact ownsRow_ne ho hb1 (by decide) hx
  obtain ⟨ao1, c1, es, h1, h2, h3, h4⟩ := HR2.out
  have HFT := Lib.hid h4
  have hlen := h3.len
  have hRl := HL.out
  obtain ⟨m1, hm1⟩ : ∃ m1, (Fdel R nm).length = m1 := ⟨_, rfl⟩
  have HM1 := Lib.hid hm1
  rw [hm1] at h1 h2 hlen hRl
  have hb5 := (C5.block b (lt_of_block h1) (by simp)).trans h1
  have h25 := ownsRow_chg h2 C5 (by simp)
  have h35 := h3.chg C5 (by simp)
  have HB : Hid (∀ wr, Chg [] (w4.setCell ⟨q3, 1, none⟩ (.slice ad n c4)) wr → wr.cell? ⟨b, 0, none⟩ = some (.slice ao1 m1 c1)) := Lib.hid (fun wr C => by
    rw [cell_of_row _ _ _ _ _ _ ((C.block b (lt_of_block hb5) (by simp)).trans hb5)]; rfl)
  have HQ : Hid (∀ wr, Chg [] (w4.setCell ⟨q3, 1, none⟩ (.slice ad n c4)) wr → wr.cell? ⟨q3, 0, none⟩ = some (.string nm) ∧ wr.cell? ⟨q3, 1, none⟩ = some (.slice ad n c4) ∧ wr.cell? ⟨q3, 2, none⟩ = some (.slice al LN cl)) := Lib.hid (fun wr C => by
    have hq := (C.block q3 (lt_of_block h5) (by simp)).trans h5
    refine ⟨?_, ?_, ?_⟩ <;> (rw [cell_of_row _ _ _ _ _ _ hq]; rfl))
  have HE : Hid (∀ k wr, k < m1 → Chg [] (w4.setCell ⟨q3, 1, none⟩ (.slice ad n c4)) wr → ∃ g x a1 n1 c1 a2 n2 c2, ao1 = some ⟨g, 0, none⟩ ∧ es[k]? = some (x, .slice a1 n1 c1, .slice a2 n2 c2) ∧ wr.cell? ⟨g, k * 3, none⟩ = some (.string x) ∧ wr.cell? ⟨g, k * 3 + 1, none⟩ = some (.slice a1 n1 c1) ∧ wr.cell? ⟨g, k * 3 + 2, none⟩ = some (.slice a2 n2 c2)) := Lib.hid (fun k wr hk C => by
    obtain ⟨e, he⟩ : ∃ e, es[k]? = some e := ⟨_, List.getElem?_eq_getElem (by omega)⟩
    obtain ⟨p, hp⟩ : ∃ p, (Fdel R nm)[k]? = some p := ⟨_, List.getElem?_eq_getElem (by rw [hm1]; exact hk)⟩
    obtain ⟨x, v1, v2⟩ := e
    obtain ⟨_, ⟨a1, c1, e1, _⟩, ⟨a2, c2, e2, _⟩⟩ := h35.ent k _ p he hp
    simp only [] at e1 e2
    subst e1 e2
    obtain ⟨g, rfl⟩ := ownsRow_head h25 (by omega)
    obtain ⟨q0, q1, q2⟩ := flvs_at he
    have y := fun j u (hj : (flvs es)[j]? = some u) => by
      have := h25.cells (g := g) rfl j u hj
      rwa [addr_add0] at this
    exact ⟨g, x, _, _, _, _, _, _, rfl, he, C.cell_some (y _ _ q0) (by simp), C.cell_some (y _ _ q1) (by simp), C.cell_some (y _ _ q2) (by simp)⟩)
  have HB5 := Lib.hid hb5
  have HE5 := Lib.hid h35
  obtain ⟨own, hown0⟩ : ∃ own : Ent, own = (nm, .slice ad n c4, .slice al LN cl) := ⟨_, rfl⟩
  have HNEW : Hid (own.1 = nm ∧ FVal (w4.setCell ⟨q3, 1, none⟩ (.slice ad n c4)) own.2.1 d ∧ HVal (w4.setCell ⟨q3, 1, none⟩ (.slice ad n c4)) own.2.2 (listL d)) := Lib.hid (by rw [hown0]; exact ⟨rfl, hfv, hhv⟩)
  have HOWN := Lib.hid hown0
  clear hown0
  have HSZ5 : Hid (w2.heap.size ≤ (w4.setCell ⟨q3, 1, none⟩ (.slice ad n c4)).heap.size) := Lib.hid C5.size
  have HBT : Hid (∀ k, (k ∈ T2 ∨ (own.2.1.ownBlock = some k ∨ own.2.2.ownBlock = some k)) → k ∈ T ∨ w.heap.size ≤ k) := Lib.hid (fun k hk => by
    have hs1 := HC1.out.size
    have hs2 := HC2.out.size
    have hs3 := HC3.out.size
    rcases hk with hk | hk | hk
    · rcases HT2.out k hk with g | g
      · exact .inl g
      · exact .inr (by omega)
    · right
      rw [HOWN.out] at hk
      rcases HBL.out with g | g <;> rw [show (Value.slice ad n c4).ownBlock = some k from hk] at g
      · cases g
      · have := Option.some.inj g
        omega
    · right
      rw [HOWN.out] at hk
      exact HN1.out k (by rw [HLN.out]; exact hk))
  have HC5 : Hid (Chg [b] w (w4.setCell ⟨q3, 1, none⟩ (.slice ad n c4))) := Lib.hid (((HC1.out.mono (T := [b]) (by simp)).trans HC2.out (fun x hx => .inl hx)).trans C5 (by simp))
  have HLE := Lib.hid hlen
  obtain ⟨f0, hf, hf0, hf1, hf2⟩ := info_parts infoFileU
  generalize w4.setCell ⟨q3, 1, none⟩ (.slice ad n c4) = w5 at *
  clear h1 h2 h3 h4 hb5 h25 h35 hfv hhv hown5 h5 C5 hm1 hlen HX4 HC4 HO4 y4 z4 HAB HR2 HC2 HC1 HO1 HN1 HC3 HQ3 HH HS HC0 HBN HN HLN HL
  go_loopw [9, 11, 12] (fun v9 v11 v12 wr => ∃ (k m c' : Nat) (ao' : Option Addr) (bb : Bool), v9 = .slice ao' m c' ∧ v11 = .bool bb ∧ v12 = .int .i64 (k : Int) ∧ k ≤ m1 ∧ m ≤ k + 1 ∧ Hid (m = (gE es k own).length) ∧ Hid (bb = behind (es.take k) own) ∧ Hid (wr.ownsRow 0 123 3 (.slice ao' m c') m (flvs (gE es k own))) ∧ Hid (∀ b, (Value.slice ao' m c').ownBlock = some b → w5.heap.size ≤ b) ∧ Hid (Chg [] w5 wr)) (fun _ _ v _ => m1 - (intOf v).toNat)
  case atStart => exact ⟨0, 0, 0, none, false, rfl, rfl, rfl, Nat.zero_le _, Nat.zero_le _, Lib.hid rfl, Lib.hid rfl, Lib.hid (World.ownsRow_nil _ _ _ _), Lib.hid (fun b hb => by cases hb), Lib.hid (Chg.refl _ _)⟩
  case round =>
    obtain ⟨k, m, c', ao', bb, rfl, rfl, rfl, hk, hmk, HM, HBB, HO, HW, HC⟩ := hrel
    have hb0 := HB.out wr HC.out
    by_cases hlt : k < m1
    · have e1 : (k : Int) < m1 := Int.ofNat_lt.2 hlt
      have e0 : (0 : Int) ≤ k := Int.natCast_nonneg _
      obtain ⟨g, x, a1, n1, c1, a2, n2, c2, rfl, he, y0, y1, y2⟩ := HE.out k wr hlt HC.out
      have HEk := Lib.hid he
      clear he
      cases bb with
      | true =>
        have HG : Hid (gE es (k + 1) own = gE es k own ++ [(x, .slice a1 n1 c1, .slice a2 n2 c2)]) := Lib.hid (gE_done HEk.out HBB.out)
        have HB2 : Hid (true = behind (es.take (k + 1)) own) := Lib.hid (behind_t HEk.out HBB.out)
        have CA := Chg.alloc [] wr (.cells #[.string x, .slice a1 n1 c1, .slice a2 n2 c2] 123)
        have hown := ownsRow_chg HO.out CA (by simp)
        have hsrc := src_row wr #[.string x, .slice a1 n1 c1, .slice a2 n2 c2] 123 (0, 0)
        have HAB := Lib.hid (app1000 (show m ≤ 1000 by omega))
        go_wp2_with (at_builtin; go_loud (refine wpList_append_y (.tmp 59) (.tmp 67) 46 rfl rfl 123 f0 _ 3 64 Tryd.underlying46 hf hf0 hf1 hf2 rfl (by decide) (.slice ao' m c') (m) (flvs (gE es k own)) hown (some ⟨wr.heap.size, 0, none⟩) 1 1 [.string x, .slice a1 n1 c1, .slice a2 n2 c2] rfl hsrc (fun h => by cases h) (by simp [Value.oneCell']) HAB.out.1 HAB.out.2 rfl rfl ?_))
        intro ao3 c3 w3 hown2 hgr hblk
        have CG := Chg.grown hgr (S := (Value.slice ao' m c').ownBlock.toList) (fun x hx => .inl (by simp [hx]))
        have HC3 : Hid (Chg [] w5 w3) := Lib.hid ((HC.out.trans CA (by simp)).trans CG (fun y hy => .inr (HW.out y (by simpa using hy))))
        have HSZ := Lib.hid HC.out.size
        have HW3 : Hid (∀ b, (Value.slice ao3 (m + 1) c3).ownBlock = some b → w5.heap.size ≤ b) := Lib.hid (fun b hb => by
          rcases hblk with h | h <;> rw [h] at hb
          · exact HW.out b hb
          · rw [← Option.some.inj hb]
            exact Nat.le_trans HSZ.out (Nat.le_succ _))
        have HO3 : Hid (w3.ownsRow 0 123 3 (.slice ao3 (m + 1) c3) (m + 1) (flvs (gE es (k + 1) own))) := Lib.hid (by
          rw [HG.out, flvs_append]
          exact hown2)
        clear hown2 hgr hblk hown hsrc CG CA HAB HSZ
        go_wp2_with fail
        go_roundw
        case rel => exact ⟨k + 1, m + 1, c3, ao3, true, rfl, rfl, by go_num, hlt, Nat.succ_le_succ hmk, Lib.hid (by rw [HG.out, List.length_append, ← HM.out]; rfl), HB2, HO3, HW3, HC3⟩
        case measure => simp [intOf] <;> omega
      | false =>
        by_cases hx : nm.toList < x.toList
        · have hq : Op.bytesLess nm.toList x.toList = true := by rw [bless]; exact decide_eq_true hx
          have HB2 : Hid (true = behind (es.take (k + 1)) own) := Lib.hid (behind_h HEk.out (by rw [HOWN.out]; exact hx))
          have HG0 : Hid (gE es k own ++ [own] = gE es k own ++ [(nm, .slice ad n c4, .slice al LN cl)]) := Lib.hid (by rw [HOWN.out])
          have HG : Hid (gE es (k + 1) own = (gE es k own ++ [own]) ++ [(x, .slice a1 n1 c1, .slice a2 n2 c2)]) := Lib.hid (gE_here HEk.out HBB.out (by rw [HOWN.out]; exact hx))
          obtain ⟨z0, z1, z2⟩ := HQ.out wr HC.out
          have hmk2 : m ≤ k := by rw [HM.out]; exact gE_len HBB.out
          clear hx
          have CA := Chg.alloc [] wr (.cells #[.string nm, .slice ad n c4, .slice al LN cl] 123)
          have hown := ownsRow_chg HO.out CA (by simp)
          have hsrc := src_row wr #[.string nm, .slice ad n c4, .slice al LN cl] 123 (0, 0)
          have HAB := Lib.hid (app1000 (show m ≤ 1000 by omega))
          go_wp2_with (at_builtin; go_loud (refine wpList_append_y (.tmp 55) (.tmp 57) 46 rfl rfl 123 f0 _ 3 64 Tryd.underlying46 hf hf0 hf1 hf2 rfl (by decide) (.slice ao' m c') (m) (flvs (gE es k own)) hown (some ⟨wr.heap.size, 0, none⟩) 1 1 [.string nm, .slice ad n c4, .slice al LN cl] rfl hsrc (fun h => by cases h) (by simp [Value.oneCell']) HAB.out.1 HAB.out.2 rfl rfl ?_))
          intro ao3 c3 w3 hown2 hgr hblk
          have CG := Chg.grown hgr (S := (Value.slice ao' m c').ownBlock.toList) (fun x hx => .inl (by simp [hx]))
          have HC3 : Hid (Chg [] w5 w3) := Lib.hid ((HC.out.trans CA (by simp)).trans CG (fun y hy => .inr (HW.out y (by simpa using hy))))
          have HSZ := Lib.hid HC.out.size
          have HW3 : Hid (∀ b, (Value.slice ao3 (m + 1) c3).ownBlock = some b → w5.heap.size ≤ b) := Lib.hid (fun b hb => by
            rcases hblk with h | h <;> rw [h] at hb
            · exact HW.out b hb
            · rw [← Option.some.inj hb]
              exact Nat.le_trans HSZ.out (Nat.le_succ _))
          have HO3 : Hid (w3.ownsRow 0 123 3 (.slice ao3 (m + 1) c3) (m + 1) (flvs (gE es k own ++ [own]))) := Lib.hid (by
            rw [HG0.out, flvs_append]
            exact hown2)
          clear hown2 hgr hblk hown hsrc CG CA HAB HSZ
          have hb0' := HB.out w3 HC3.out
          obtain ⟨y0', y1', y2'⟩ : w3.cell? ⟨g, k * 3, none⟩ = some (.string x) ∧ w3.cell? ⟨g, k * 3 + 1, none⟩ = some (.slice a1 n1 c1) ∧ w3.cell? ⟨g, k * 3 + 2, none⟩ = some (.slice a2 n2 c2) := by
            obtain ⟨g', x', b1, n1', b3, b4, n2', b6, u0, u1, u2, u3, u4⟩ := HE.out k w3 hlt HC3.out
            rw [HEk.out] at u1
            cases u0
            cases u1
            exact ⟨u2, u3, u4⟩
          clear hb0 y0 y1 y2 z0 z1 z2
          have CA := Chg.alloc [] w3 (.cells #[.string x, .slice a1 n1 c1, .slice a2 n2 c2] 123)
          have hown := ownsRow_chg HO3.out CA (by simp)
          have hsrc := src_row w3 #[.string x, .slice a1 n1 c1, .slice a2 n2 c2] 123 (0, 0)
          have HAB := Lib.hid (app1000 (show (m + 1) ≤ 1000 by omega))
          go_wp2_with (at_builtin; go_loud (refine wpList_append_y (.tmp 59) (.tmp 67) 46 rfl rfl 123 f0 _ 3 64 Tryd.underlying46 hf hf0 hf1 hf2 rfl (by decide) (.slice ao3 (m + 1) c3) ((m + 1)) (flvs (gE es k own ++ [own])) hown (some ⟨w3.heap.size, 0, none⟩) 1 1 [.string x, .slice a1 n1 c1, .slice a2 n2 c2] rfl hsrc (fun h => by cases h) (by simp [Value.oneCell']) HAB.out.1 HAB.out.2 rfl rfl ?_))
          intro ao6 c6 w6 hown2 hgr hblk
          have CG := Chg.grown hgr (S := (Value.slice ao3 (m + 1) c3).ownBlock.toList) (fun x hx => .inl (by simp [hx]))
          have HC6 : Hid (Chg [] w5 w6) := Lib.hid ((HC3.out.trans CA (by simp)).trans CG (fun y hy => .inr (HW3.out y (by simpa using hy))))
          have HSZ := Lib.hid HC3.out.size
          have HW6 : Hid (∀ b, (Value.slice ao6 ((m + 1) + 1) c6).ownBlock = some b → w5.heap.size ≤ b) := Lib.hid (fun b hb => by
            rcases hblk with h | h <;> rw [h] at hb
            · exact HW3.out b hb
            · rw [← Option.some.inj hb]
              exact Nat.le_trans HSZ.out (Nat.le_succ _))
          have HO6 : Hid (w6.ownsRow 0 123 3 (.slice ao6 ((m + 1) + 1) c6) ((m + 1) + 1) (flvs (gE es (k + 1) own))) := Lib.hid (by
            rw [HG.out, flvs_append]
            exact hown2)
          clear hown2 hgr hblk hown hsrc CG CA HAB HSZ
          go_wp2_with fail
          go_roundw
          case rel => exact ⟨k + 1, m + 1 + 1, c6, ao6, true, rfl, rfl, by go_num, hlt, by omega, Lib.hid (by rw [HG.out, List.length_append, List.length_append, ← HM.out]; rfl), HB2, HO6, HW6, HC6⟩
          case measure => simp [intOf] <;> omega
        · have hq : Op.bytesLess nm.toList x.toList = false := by rw [bless]; exact decide_eq_false hx
          have HB2 : Hid (false = behind (es.take (k + 1)) own) := Lib.hid (behind_n HEk.out HBB.out (by rw [HOWN.out]; exact hx))
          have HG : Hid (gE es (k + 1) own = gE es k own ++ [(x, .slice a1 n1 c1, .slice a2 n2 c2)]) := Lib.hid (gE_not HEk.out HBB.out (by rw [HOWN.out]; exact hx))
          clear hx
          have CA := Chg.alloc [] wr (.cells #[.string x, .slice a1 n1 c1, .slice a2 n2 c2] 123)
          have hown := ownsRow_chg HO.out CA (by simp)
          have hsrc := src_row wr #[.string x, .slice a1 n1 c1, .slice a2 n2 c2] 123 (0, 0)
          have HAB := Lib.hid (app1000 (show m ≤ 1000 by omega))
          go_wp2_with (at_builtin; go_loud (refine wpList_append_y (.tmp 59) (.tmp 67) 46 rfl rfl 123 f0 _ 3 64 Tryd.underlying46 hf hf0 hf1 hf2 rfl (by decide) (.slice ao' m c') (m) (flvs (gE es k own)) hown (some ⟨wr.heap.size, 0, none⟩) 1 1 [.string x, .slice a1 n1 c1, .slice a2 n2 c2] rfl hsrc (fun h => by cases h) (by simp [Value.oneCell']) HAB.out.1 HAB.out.2 rfl rfl ?_))
          intro ao3 c3 w3 hown2 hgr hblk
          have CG := Chg.grown hgr (S := (Value.slice ao' m c').ownBlock.toList) (fun x hx => .inl (by simp [hx]))
          have HC3 : Hid (Chg [] w5 w3) := Lib.hid ((HC.out.trans CA (by simp)).trans CG (fun y hy => .inr (HW.out y (by simpa using hy))))
          have HSZ := Lib.hid HC.out.size
          have HW3 : Hid (∀ b, (Value.slice ao3 (m + 1) c3).ownBlock = some b → w5.heap.size ≤ b) := Lib.hid (fun b hb => by
            rcases hblk with h | h <;> rw [h] at hb
            · exact HW.out b hb
            · rw [← Option.some.inj hb]
              exact Nat.le_trans HSZ.out (Nat.le_succ _))
          have HO3 : Hid (w3.ownsRow 0 123 3 (.slice ao3 (m + 1) c3) (m + 1) (flvs (gE es (k + 1) own))) := Lib.hid (by
            rw [HG.out, flvs_append]
            exact hown2)
          clear hown2 hgr hblk hown hsrc CG CA HAB HSZ
          go_wp2_with fail
          go_roundw
          case rel => exact ⟨k + 1, m + 1, c3, ao3, false, rfl, rfl, by go_num, hlt, Nat.succ_le_succ hmk, Lib.hid (by rw [HG.out, List.length_append, ← HM.out]; rfl), HB2, HO3, HW3, HC3⟩
          case measure => simp [intOf] <;> omega
    · have e1 : ¬ (k : Int) < m1 := fun h => hlt (Int.ofNat_lt.1 h)
      have hkn : k = m1 := by omega
      have hall : es.take k = es := List.take_of_length_le (by rw [HLE.out]; omega)
      have HALL := Lib.hid hall
      clear hkn hall
      cases bb with
      | true =>
        have hb1 := (HC.out.block b (lt_of_block HB5.out) (by simp)).trans HB5.out
        have hf9 : wr.frozen? ⟨b, 0, none⟩ = false := by simp [World.frozen?, hb1]
        have HFIN : Hid (RefIs (wr.setCell ⟨b, 0, none⟩ (.slice ao' m c')) b (insF (Fdel R nm) (nm, d)) (putT T2 (.slice ao' m c') own)) := Lib.hid (ref_put HFT.out HSZ5.out HB5.out HE5.out HNEW.out HC.out HO.out HM.out (gE_all_t HALL.out HBB.out))
        have HCF : Hid (Chg [b] w (wr.setCell ⟨b, 0, none⟩ (.slice ao' m c'))) := Lib.hid ((HC5.out.trans HC.out (by simp)).trans (Chg.setCell (S := [b]) wr ⟨b, 0, none⟩ (.slice ao' m c') (.inl (by simp))) (fun x hx => .inl hx))
        have HTT : Hid (∀ k ∈ putT T2 (.slice ao' m c') own, k ∈ T ∨ w.heap.size ≤ k) := Lib.hid (fun k hk => by
          rcases putT_mem.1 hk with hk | hk | hk
          · exact HBT.out k (.inl hk)
          · exact .inr (Nat.le_trans HC5.out.size (HW.out k hk))
          · exact HBT.out k (.inr hk))
        clear hb1 hf hf0 hf1 hf2
        go_wp2_with fail
        go_ret
        exact ⟨rfl, _, HFIN.out, HCF.out, HTT.out⟩
      | false =>
        have HG0 : Hid (gE es k own ++ [own] = gE es k own ++ [(nm, .slice ad n c4, .slice al LN cl)]) := Lib.hid (by rw [HOWN.out])
        obtain ⟨z0, z1, z2⟩ := HQ.out wr HC.out
        have CA := Chg.alloc [] wr (.cells #[.string nm, .slice ad n c4, .slice al LN cl] 123)
        have hown := ownsRow_chg HO.out CA (by simp)
        have hsrc := src_row wr #[.string nm, .slice ad n c4, .slice al LN cl] 123 (0, 0)
        have HAB := Lib.hid (app1000 (show m ≤ 1000 by omega))
        go_wp2_with (at_builtin; go_loud (refine wpList_append_y (.tmp 71) (.tmp 73) 46 rfl rfl 123 f0 _ 3 64 Tryd.underlying46 hf hf0 hf1 hf2 rfl (by decide) (.slice ao' m c') (m) (flvs (gE es k own)) hown (some ⟨wr.heap.size, 0, none⟩) 1 1 [.string nm, .slice ad n c4, .slice al LN cl] rfl hsrc (fun h => by cases h) (by simp [Value.oneCell']) HAB.out.1 HAB.out.2 rfl rfl ?_))
        intro ao3 c3 w3 hown2 hgr hblk
        have CG := Chg.grown hgr (S := (Value.slice ao' m c').ownBlock.toList) (fun x hx => .inl (by simp [hx]))
        have HC3 : Hid (Chg [] w5 w3) := Lib.hid ((HC.out.trans CA (by simp)).trans CG (fun y hy => .inr (HW.out y (by simpa using hy))))
        have HSZ := Lib.hid HC.out.size
        have HW3 : Hid (∀ b, (Value.slice ao3 (m + 1) c3).ownBlock = some b → w5.heap.size ≤ b) := Lib.hid (fun b hb => by
          rcases hblk with h | h <;> rw [h] at hb
          · exact HW.out b hb
          · rw [← Option.some.inj hb]
            exact Nat.le_trans HSZ.out (Nat.le_succ _))
        have HO3 : Hid (w3.ownsRow 0 123 3 (.slice ao3 (m + 1) c3) (m + 1) (flvs (gE es k own ++ [own]))) := Lib.hid (by
          rw [HG0.out, flvs_append]
          exact hown2)
        clear hown2 hgr hblk hown hsrc CG CA HAB HSZ
        have hb1 := (HC3.out.block b (lt_of_block HB5.out) (by simp)).trans HB5.out
        have hf9 : w3.frozen? ⟨b, 0, none⟩ = false := by simp [World.frozen?, hb1]
        have hb0' := HB.out w3 HC3.out
        have HFIN : Hid (RefIs (w3.setCell ⟨b, 0, none⟩ (.slice ao3 (m + 1) c3)) b (insF (Fdel R nm) (nm, d)) (putT T2 (.slice ao3 (m + 1) c3) own)) := Lib.hid (ref_put HFT.out HSZ5.out HB5.out HE5.out HNEW.out HC3.out HO3.out (by rw [List.length_append, ← HM.out]; rfl) (gE_all_n HALL.out HBB.out))
        have HCF : Hid (Chg [b] w (w3.setCell ⟨b, 0, none⟩ (.slice ao3 (m + 1) c3))) := Lib.hid ((HC5.out.trans HC3.out (by simp)).trans (Chg.setCell (S := [b]) w3 ⟨b, 0, none⟩ (.slice ao3 (m + 1) c3) (.inl (by simp))) (fun x hx => .inl hx))
        have HTT : Hid (∀ k ∈ putT T2 (.slice ao3 (m + 1) c3) own, k ∈ T ∨ w.heap.size ≤ k) := Lib.hid (fun k hk => by
          rcases putT_mem.1 hk with hk | hk | hk
          · exact HBT.out k (.inl hk)
          · exact .inr (Nat.le_trans HC5.out.size (HW3.out k hk))
          · exact HBT.out k (.inr hk))
        clear hb1 hf hf0 hf1 hf2 hb0 z0 z1 z2
        go_wp2_with fail
        go_ret
        exact ⟨rfl, _, HFIN.out, HCF.out, HTT.out⟩
theorem ref_add (b : Nat) (R : Files) (nm : ByteArray) (d : List UInt8) (ao : Option Addr) (c : Nat) (T : List Nat) (w : World) (H : RefIs w b R T) (hs : Src w ao (bvs d)) (hlc : d.length ≤ c) (hc0 : ao = none → c = 0) (hd4 : d.length ≤ 4096) (hl : R.length ≤ 999) (hb : ∀ a, ao = some a → a.block ≠ b) :
    Calls Tryd.prog 32 #[.pointer (some ⟨b, 0, none⟩), .string nm, .slice ao d.length c] w fun e w' => e = .returned (.int .i64 0) ∧ RefTo w b (insF (Fdel R nm) (nm, d)) T w' := ref_addN b R nm d ao c T w H hs hlc hc0 hd4 hl (fun _ => hb)
end Go.Proofs.YtfdhpjflkimihaaDoor
