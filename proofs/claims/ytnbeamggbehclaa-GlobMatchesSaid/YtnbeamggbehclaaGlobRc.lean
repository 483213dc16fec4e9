/- The table of the reference's whole: what it says, and how it lies in memory. No conditions beyond those that each statement types. -/
import Derived.Test.YtnbeamggbehclaaGlobYa
import Derived.Test.YtnbeamggbehclaaGlobL
namespace Go.Proofs.Ytnbeamggbehclaa
open Go.RowKit

/-- Do the elements from i on match what stands from k on? -/
def tabF (fold : Bool) (els : List El) (l : List UInt8) (i k : Nat) : Bool := mat fold (els.drop i) (l.drop k)
/-- Does an element hold of the byte at a place, if one stands there? -/
def isAt (fold : Bool) (x : El) (l : List UInt8) (k : Nat) : Bool := decide (k < l.length) && x.holds' fold (l.getD k 0)
theorem tabF_end (fold : Bool) (els : List El) (l : List UInt8) (k : Nat) (hk : k ≤ l.length) : tabF fold els l els.length k = (k == l.length) := by
  unfold tabF
  rw [List.drop_length]
  show (l.drop k).isEmpty = _
  rw [Bool.eq_iff_iff, List.isEmpty_iff, beq_iff_eq]
  constructor
  · intro h
    have := congrArg List.length h
    simp at this
    omega
  · intro h
    rw [h, List.drop_length]
theorem drop_get {α : Type} [Inhabited α] (l : List α) (k : Nat) (d : α) (hk : k < l.length) : l.drop k = l.getD k d :: l.drop (k + 1) := by
  rw [List.drop_eq_getElem_cons hk]
  simp [List.getD, hk]
theorem tabF_many (fold : Bool) (els : List El) (l : List UInt8) (i k : Nat) (x : El) (hx : els[i]? = some x) (hm : x.many = true) (hk : k ≤ l.length) :
    tabF fold els l i k = (tabF fold els l (i + 1) k || (isAt fold x l k && tabF fold els l i (k + 1))) := by
  obtain ⟨hi, he⟩ := List.getElem?_eq_some_iff.1 hx
  have hd : els.drop i = x :: els.drop (i + 1) := by rw [List.drop_eq_getElem_cons hi, he]
  unfold tabF isAt
  rw [hd]
  rcases Nat.lt_or_ge k l.length with h | h
  · rw [decide_eq_true h, Bool.true_and, drop_get l k 0 h, mat, mat, if_pos hm, if_pos hm, star, ← El.holds_same]
  · have e1 : l.drop k = [] := List.drop_eq_nil_of_le h
    have e2 : l.drop (k + 1) = [] := List.drop_eq_nil_of_le (by omega)
    rw [decide_eq_false (by omega), e1, mat, if_pos hm, star]
    simp
theorem tabF_one (fold : Bool) (els : List El) (l : List UInt8) (i k : Nat) (x : El) (hx : els[i]? = some x) (hm : x.many = false) (_ : k ≤ l.length) :
    tabF fold els l i k = (isAt fold x l k && tabF fold els l (i + 1) (k + 1)) := by
  obtain ⟨hi, he⟩ := List.getElem?_eq_some_iff.1 hx
  have hd : els.drop i = x :: els.drop (i + 1) := by rw [List.drop_eq_getElem_cons hi, he]
  unfold tabF isAt
  rw [hd]
  rcases Nat.lt_or_ge k l.length with h | h
  · rw [decide_eq_true h, Bool.true_and, drop_get l k 0 h, mat, if_neg (by simp [hm]), once, ← El.holds_same]
  · rw [decide_eq_false (by omega), List.drop_eq_nil_of_le h, mat, if_neg (by simp [hm]), once]
    rfl

def sl (b n : Nat) : Value := .slice (some ⟨b, 0, none⟩) n n
/-- The table, its rows from k on being done. -/
def TbAt (W wr : World) (PC : Array Value) (g0 G n M : Nat) (F : Nat → Nat → Bool) (k : Nat) : Prop :=
  wr.heap[g0]? = some (.cells PC 29 (0, 0)) ∧ Chg [] W wr ∧ ∃ V, wr.rowIs G 56 (n + 1) V ∧ W.heap.size ≤ G ∧ g0 < G ∧
    (k ≤ n → ∃ B, G < B ∧ V k = sl B (M + 1) ∧ wr.rowIs B 4 (M + 1) (fun j => .bool (F k j)))
/-- The table while row i is made, its cells from q on being done. -/
def TbIn (W wr : World) (PC : Array Value) (g0 G R n M : Nat) (F : Nat → Nat → Bool) (i q : Nat) : Prop :=
  wr.heap[g0]? = some (.cells PC 29 (0, 0)) ∧ Chg [] W wr ∧ W.heap.size ≤ G ∧ g0 < G ∧ G < R ∧ ∃ V, wr.rowIs G 56 (n + 1) V ∧ V i = sl R (M + 1) ∧
    (i < n → ∃ B, G < B ∧ B < R ∧ V (i + 1) = sl B (M + 1) ∧ wr.rowIs B 4 (M + 1) (fun j => .bool (F (i + 1) j))) ∧
    ∃ f, wr.rowIs R 4 (M + 1) f ∧ ∀ k, q ≤ k → k ≤ M → f k = .bool (F i k)
theorem TbIn.chg {W wr w2 : World} {PC : Array Value} {g0 G R n M i q : Nat} {F : Nat → Nat → Bool} (H : TbIn W wr PC g0 G R n M F i q) (C : Chg [] wr w2) : TbIn W w2 PC g0 G R n M F i q := by
  obtain ⟨h0, h1, h2, h3, h4, V, h5, h6, h7, f, h8, h9⟩ := H
  refine ⟨(C.block _ (lt_of_block h0) (by simp)).trans h0, h1.trans C (by simp), h2, h3, h4, V, rowIs_chg h5 C (by simp), h6, fun hi => ?_, f, rowIs_chg h8 C (by simp), h9⟩
  obtain ⟨B, b1, b2, b3, b4⟩ := h7 hi
  exact ⟨B, b1, b2, b3, rowIs_chg b4 C (by simp)⟩
theorem TbIn.put {W wr : World} {PC : Array Value} {g0 G R n M i k : Nat} {F : Nat → Nat → Bool} (H : TbIn W wr PC g0 G R n M F i (k + 1)) (v : Bool) (hv : F i k = v) : TbIn W (wr.setCell ⟨R, k, none⟩ (.bool v)) PC g0 G R n M F i k := by
  obtain ⟨h0, h1, h2, h3, h4, V, h5, h6, h7, f, h8, h9⟩ := H
  have C : Chg [R] wr (wr.setCell ⟨R, k, none⟩ (.bool v)) := Chg.setCell _ _ _ (.inl (by simp))
  refine ⟨(C.block _ (lt_of_block h0) (by simp; omega)).trans h0, h1.trans C (fun x hx => by simp at hx; right; omega), h2, h3, h4, V, rowIs_chg h5 C (by simp; omega), h6, fun hi => ?_, _, h8.set k _, fun j hj hjM => ?_⟩
  · obtain ⟨B, b1, b2, b3, b4⟩ := h7 hi
    exact ⟨B, b1, b2, b3, rowIs_chg b4 C (by simp; omega)⟩
  · show (if j = k then _ else f j) = _
    by_cases h : j = k
    · rw [if_pos h, h, hv]
    · rw [if_neg h, h9 j (by omega) hjM]
theorem TbIn.done {W wr : World} {PC : Array Value} {g0 G R n M i : Nat} {F : Nat → Nat → Bool} (H : TbIn W wr PC g0 G R n M F i 0) : TbAt W wr PC g0 G n M F i := by
  obtain ⟨h0, h1, h2, h3, h4, V, h5, h6, h7, f, h8, h9⟩ := H
  exact ⟨h0, h1, V, h5, h2, h3, fun _ => ⟨R, h4, h6, h8.congr (fun j hj => h9 j (by omega) (by omega))⟩⟩
/-- A new row. -/
theorem TbAt.row {W wr : World} {PC : Array Value} {g0 G n M i : Nat} {F : Nat → Nat → Bool} (H : TbAt W wr PC g0 G n M F (i + 1)) (_ : i ≤ n) :
    TbIn W ((wr.alloc (.cells (madeCells #[.bool false] (M + 1)) 4)).setCell ⟨G, i, none⟩ (sl wr.heap.size (M + 1))) PC g0 G wr.heap.size n M F i (M + 1) := by
  obtain ⟨h0, h1, V, h5, h2, h3, h6⟩ := H
  have CA := Chg.alloc [] wr (.cells (madeCells #[.bool false] (M + 1)) 4)
  have hG := h5.lt
  have CS : Chg [G] (wr.alloc (.cells (madeCells #[.bool false] (M + 1)) 4)) ((wr.alloc (.cells (madeCells #[.bool false] (M + 1)) 4)).setCell ⟨G, i, none⟩ (sl wr.heap.size (M + 1))) := Chg.setCell _ _ _ (.inl (by simp))
  refine ⟨(CS.block _ (by simp; omega) (by simp; omega)).trans ((CA.block _ (lt_of_block h0) (by simp)).trans h0), (h1.trans CA (by simp)).trans CS (fun x hx => by simp at hx; right; omega), h2, h3, hG, _, (rowIs_chg h5 CA (by simp)).set i _, by simp, fun hin => ?_, _, rowIs_chg (World.rowIs_made wr (.bool false) (M + 1) 4) CS (by simp; omega), fun k h1 h2 => by omega⟩
  obtain ⟨B, b1, b2, b3⟩ := h6 (by omega)
  refine ⟨B, b1, b3.lt, ?_, rowIs_chg (rowIs_chg b3 CA (by simp)) CS (by simp; omega)⟩
  show (if i + 1 = i then _ else V (i + 1)) = _
  rw [if_neg (by omega), b2]

theorem Try.infoSlB : (Try.prog.info? 56).map (fun i => (i.zero, i.size, i.bytes)) = some (some (.slice none 0 0), 1, 24) := by kernel_rfl

theorem esV_at : ∀ {es : List REl} {i : Nat} {p : REl}, es[i]? = some p → ∀ j, j < 4 → (esV es)[i * 4 + j]? = (REl.cells p)[j]?
  | [], i, p, h, _, _ => by simp at h
  | q :: es, 0, p, h, j, hj => by
    simp at h
    subst h
    show ((REl.cells q).toList ++ esV es)[0 * 4 + j]? = _
    rw [List.getElem?_append_left (by show 0 * 4 + j < 4; omega)]
    simp
  | q :: es, i + 1, p, h, j, hj => by
    show ((REl.cells q).toList ++ esV es)[(i + 1) * 4 + j]? = _
    have h4 : (REl.cells q).toList.length = 4 := rfl
    rw [List.getElem?_append_right (by rw [h4]; omega), h4, show (i + 1) * 4 + j - 4 = i * 4 + j by omega]
    exact esV_at (by simpa using h) j hj

theorem load_elr_at (w : World) (b o : Nat) (x : El) (a : Option Addr) (n c : Nat) (h : ∀ j, j < 4 → w.cell? ⟨b, o + j, none⟩ = (elC x a n c)[j]?) :
    (Instr.loadAt 53 (.pointer (some ⟨b, o, none⟩))).run Try.prog w = .ok (.agg (elC x a n c)) w := by
  have := run_loadAt_cut (P := Try.prog) w 53 b o 4 (fun j => (elC x a n c).getD (j - o) undef) _ Try.underlying53 rfl Try.infoElR (fun j hj => by
    rw [h j hj, show o + j - o = j by omega]
    match j, hj with
    | 0, _ => rfl
    | 1, _ => rfl
    | 2, _ => rfl
    | 3, _ => rfl)
  rw [this]
  congr 2
  apply Array.ext_getElem?
  intro j
  rcases Nat.lt_or_ge j 4 with hj | hj
  · rw [cut_get _ _ _ _ hj, show o + j - o = j by omega]
    match j, hj with
    | 0, _ => rfl
    | 1, _ => rfl
    | 2, _ => rfl
    | 3, _ => rfl
  · rw [Array.getElem?_eq_none (by rw [cut_size]; exact hj), Array.getElem?_eq_none (by exact hj)]
theorem elsAt_get {lo : Nat} {w : World} {a : Option Addr} {n c : Nat} {es : List REl} (H : ElsAt lo w a n c es) {i : Nat} {p : REl} (hp : es[i]? = some p) : ∃ g, a = some ⟨g, 0, none⟩ ∧ ∀ j, j < 4 → w.cell? ⟨g, i * 4 + j, none⟩ = (REl.cells p)[j]? := by
  have hlt : i < es.length := (List.getElem?_eq_some_iff.1 hp).1
  obtain ⟨g, rfl⟩ := ownsRow_head H.own (by have := H.len; omega)
  refine ⟨g, rfl, fun j hj => ?_⟩
  have h1 := esV_at hp j hj
  obtain ⟨u, hu⟩ : ∃ u, (REl.cells p)[j]? = some u := ⟨_, Array.getElem?_eq_getElem (by exact hj)⟩
  rw [hu] at h1 ⊢
  have := H.own.cells (g := g) rfl _ _ h1
  rwa [addr_add0] at this
end Go.Proofs.Ytnbeamggbehclaa
