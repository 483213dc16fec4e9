/- What the small functions of the package fetch do to memory. No conditions beyond those that each statement types. -/
import Derived.Test.YtcapbfhiiiggdaaRows
import Derived.Test.YtcapbfhiiiggdaaBase
import Derived.Deep.WholeRow
namespace Go.Proofs.Ytcapbfhiiiggdaa
open Go.RowKit

/-- A fetch: of each block what becomes of it, of whom it is asked, whom it was tried with; the peers. -/
structure FS where
  is : Nat → Int
  of : Nat → Int
  tr : Nat → Nat → Bool
  pe : Nat → Bool

def FS.cell (s : FS) (i : Nat) : Value :=
  if i < 608 then (if i % 19 = 0 then .int .i64 (s.is (i / 19)) else if i % 19 = 1 then .int .i64 (s.of (i / 19)) else .bool (s.tr (i / 19) (i % 19 - 2)))
  else if i < 625 then .bool (s.pe (i - 608)) else .bool true

def FS.cells (s : FS) : Array Value := ((List.range 626).map s.cell).toArray

theorem FS.cells_size (s : FS) : s.cells.size = 626 := by simp [FS.cells]
theorem FS.cells_get (s : FS) (i : Nat) (h : i < 626) : s.cells[i]? = some (s.cell i) := by simp [FS.cells, h]

theorem FS.cell_is (s : FS) (n : Nat) (h : n < 32) : s.cell (n * 19) = .int .i64 (s.is n) := by
  have h1 : n * 19 < 608 := by omega
  have h2 : n * 19 % 19 = 0 := by omega
  have h3 : n * 19 / 19 = n := by omega
  simp [FS.cell, h1, h2, h3]
theorem FS.cell_of (s : FS) (n : Nat) (h : n < 32) : s.cell (n * 19 + 1) = .int .i64 (s.of n) := by
  have h1 : n * 19 + 1 < 608 := by omega
  have h2 : (n * 19 + 1) % 19 = 1 := by omega
  have h3 : (n * 19 + 1) / 19 = n := by omega
  simp [FS.cell, h1, h2, h3]
theorem FS.cell_tr (s : FS) (n d : Nat) (h : n < 32) (hd : d < 17) : s.cell (n * 19 + 2 + d) = .bool (s.tr n d) := by
  have h1 : n * 19 + 2 + d < 608 := by omega
  have h2 : (n * 19 + 2 + d) % 19 = 2 + d := by omega
  have h3 : (n * 19 + 2 + d) / 19 = n := by omega
  have h4 : ¬ 2 + d = 0 := by omega
  have h5 : ¬ 2 + d = 1 := by omega
  simp [FS.cell, h1, h2, h3, h5]
theorem FS.cell_pe (s : FS) (d : Nat) (hd : d < 17) : s.cell (608 + d) = .bool (s.pe d) := by
  have h1 : ¬ 608 + d < 608 := by omega
  have h2 : 608 + d < 625 := by omega
  rw [FS.cell, if_neg h1, if_pos h2, Nat.add_sub_cancel_left]
theorem FS.cell_made (s : FS) : s.cell 625 = .bool true := by simp [FS.cell]

theorem FS.cells_one (s : FS) : s.cells.all (·.oneCell') = true := by
  simp only [FS.cells, List.all_toArray, List.all_map, List.all_eq_true]
  intro i _
  simp only [Function.comp, FS.cell]
  split
  · split
    · rfl
    · split <;> rfl
  · split <;> rfl

/-- A fetch in memory. -/
def FetchAt (w : World) (b : Nat) (s : FS) : Prop := w.heap[b]? = some (.cells s.cells 63 (0, 0))

theorem FetchAt.lt {w : World} {b : Nat} {s : FS} (h : FetchAt w b s) : b < w.heap.size := lt_of_block h
theorem FetchAt.chg {w w' : World} {b : Nat} {s : FS} {S : List Nat} (h : FetchAt w b s) (hc : Chg S w w') (hn : b ∉ S) : FetchAt w' b s :=
  (hc.block b h.lt hn).trans h
theorem FetchAt.at {w : World} {b : Nat} {s : FS} (h : FetchAt w b s) (i : Nat) (hi : i < 626) : w.cell? ⟨b, i, none⟩ = some (s.cell i) := by
  rw [cell_of_row w b i _ _ _ h, s.cells_get i hi]
theorem FetchAt.isAt {w : World} {b : Nat} {s : FS} (h : FetchAt w b s) (n : Nat) (hn : n < 32) : w.cell? ⟨b, n * 19, none⟩ = some (.int .i64 (s.is n)) := by
  rw [h.at _ (by omega), s.cell_is n hn]
theorem FetchAt.ofAt {w : World} {b : Nat} {s : FS} (h : FetchAt w b s) (n : Nat) (hn : n < 32) : w.cell? ⟨b, n * 19 + 1, none⟩ = some (.int .i64 (s.of n)) := by
  rw [h.at _ (by omega), s.cell_of n hn]
theorem FetchAt.trAt {w : World} {b : Nat} {s : FS} (h : FetchAt w b s) (n d : Nat) (hn : n < 32) (hd : d < 17) : w.cell? ⟨b, n * 19 + 2 + d, none⟩ = some (.bool (s.tr n d)) := by
  rw [h.at _ (by omega), s.cell_tr n d hn hd]
theorem FetchAt.peAt {w : World} {b : Nat} {s : FS} (h : FetchAt w b s) (d : Nat) (hd : d < 17) : w.cell? ⟨b, 608 + d, none⟩ = some (.bool (s.pe d)) := by
  rw [h.at _ (by omega), s.cell_pe d hd]
theorem FetchAt.madeAt {w : World} {b : Nat} {s : FS} (h : FetchAt w b s) : w.cell? ⟨b, 625, none⟩ = some (.bool true) := by
  rw [h.at _ (by omega), s.cell_made]
theorem FetchAt.frozen {w : World} {b : Nat} {s : FS} (h : FetchAt w b s) (i : Nat) : w.frozen? ⟨b, i, none⟩ = false := frozen_of_row w b i _ _ h

/-- One cell written. -/
theorem FetchAt.set {w : World} {b : Nat} {s s' : FS} (h : FetchAt w b s) (i : Nat) (v : Value) (hs : ∀ j, j < 626 → s'.cell j = if j = i then v else s.cell j) : FetchAt (w.setCell ⟨b, i, none⟩ v) b s' := by
  have h1 := heap_setCell_same w b i _ _ v h
  refine h1.trans (congrArg (fun c => some (Obj.cells c 63 (0, 0))) ?_)
  apply Array.ext_getElem?
  intro j
  by_cases hj : j < 626
  · rw [s'.cells_get j hj, hs j hj]
    by_cases hij : j = i
    · subst hij
      simp [s.cells_size, hj]
    · rw [if_neg hij, Array.getElem?_setIfInBounds_ne (fun e => hij e.symm), s.cells_get j hj]
  · have e1 : s'.cells[j]? = none := Array.getElem?_eq_none (by rw [s'.cells_size]; omega)
    have e2 : (s.cells.setIfInBounds i v)[j]? = none := Array.getElem?_eq_none (by rw [Array.size_setIfInBounds, s.cells_size]; omega)
    rw [e1, e2]

def FS.putIs (s : FS) (n : Nat) (v : Int) : FS := { s with is := fun k => if k = n then v else s.is k }
def FS.putOf (s : FS) (n : Nat) (v : Int) : FS := { s with of := fun k => if k = n then v else s.of k }
def FS.putTr (s : FS) (n d : Nat) (v : Bool) : FS := { s with tr := fun k e => if k = n ∧ e = d then v else s.tr k e }
def FS.putPe (s : FS) (d : Nat) (v : Bool) : FS := { s with pe := fun e => if e = d then v else s.pe e }

theorem FetchAt.putIs {w : World} {b : Nat} {s : FS} (h : FetchAt w b s) (n : Nat) (hn : n < 32) (v : Int) : FetchAt (w.setCell ⟨b, n * 19, none⟩ (.int .i64 v)) b (s.putIs n v) := by
  refine h.set _ _ fun j hj => ?_
  by_cases hij : j = n * 19
  · subst hij; rw [if_pos rfl, FS.cell_is _ n hn]; simp [FS.putIs]
  · rw [if_neg hij]
    simp only [FS.cell, FS.putIs]
    by_cases h1 : j < 608 <;> simp only [h1, if_true, if_false]
    by_cases h2 : j % 19 = 0 <;> simp only [h2, if_true, if_false]
    have : ¬ j / 19 = n := by omega
    simp [this]
theorem FetchAt.putOf {w : World} {b : Nat} {s : FS} (h : FetchAt w b s) (n : Nat) (hn : n < 32) (v : Int) : FetchAt (w.setCell ⟨b, n * 19 + 1, none⟩ (.int .i64 v)) b (s.putOf n v) := by
  refine h.set _ _ fun j hj => ?_
  by_cases hij : j = n * 19 + 1
  · subst hij; rw [if_pos rfl, FS.cell_of _ n hn]; simp [FS.putOf]
  · rw [if_neg hij]
    simp only [FS.cell, FS.putOf]
    by_cases h1 : j < 608 <;> simp only [h1, if_true, if_false]
    by_cases h2 : j % 19 = 0 <;> simp only [h2, if_true, if_false]
    by_cases h3 : j % 19 = 1 <;> simp only [h3, if_true, if_false]
    have : ¬ j / 19 = n := by omega
    simp [this]
theorem FetchAt.putTr {w : World} {b : Nat} {s : FS} (h : FetchAt w b s) (n d : Nat) (hn : n < 32) (hd : d < 17) (v : Bool) : FetchAt (w.setCell ⟨b, n * 19 + 2 + d, none⟩ (.bool v)) b (s.putTr n d v) := by
  refine h.set _ _ fun j hj => ?_
  by_cases hij : j = n * 19 + 2 + d
  · subst hij; rw [if_pos rfl, FS.cell_tr _ n d hn hd]; simp [FS.putTr]
  · rw [if_neg hij]
    simp only [FS.cell, FS.putTr]
    by_cases h1 : j < 608 <;> simp only [h1, if_true, if_false]
    by_cases h2 : j % 19 = 0 <;> simp only [h2, if_true, if_false]
    by_cases h3 : j % 19 = 1 <;> simp only [h3, if_true, if_false]
    have : ¬ (j / 19 = n ∧ j % 19 - 2 = d) := by omega
    simp [this]
theorem FetchAt.putPe {w : World} {b : Nat} {s : FS} (h : FetchAt w b s) (d : Nat) (hd : d < 17) (v : Bool) : FetchAt (w.setCell ⟨b, 608 + d, none⟩ (.bool v)) b (s.putPe d v) := by
  refine h.set _ _ fun j hj => ?_
  by_cases hij : j = 608 + d
  · subst hij; rw [if_pos rfl, FS.cell_pe _ d hd]; simp [FS.putPe]
  · rw [if_neg hij]
    simp only [FS.cell, FS.putPe]
    by_cases h1 : j < 608 <;> simp only [h1, if_true, if_false]
    by_cases h2 : j < 625 <;> simp only [h2, if_true, if_false]
    have : ¬ (j - 608 = d) := by omega
    simp [this]

theorem fetch_is (b : Nat) (s : FS) (w : World) (h : FetchAt w b s) :
    Calls Try.prog 30 #[.pointer (some ⟨b, 0, none⟩)] w fun e w' => e = .returned (.bool true) ∧ w = w' := by
  have c := h.madeAt
  go_enter Try.func30, Try.ntmps30
  go_wp2
  go_ret
  exact ⟨rfl, rfl⟩

theorem fetch_is_nil (w : World) :
    Calls Try.prog 30 #[.pointer none] w fun e w' => e = .returned (.bool false) ∧ w = w' := by
  go_enter Try.func30, Try.ntmps30
  go_wp2
  go_ret
  exact ⟨rfl, rfl⟩

theorem fetch_is_empty (b : Nat) (w : World) (c : w.cell? ⟨b, 625, none⟩ = some (.bool false)) :
    Calls Try.prog 30 #[.pointer (some ⟨b, 0, none⟩)] w fun e w' => e = .returned (.bool false) ∧ w = w' := by
  go_enter Try.func30, Try.ntmps30
  go_wp2
  go_ret
  exact ⟨rfl, rfl⟩

def isDev (n : Int) : Bool := decide (1 ≤ n) && decide (n ≤ 16)

end Go.Proofs.Ytcapbfhiiiggdaa
