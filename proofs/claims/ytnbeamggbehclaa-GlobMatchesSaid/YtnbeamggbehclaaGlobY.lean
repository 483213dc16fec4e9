/- The reference's Parse, walked. No conditions beyond those that each statement types. -/
import Derived.Test.YtnbeamggbehclaaGlobRb
namespace Go.Proofs.Ytnbeamggbehclaa
open Go.RowKit

/-- Elements, each with where its ranges lie. -/
abbrev REl := El × (Option Addr × Nat × Nat)
def REl.cells (p : REl) : Array Value := elC p.1 p.2.1 p.2.2.1 p.2.2.2
def esV (es : List REl) : List Value := es.flatMap fun p => (REl.cells p).toList
theorem esV_append (a b : List REl) : esV (a ++ b) = esV a ++ esV b := by simp [esV]
theorem esV_length (l : List REl) : (esV l).length = l.length * 4 := by
  induction l with
  | nil => rfl
  | cons p l ih =>
    show ((REl.cells p).toList ++ esV l).length = _
    rw [List.length_append, ih, List.length_cons]
    show 4 + _ = _
    omega
theorem esV_one (l : List REl) : ∀ u ∈ esV l, u.oneCell' = true := by
  intro u hu
  obtain ⟨p, _, h⟩ := List.mem_flatMap.1 hu
  simp [REl.cells, elC] at h
  rcases h with rfl | rfl | rfl | rfl <;> rfl
structure ElsAt (lo : Nat) (w : World) (a : Option Addr) (n c : Nat) (es : List REl) : Prop where
  len : es.length = n
  own : w.ownsRow 0 53 4 (.slice a n c) n (esV es)
  new : ∀ k, (Value.slice a n c).ownBlock = some k → lo ≤ k
  rg : ∀ p ∈ es, RgAt lo w p.2.1 p.2.2.1 p.2.2.2 p.1.rs
theorem ElsAt.none (lo : Nat) (w : World) : ElsAt lo w .none 0 0 [] := ⟨rfl, World.ownsRow_nil _ _ _ _, fun q hq => (by cases hq), fun _ h => (by cases h)⟩
theorem ElsAt.chg {lo : Nat} {w w' : World} {a : Option Addr} {n c : Nat} {es : List REl} {S : List Nat} (H : ElsAt lo w a n c es) (C : Chg S w w') (hS : ∀ k ∈ S, k < lo) : ElsAt lo w' a n c es :=
  ⟨H.len, ownsRow_chg H.own C (fun k hk hm => by have := H.new k hk; have := hS k hm; omega), H.new, fun p hp => (H.rg p hp).chg C hS⟩
theorem ElsAt.low {lo lo' : Nat} {w : World} {a : Option Addr} {n c : Nat} {es : List REl} (H : ElsAt lo w a n c es) (h : lo' ≤ lo) : ElsAt lo' w a n c es :=
  ⟨H.len, H.own, fun k hk => Nat.le_trans h (H.new k hk), fun p hp => (H.rg p hp).low h⟩
theorem RgAt.own1 {lo : Nat} {w : World} {a : Option Addr} {n c : Nat} {rs : List (UInt8 × UInt8)} (H : RgAt lo w a n c rs) {w' : World} {b : Nat} {cs : Array Value} {fr : Nat × Nat} (hb : w.heap[b]? = some (.cells cs 53 fr)) (C : Chg [b] w w') : RgAt lo w' a n c rs :=
  ⟨H.len, ownsRow_chg H.own C (fun k hk hm => ownsRow_ne H.own hb (by decide) (by simp at hm; rw [hk, hm])), H.new⟩

theorem Try.infoPat : (Try.prog.info? 29).map (·.size) = some 5 := by kernel_rfl
theorem Try.infoElRU : (Try.prog.info? 53).map (fun i => (i.zero, i.size, i.bytes)) = some (some (.agg #[.int .i64 0, .int .u8 0, .bool false, .slice none 0 0]), 4, 40) := by kernel_rfl
theorem store_pat (w : World) (g : Nat) (old : Array Value) (m : Mk) (root : Bool) (a : Option Addr) (n c : Nat) (h : w.heap[g]? = some (.cells old 29 (0, 0))) (ho : old.size = 5) :
    (Instr.storeAt 29 (.pointer (some ⟨g, 0, none⟩)) (.agg (patC m root a n c))).run Try.prog w = .ok () (w.setRow g (patC m root a n c)) :=
  run_storeAt_row w g _ _ old (patC m root a n c) h Try.infoPat ho (patC_one ..)
theorem load_pat (w : World) (g : Nat) (m : Mk) (root : Bool) (a : Option Addr) (n c : Nat) (h : w.heap[g]? = some (.cells (patC m root a n c) 29 (0, 0))) :
    (Instr.loadAt 29 (.pointer (some ⟨g, 0, none⟩))).run Try.prog w = .ok (.agg (patC m root a n c)) w := by
  simp only [Instr.loadAt, Instr.sureAddr, Sem.run_bind, Sem.run_pure, Result.andThen]
  exact run_loadVar_row w g _ _ (patC m root a n c) (0, 0) _ h Try.underlying29 rfl Try.infoPat
theorem results_pat {fn : Func} {p u : Tmp} (h : fn.results = #[.cell p 29, .tmp u]) (tmps : Array Value) (w : World) (g : Nat) (t : TypeId) (fr : Nat × Nat) (m : Mk) (root : Bool) (a : Option Addr) (n c : Nat) (y : Value)
    (hp : tmps.getD p undef = .pointer (some ⟨g, 0, none⟩)) (hy : tmps.getD u undef = y) (hg : w.heap[g]? = some (.cells (patC m root a n c) t fr)) :
    (results fn tmps).run Try.prog w = .ok (.tuple #[.agg (patC m root a n c), y]) w := by
  have h1 := run_loadVar_row (P := Try.prog) w g t 29 (patC m root a n c) fr _ hg Try.underlying29 rfl Try.infoPat
  rw [results_cell_tmp h, hp, hy]
  have h2 : (asAddr (.pointer (some ⟨g, 0, none⟩))).run Try.prog w = .ok ⟨g, 0, none⟩ w := rfl
  rw [h2]
  simp only [Result.andThen, h1]

def mk0 : Mk := ⟨false, false, false⟩
/-- What the reference's Parse hands back. -/
def RParsed (w : World) (res : Said) (e : Ending) (w' : World) : Prop :=
  Chg [] w w' ∧ match res with
    | .long => e = .returned (.tuple #[.agg (patC mk0 false none 0 0), .int .i64 3])
    | .form => e = .returned (.tuple #[.agg (patC mk0 false none 0 0), .int .i64 4])
    | .pat m root els => ∃ a n c es, e = .returned (.tuple #[.agg (patC m root a n c), .int .i64 0]) ∧ ElsAt w.heap.size w' a n c es ∧ es.map (·.1) = els

/-- What stands in memory while a text is read. -/
structure RP (w wr : World) (g : Nat) (m : Mk) (root : Bool) (a : Option Addr) (n c : Nat) (es : List REl) : Prop where
  res : wr.heap[g]? = some (.cells (patC mk0 false none 0 0) 29 (0, 0))
  pat : wr.heap[g + 1]? = some (.cells (patC m root a n c) 29 (0, 0))
  els : ElsAt (g + 2) wr a n c es
  chg : Chg [] w wr
  size : w.heap.size = g
theorem RP.next {w wr w2 : World} {g n c : Nat} {m : Mk} {root : Bool} {a : Option Addr} {es : List REl} (H : RP w wr g m root a n c es) (C : Chg [] wr w2) : RP w w2 g m root a n c es :=
  ⟨(C.block _ (lt_of_block H.res) (by simp)).trans H.res, (C.block _ (lt_of_block H.pat) (by simp)).trans H.pat, H.els.chg C (by simp), H.chg.trans C (by simp), H.size⟩
theorem RP.set {w wr : World} {g n c : Nat} {m : Mk} {root : Bool} {a : Option Addr} {es : List REl} (H : RP w wr g m root a n c es) (i : Nat) (b : Bool) (m' : Mk) (root' : Bool)
    (h : (patC m root a n c).setIfInBounds i (.bool b) = patC m' root' a n c) : RP w (wr.setCell ⟨g + 1, i, none⟩ (.bool b)) g m' root' a n c es := by
  have CS : Chg [g + 1] wr (wr.setCell ⟨g + 1, i, none⟩ (.bool b)) := Chg.setCell _ _ _ (.inl (by simp))
  have hs := H.size
  exact ⟨(heap_setCell_other _ _ _ _ (by simp)).trans H.res, by rw [← h]; exact heap_setCell_same _ _ _ _ _ _ H.pat, H.els.chg CS (by simp), H.chg.trans CS (fun k hk => .inr (by simp at hk; omega)), hs⟩
theorem RP.bad {w wr : World} {g n c : Nat} {m : Mk} {root : Bool} {a : Option Addr} {es : List REl} (H : RP w wr g m root a n c es) :
    RParsed w .form (.returned (.tuple #[.agg (patC mk0 false none 0 0), .int .i64 4])) (wr.setRow g (patC mk0 false none 0 0)) :=
  ⟨H.chg.trans (Chg.setRow (S := [g]) _ _ _ (.inl (by simp))) (fun k hk => by simp at hk; right; have := H.size; omega), rfl⟩
theorem RP.good {w wr : World} {g n c : Nat} {m : Mk} {root : Bool} {a : Option Addr} {es : List REl} (H : RP w wr g m root a n c es) :
    RParsed w (.pat m root (es.map (·.1))) (.returned (.tuple #[.agg (patC m root a n c), .int .i64 0])) (wr.setRow g (patC m root a n c)) := by
  have CS := Chg.setRow (S := [g]) wr g (patC m root a n c) (.inl (by simp))
  exact ⟨H.chg.trans CS (fun k hk => by simp at hk; right; have := H.size; omega), _, _, _, es, rfl, (H.els.chg CS (fun k hk => by simp at hk; omega)).low (by have := H.size; omega), rfl⟩
theorem RP.flag {w wr : World} {g n c : Nat} {m : Mk} {root : Bool} {a : Option Addr} {es : List REl} (H : RP w wr g m root a n c es) :
    wr.cell? ⟨g + 1, 0, none⟩ = some (.bool m.neg) ∧ wr.cell? ⟨g + 1, 1, none⟩ = some (.bool m.fold) ∧ wr.cell? ⟨g + 1, 2, none⟩ = some (.bool m.del) ∧ wr.cell? ⟨g + 1, 3, none⟩ = some (.bool root) ∧ wr.cell? ⟨g + 1, 4, none⟩ = some (.slice a n c) := by
  refine ⟨?_, ?_, ?_, ?_, ?_⟩ <;> (rw [cell_of_row _ _ _ _ _ _ H.pat]; rfl)
end Go.Proofs.Ytnbeamggbehclaa
