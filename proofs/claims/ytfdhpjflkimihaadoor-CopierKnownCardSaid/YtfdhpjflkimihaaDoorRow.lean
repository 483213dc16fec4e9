/- General lemmas, of no program: a whole array stored into a block that is there. No conditions beyond those that each statement types. -/
import Derived.Test.YtfdhpjflkimihaaDoorAgg
namespace Go.Proofs.YtfdhpjflkimihaaDoor
open Go.RowKit

theorem Chg.setRow {S : List Nat} (w : World) (g : Nat) (cs : Array Value) (h : g ∈ S ∨ w.heap.size ≤ g) : Chg S w (w.setRow g cs) :=
  ⟨rfl, rfl, rfl, by simp, fun k hk hn => setRow_other w g k cs (fun e => by subst e; rcases h with h | h; exact hn h; omega)⟩

theorem run_storeAt_row {P : Program} (w : World) (g : Nat) (t ty : TypeId) (old cells : Array Value) (hg : w.heap[g]? = some (.cells old t (0, 0))) (hi : (P.info? ty).map (·.size) = some cells.size)
    (ho : old.size = cells.size) (h1 : cells.all (·.oneCell') = true) : (Instr.storeAt ty (.pointer (some ⟨g, 0, none⟩)) (.agg cells)).run P w = .ok () (w.setRow g cells) := by
  simp only [Instr.storeAt, Instr.sureAddr, Sem.run_bind, Sem.run_pure, Result.andThen]
  exact run_storeVar_row w g t ty old cells hg hi ho h1
end Go.Proofs.YtfdhpjflkimihaaDoor
