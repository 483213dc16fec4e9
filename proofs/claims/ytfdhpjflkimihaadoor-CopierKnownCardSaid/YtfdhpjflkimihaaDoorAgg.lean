/- General lemmas, of no program: values of many cells (arrays, structs) that are loaded, stored, indexed and made as a whole. No conditions. -/
import Derived.Test.YtfdhpjflkimihaaDoorBase
import Derived.Deep.WholeRow
namespace Go.Proofs.YtfdhpjflkimihaaDoor
open Go.RowKit

theorem addr_add0 (b j : Nat) : (⟨b, 0, none⟩ : Addr).add j = ⟨b, j, none⟩ := by unfold Addr.add; split <;> simp_all
theorem addr_add1 (b o j : Nat) : (⟨b, o, none⟩ : Addr).add j = ⟨b, o + j, none⟩ := by unfold Addr.add; split <;> simp_all

/-- A row of cells, by value. -/
def cut (f : Nat → Value) (i m : Nat) : Array Value := ((List.range m).map (fun j => f (i + j))).toArray
theorem cut_size (f : Nat → Value) (i m : Nat) : (cut f i m).size = m := by simp [cut]
theorem cut_get (f : Nat → Value) (i m j : Nat) (h : j < m) : (cut f i m)[j]? = some (f (i + j)) := by simp [cut, h]
theorem cut_one (f : Nat → Value) (i m : Nat) (h : ∀ j, j < m → (f (i + j)).oneCell' = true) : (cut f i m).all (·.oneCell') = true := by
  simp only [cut, List.all_toArray, List.all_map, List.all_eq_true]
  exact fun j hj => h j (List.mem_range.1 hj)
theorem cut_extract (f : Nat → Value) (i m j k : Nat) (h : j + k ≤ m) : (cut f i m).extract j (j + k) = cut f (i + j) k := by
  apply Array.ext_getElem?
  intro x
  rw [Array.getElem?_extract, cut_size]
  by_cases hx : x < k
  · rw [if_pos (by omega), cut_get _ _ _ _ (by omega), cut_get _ _ _ _ hx, Nat.add_assoc]
  · rw [if_neg (by omega), Array.getElem?_eq_none (by rw [cut_size]; omega)]
theorem load_cut {P : Program} (w : World) (b o m : Nat) (f : Nat → Value) (h : ∀ j, j < m → w.cell? ⟨b, o + j, none⟩ = some (f (o + j))) : (loadCellsFrom ⟨b, o, none⟩ 0 m #[]).run P w = .ok (cut f o m) w := by
  have := run_loadCellsFrom (P := P) w ⟨b, o, none⟩ (fun j => f (o + j)) m 0 #[] (fun j hj => by
    rw [addr_add1, Nat.zero_add]; exact h j hj)
  rw [this, cut]
  simp

theorem run_loadAt_cut {P : Program} (w : World) (t : TypeId) (b o m : Nat) (f : Nat → Value) (d : TypeDesc) (hu : P.underlying t = some d) (hd : (match d with | .struct _ | .array _ _ => true | _ => false) = true) (hi : (P.info? t).map (·.size) = some m)
    (h : ∀ j, j < m → w.cell? ⟨b, o + j, none⟩ = some (f (o + j))) : (Instr.loadAt t (.pointer (some ⟨b, o, none⟩))).run P w = .ok (.agg (cut f o m)) w := by
  obtain ⟨i, hi, hs⟩ := Option.map_eq_some_iff.1 hi
  have h1 := load_cut (P := P) w b o m f h
  cases d <;> simp at hd <;>
  simp [Instr.loadAt, Instr.sureAddr, loadVar, isAgg, run_underlying hu, loadCells, sizeOf, typeInfo, hi, hs, h1]

theorem run_index_cut {P : Program} (w : World) (t e : TypeId) (len m k o : Nat) (f : Nat → Value) (d : TypeDesc) (hu : P.underlying t = some (.array len e)) (hd : P.underlying e = some d) (ha : (match d with | .struct _ | .array _ _ => true | _ => false) = true)
    (hi : (P.info? e).map (·.size) = some k) (n : Nat) (hn : n < len) (hm : n * k + k ≤ m) :
    (Instr.index t (.agg (cut f o m)) (.int .i64 n)).run P w = .ok (.agg (cut f (o + n * k) k)) w := by
  obtain ⟨i, hi, hs⟩ := Option.map_eq_some_iff.1 hi
  rw [← cut_extract f o m (n * k) k hm]
  generalize cut f o m = V
  cases d <;> simp at ha <;>
  simp [Instr.index, asIntOf, part, isAgg, sizeOf, typeInfo, hi, hs, hn, run_underlying hu, run_underlying hd]

theorem run_index_cut1 {P : Program} (w : World) (t e : TypeId) (len m o : Nat) (f : Nat → Value) (d : TypeDesc) (hu : P.underlying t = some (.array len e)) (hd : P.underlying e = some d) (ha : (match d with | .struct _ | .array _ _ => true | _ => false) = false)
    (hi : (P.info? e).map (·.size) = some 1) (n : Nat) (hn : n < len) (hm : n < m) :
    (Instr.index t (.agg (cut f o m)) (.int .i64 n)).run P w = .ok (f (o + n)) w := by
  obtain ⟨i, hi, hs⟩ := Option.map_eq_some_iff.1 hi
  have hg := cut_get f o m n hm
  generalize cut f o m = V at hg ⊢
  cases d <;> simp at ha <;>
  simp [Instr.index, asIntOf, part, isAgg, sizeOf, typeInfo, hi, hs, hn, run_underlying hu, run_underlying hd, hg]

section
variable {P : Program} (w : World)

/-- One operation whose run is known. -/
theorem wpList_run_x {ops : Array Oper} {rest : List Oper} {o : Oper} {a : Act} {Q : Exit → Act → World → Prop} (hgd : Region.wanted o (yielded ops a.tmps) = true) (v : Value) (w' : World)
    (hr : (execOp a.eval o).run P w = .ok (.value v) w') (h : wpList P ops Q rest (a.put o.dst v) w') : wpList P ops Q (o :: rest) a w := by
  refine wpList_of hgd fun K hK => ?_
  unfold Oper.wp
  rw [hr, Oper.upon_value]
  exact hK _ _ h

theorem wpList_load_x {ops : Array Oper} {rest : List Oper} {o : Oper} {a : Act} {Q : Exit → Act → World → Prop} (hgd : Region.wanted o (yielded ops a.tmps) = true) (t : TypeId) (x : Operand) (ho : o.op = .load t x) (v : Value)
    (hr : (Instr.loadAt t (a.eval x)).run P w = .ok v w) (h : wpList P ops Q rest (a.put o.dst v) w) : wpList P ops Q (o :: rest) a w := by
  refine wpList_run_x w hgd v w ?_ h
  simp [execOp, ho, hr, Result.andThen]

theorem wpList_index_x {ops : Array Oper} {rest : List Oper} {o : Oper} {a : Act} {Q : Exit → Act → World → Prop} (hgd : Region.wanted o (yielded ops a.tmps) = true) (t : TypeId) (x i : Operand) (ho : o.op = .index t x i) (v : Value)
    (hr : (Instr.index t (a.eval x) (a.eval i)).run P w = .ok v w) (h : wpList P ops Q rest (a.put o.dst v) w) : wpList P ops Q (o :: rest) a w := by
  refine wpList_run_x w hgd v w ?_ h
  simp [execOp, ho, hr, Result.andThen]

theorem wpList_alloc_x {ops : Array Oper} {rest : List Oper} {o : Oper} {a : Act} {Q : Exit → Act → World → Prop} (hgd : Region.wanted o (yielded ops a.tmps) = true) (t : TypeId) (ho : o.op = .alloc t) (z : Value)
    (hz : (zeroValue t).run P w = .ok z w) (h : wpList P ops Q rest (a.put o.dst (.pointer (some ⟨w.heap.size, 0, none⟩))) (w.alloc (.cells z.cells t))) : wpList P ops Q (o :: rest) a w := by
  refine wpList_run_x w hgd _ _ ?_ h
  simp [execOp, ho, Instr.alloc, hz, Result.andThen, newVar, newRow]

theorem wpList_build_x {ops : Array Oper} {rest : List Oper} {o : Oper} {a : Act} {Q : Exit → Act → World → Prop} (hgd : Region.wanted o (yielded ops a.tmps) = true) (t : TypeId) (parts : Array (Nat × Operand)) (ho : o.op = .build t parts) (v : Value) (vs : Array (Nat × Value))
    (hv : (parts.map fun (i, x) => (i, a.eval x)) = vs) (hr : (Instr.build t vs).run P w = .ok v w) (h : wpList P ops Q rest (a.put o.dst v) w) : wpList P ops Q (o :: rest) a w := by
  refine wpList_run_x w hgd v w ?_ h
  simp [execOp, ho, hv, hr, Result.andThen]

theorem wpList_store_x {ops : Array Oper} {rest : List Oper} {o : Oper} {a : Act} {Q : Exit → Act → World → Prop} (hgd : Region.wanted o (yielded ops a.tmps) = true) (t : TypeId) (x y : Operand) (ho : o.op = .store t x y) (w' : World)
    (hr : (Instr.storeAt t (a.eval x) (a.eval y)).run P w = .ok () w') (h : wpList P ops Q rest (a.put o.dst undef) w') : wpList P ops Q (o :: rest) a w := by
  refine wpList_of hgd fun K hK => ?_
  unfold Oper.wp
  have : (execOp a.eval o).run P w = .ok .skip w' := by simp [execOp, ho, hr, Result.andThen]
  rw [this, Oper.upon_skip]
  exact hK _ _ h
end

end Go.Proofs.YtfdhpjflkimihaaDoor
