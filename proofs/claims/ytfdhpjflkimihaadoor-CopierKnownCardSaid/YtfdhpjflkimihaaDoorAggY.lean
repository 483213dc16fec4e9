/- Stores and loads of values of many cells, where the row of slots is long: the operands' values are typed. No conditions beyond those that each statement types. -/
import Derived.Test.YtfdhpjflkimihaaDoorAgg
namespace Go.Proofs.YtfdhpjflkimihaaDoor
open Go.RowKit
section
variable {P : Program} {w : World}
theorem wpList_store_y {ops : Array Oper} {rest : List Oper} {o : Oper} {a : Act} {Q : Exit → Act → World → Prop} (t : TypeId) (x y : Operand) (ho : o.op = .store t x y) (hgd : Region.wanted o (yielded ops a.tmps) = true) (vx vy : Value) (w' : World)
    (hr : (Instr.storeAt t vx vy).run P w = .ok () w') (ex : a.eval x = vx) (ey : a.eval y = vy) (h : wpList P ops Q rest (a.put o.dst undef) w') : wpList P ops Q (o :: rest) a w := by
  subst ex ey
  exact wpList_store_x w hgd t x y ho w' hr h
theorem wpList_load_y {ops : Array Oper} {rest : List Oper} {o : Oper} {a : Act} {Q : Exit → Act → World → Prop} (t : TypeId) (x : Operand) (ho : o.op = .load t x) (hgd : Region.wanted o (yielded ops a.tmps) = true) (vx v : Value)
    (hr : (Instr.loadAt t vx).run P w = .ok v w) (ex : a.eval x = vx) (h : wpList P ops Q rest (a.put o.dst v) w) : wpList P ops Q (o :: rest) a w := by
  subst ex
  exact wpList_load_x w hgd t x ho v hr h
theorem wpList_append_y {ops : Array Oper} {rest : List Oper} {o : Oper} {a : Act} {Q : Exit → Act → World → Prop} (s x : Operand) (t : TypeId)
    (ho : o.op = .call { callee := .builtin .append, args := #[s, x], argTypes := #[t, t] }) (hgd : Region.wanted o (yielded ops a.tmps) = true)
    (e : TypeId) (i : TypeInfo) (z : Value) (size bytes : Nat) (ht : P.underlying t = some (.slice e)) (hi : P.info? e = some i) (hz : i.zero = some z)
    (hsize : i.size = size) (hby : i.bytes = bytes) (hzs : z.cells.size = size) (hsz : 0 < size)
    (v : Value) (n : Nat) (xs : List Value) (hown : w.ownsRow 0 e size v n xs)
    (ao : Option Addr) (m c : Nat) (news : List Value) (hl : news.length = m * size) (hsrc : Src w ao news) (hc : ao = none → c = 0) (h1 : ∀ u ∈ news, u.oneCell' = true)
    (h63 : n + m ≤ maxLen) (hbytes : (n + m) * bytes ≤ 140737488355328)
    (hs : a.eval s = v) (hx : a.eval x = .slice ao m c)
    (h : ∀ ao' c' w', w'.ownsRow 0 e size (.slice ao' (n + m) c') (n + m) (xs ++ news) → w.grownBy w' v.ownBlock → ((Value.slice ao' (n + m) c').ownBlock = v.ownBlock ∨ (Value.slice ao' (n + m) c').ownBlock = some w.heap.size) → wpList P ops Q rest (a.put o.dst (.slice ao' (n + m) c')) w') :
    wpList P ops Q (o :: rest) a w :=
  wpList_append_x w hgd s x t ho e i z size bytes ht hi hz hsize hby hzs hsz v n xs hs hown ao m c news hx hl hsrc hc h1 h63 hbytes h
theorem run_store_func {a : Addr} {x : Value} (f : Fn) (p c : Array Value) (hc : w.cell? a = some x) (hf : w.frozen? a = false) : (store a (.func f p c)).run P w = .ok () (w.setCell a (.func f p c)) := by
  rw [run_store P w a _ _ rfl, hc, hf]; rfl
theorem run_store_func_new (t : TypeId) (x : Value) (f : Fn) (p c : Array Value) : (store ⟨w.heap.size, 0, none⟩ (.func f p c)).run P (w.alloc (.cells #[x] t)) = .ok () (w.alloc (.cells #[.func f p c] t)) := by
  rw [run_store_func (x := x) f p c (by rw [cell_of_row _ _ _ _ _ _ (heap_alloc_new w _)]; rfl) (frozen_of_row _ _ _ _ _ (heap_alloc_new w _)), World.setCell_alloc_new]; rfl
end
end Go.Proofs.YtfdhpjflkimihaaDoor
