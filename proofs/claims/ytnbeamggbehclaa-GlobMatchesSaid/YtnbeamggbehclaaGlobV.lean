/- The reference's elements and classes in memory; class, walked. No conditions beyond those that each statement types. -/
import Derived.Test.YtnbeamggbehclaaGlobU
namespace Go.Proofs.Ytnbeamggbehclaa
open Go.RowKit

def El.kind : El → Int
  | .all => 1
  | .some => 2
  | .any => 3
  | .set _ _ => 4
  | .byt _ => 5
def El.b : El → UInt8
  | .byt c => c
  | _ => 0
def El.no : El → Bool
  | .set n _ => n
  | _ => false
def El.rs : El → List (UInt8 × UInt8)
  | .set _ rs => rs
  | _ => []
def elC (x : El) (a : Option Addr) (n c : Nat) : Array Value := #[.int .i64 x.kind, .int .u8 x.b.toNat, .bool x.no, .slice a n c]
theorem elC_one (x : El) (a : Option Addr) (n c : Nat) : (elC x a n c).all (·.oneCell') = true := by simp [elC, Value.oneCell']
structure RgAt (lo : Nat) (w : World) (a : Option Addr) (n c : Nat) (rs : List (UInt8 × UInt8)) : Prop where
  len : rs.length = n
  own : w.ownsRow 0 90 2 (.slice a n c) n (rvs rs)
  new : ∀ k, (Value.slice a n c).ownBlock = some k → lo ≤ k
theorem RgAt.chg {lo : Nat} {w w' : World} {a : Option Addr} {n c : Nat} {rs : List (UInt8 × UInt8)} {S : List Nat} (H : RgAt lo w a n c rs) (C : Chg S w w') (hS : ∀ k ∈ S, k < lo) : RgAt lo w' a n c rs :=
  ⟨H.len, ownsRow_chg H.own C (fun k hk hm => by have := H.new k hk; have := hS k hm; omega), H.new⟩
theorem RgAt.low {lo lo' : Nat} {w : World} {a : Option Addr} {n c : Nat} {rs : List (UInt8 × UInt8)} (H : RgAt lo w a n c rs) (h : lo' ≤ lo) : RgAt lo' w a n c rs :=
  ⟨H.len, H.own, fun k hk => Nat.le_trans h (H.new k hk)⟩
theorem RgAt.none (lo : Nat) (w : World) : RgAt lo w .none 0 0 [] := ⟨rfl, World.ownsRow_nil _ _ _ _, fun q hq => by cases hq⟩

theorem Try.infoElR : (Try.prog.info? 53).map (·.size) = some 4 := by kernel_rfl
theorem store_elr (w : World) (g : Nat) (old : Array Value) (x : El) (a : Option Addr) (n c : Nat) (h : w.heap[g]? = some (.cells old 53 (0, 0))) (ho : old.size = 4) :
    (Instr.storeAt 53 (.pointer (some ⟨g, 0, none⟩)) (.agg (elC x a n c))).run Try.prog w = .ok () (w.setRow g (elC x a n c)) :=
  run_storeAt_row w g _ _ old (elC x a n c) h Try.infoElR ho (elC_one ..)
theorem load_elr (w : World) (g : Nat) (x : El) (a : Option Addr) (n c : Nat) (h : w.heap[g]? = some (.cells (elC x a n c) 53 (0, 0))) :
    (Instr.loadAt 53 (.pointer (some ⟨g, 0, none⟩))).run Try.prog w = .ok (.agg (elC x a n c)) w := by
  simp only [Instr.loadAt, Instr.sureAddr, Sem.run_bind, Sem.run_pure, Result.andThen]
  exact run_loadVar_row w g _ _ (elC x a n c) (0, 0) _ h Try.underlying53 rfl Try.infoElR
theorem results_elr {fn : Func} {p u q : Tmp} (h : fn.results = #[.cell p 53, .tmp u, .tmp q]) (tmps : Array Value) (w : World) (g : Nat) (t : TypeId) (fr : Nat × Nat) (x : El) (a : Option Addr) (n c : Nat) (y z : Value)
    (hp : tmps.getD p undef = .pointer (some ⟨g, 0, none⟩)) (hy : tmps.getD u undef = y) (hz : tmps.getD q undef = z) (hg : w.heap[g]? = some (.cells (elC x a n c) t fr)) :
    (results fn tmps).run Try.prog w = .ok (.tuple #[.agg (elC x a n c), y, z]) w := by
  have h1 := run_loadVar_row (P := Try.prog) w g t 53 (elC x a n c) fr _ hg Try.underlying53 rfl Try.infoElR
  have h2 : (asAddr (.pointer (some ⟨g, 0, none⟩))).run Try.prog w = .ok ⟨g, 0, none⟩ w := rfl
  simp only [Array.getD_eq_getD_getElem?] at hp hy hz
  simp only [results, h]
  simp [Sem.run_bind, Result.andThen, hp, hy, hz, h1, h2]

section
variable {P : Program} (w : World)
theorem step_store_x {ops : Array Oper} {o : Oper} {a : Act} {K : Act → World → Prop} {Q : Exit → Act → World → Prop} {E : Prop} (hgd : Region.wanted o (yielded ops a.tmps) = true) (t : TypeId) (x y : Operand) (ho : o.op = .store t x y) (w' : World)
    (hr : (Instr.storeAt t (a.eval x) (a.eval y)).run P w = .ok () w') (h : K (a.put o.dst undef) w') : if Region.wanted o (yielded ops a.tmps) = true then Oper.wp P o a w K Q else E := by
  rw [if_pos hgd]
  unfold Oper.wp
  have : (execOp a.eval o).run P w = .ok .skip w' := by simp [execOp, ho, hr, Result.andThen]
  rw [this, Oper.upon_skip]
  exact h
theorem step_load_x {ops : Array Oper} {o : Oper} {a : Act} {K : Act → World → Prop} {Q : Exit → Act → World → Prop} {E : Prop} (hgd : Region.wanted o (yielded ops a.tmps) = true) (t : TypeId) (x : Operand) (ho : o.op = .load t x) (v : Value)
    (hr : (Instr.loadAt t (a.eval x)).run P w = .ok v w) (h : K (a.put o.dst v) w) : if Region.wanted o (yielded ops a.tmps) = true then Oper.wp P o a w K Q else E := by
  rw [if_pos hgd]
  unfold Oper.wp
  have : (execOp a.eval o).run P w = .ok (.value v) w := by simp [execOp, ho, hr, Result.andThen]
  rw [this, Oper.upon_value]
  exact h
end

/-- What taking an element off a text hands back. -/
def RTook (w : World) (res : Option (El × List UInt8)) (e : Ending) (w' : World) : Prop :=
  Chg [] w w' ∧ match res with
    | none => ∃ x a n c t, e = .returned (.tuple #[.agg (elC x a n c), .string t, .bool false])
    | some (x, r) => ∃ a n c, e = .returned (.tuple #[.agg (elC x a n c), .string (bs r), .bool true]) ∧ RgAt w.heap.size w' a n c x.rs

/-- One range, and what is behind it. -/
def rng (l : List UInt8) : Option ((UInt8 × UInt8) × List UInt8) := (range1 l).map fun p => (p.1, l.drop p.2)
theorem rangesOf_rng (l : List UInt8) (acc : List (UInt8 × UInt8)) : rangesOf l acc = if shut l then some (acc, l) else match rng l with
    | none => none
    | some (r, q) => rangesOf q (acc ++ [r]) := by
  rw [rangesOf_eq]
  unfold rng
  cases range1 l with
  | none => rfl
  | some p => rfl
theorem writ_len {l r : List UInt8} {c : UInt8} (h : writ l = some (c, r)) : r.length < l.length := by
  unfold writ at h
  obtain ⟨⟨c', n⟩, h1, h2⟩ := Option.map_eq_some_iff.1 h
  have := one1_pos h1
  cases h2
  rw [List.length_drop]
  omega
theorem rng_none {l : List UInt8} (h : writ l = none) : rng l = none := by
  unfold rng
  rw [range1_none (by unfold writ at h; simpa using h)]
  rfl
theorem rng_single {l r : List UInt8} {x : UInt8} (h : writ l = some (x, r)) (hd : dash r = false) : rng l = some ((x, x), r) := by
  unfold writ at h
  obtain ⟨⟨c', n⟩, h1, h2⟩ := Option.map_eq_some_iff.1 h
  cases h2
  unfold rng
  rw [range1_single h1 hd]
  rfl
theorem rng_open {l r : List UInt8} {x : UInt8} (h : writ l = some (x, r)) (hd : dash r = true) (h2 : writ (r.drop 1) = none) : rng l = none := by
  unfold writ at h
  obtain ⟨⟨c', n⟩, h1, h3⟩ := Option.map_eq_some_iff.1 h
  cases h3
  unfold rng
  rw [range1_open h1 hd (by unfold writ at h2; rw [List.drop_drop] at h2; simpa using h2)]
  rfl
theorem rng_turned {l r q : List UInt8} {x y : UInt8} (h : writ l = some (x, r)) (hd : dash r = true) (h2 : writ (r.drop 1) = some (y, q)) (hlt : y < x) : rng l = none := by
  unfold writ at h h2
  obtain ⟨⟨c', n⟩, h1, h3⟩ := Option.map_eq_some_iff.1 h
  obtain ⟨⟨d', m⟩, h4, h5⟩ := Option.map_eq_some_iff.1 h2
  cases h3
  cases h5
  rw [List.drop_drop] at h4
  unfold rng
  rw [range1_turned h1 hd h4 hlt]
  rfl
theorem rng_pair {l r q : List UInt8} {x y : UInt8} (h : writ l = some (x, r)) (hd : dash r = true) (h2 : writ (r.drop 1) = some (y, q)) (hlt : ¬ y < x) : rng l = some ((x, y), q) := by
  unfold writ at h h2
  obtain ⟨⟨c', n⟩, h1, h3⟩ := Option.map_eq_some_iff.1 h
  obtain ⟨⟨d', m⟩, h4, h5⟩ := Option.map_eq_some_iff.1 h2
  cases h3
  cases h5
  rw [List.drop_drop] at h4
  unfold rng
  rw [range1_pair h1 hd h4 hlt]
  simp [List.drop_drop, Nat.add_assoc]
theorem rng_len {l q : List UInt8} {r : UInt8 × UInt8} (h : rng l = some (r, q)) : q.length < l.length := by
  unfold rng at h
  obtain ⟨⟨c', n⟩, h1, h2⟩ := Option.map_eq_some_iff.1 h
  have := range1_pos h1
  cases h2
  rw [List.length_drop]
  omega

/-- What stands in memory while a class is read. -/
structure RCls (w wr : World) (g : Nat) (no : Bool) (a : Option Addr) (n c : Nat) (acc : List (UInt8 × UInt8)) : Prop where
  res : wr.heap[g]? = some (.cells #[.int .i64 0, .int .u8 0, .bool false, .slice none 0 0] 53 (0, 0))
  el : wr.heap[g + 1]? = some (.cells (elC (.set no acc) a n c) 53 (0, 0))
  rg : RgAt (g + 2) wr a n c acc
  chg : Chg [] w wr
  size : w.heap.size = g
theorem RCls.next {w wr w2 : World} {g n c : Nat} {no : Bool} {a : Option Addr} {acc : List (UInt8 × UInt8)} (H : RCls w wr g no a n c acc) (C : Chg [] wr w2) : RCls w w2 g no a n c acc :=
  ⟨(C.block _ (lt_of_block H.res) (by simp)).trans H.res, (C.block _ (lt_of_block H.el) (by simp)).trans H.el, H.rg.chg C (by simp), H.chg.trans C (by simp), H.size⟩
/-- A world behind an append of one range: nothing has turned but the row. -/
theorem RCls.grown {w wr w1 : World} {g n c : Nat} {no : Bool} {a : Option Addr} {acc : List (UInt8 × UInt8)} (H : RCls w wr g no a n c acc) {o : Obj} (hgr : (wr.alloc o).grownBy w1 (Value.slice a n c).ownBlock) :
    (∀ k, k ≤ g + 1 → w1.heap[k]? = wr.heap[k]?) ∧ Chg [] w w1 ∧ wr.heap.size < w1.heap.size := by
  have hl := lt_of_block H.el
  have CA := Chg.alloc (Value.slice a n c).ownBlock.toList wr o
  have CG := Chg.grown hgr (S := (Value.slice a n c).ownBlock.toList) (fun k hk => .inl (by simp [hk]))
  have CT := CA.trans CG (fun k hk => .inl hk)
  have hsz := hgr.size
  simp only [World.size_alloc] at hsz
  refine ⟨fun k hk => CT.block k (by omega) (fun hm => ?_), H.chg.trans CT (fun k hk => .inr ?_), by omega⟩
  · have := H.rg.new k (by simpa using hm); omega
  · have := H.rg.new k (by simpa using hk); have := H.size; omega
theorem RCls.push {w wr w1 : World} {g n c c' : Nat} {no : Bool} {a ao' : Option Addr} {acc : List (UInt8 × UInt8)} (H : RCls w wr g no a n c acc) {o : Obj} {r : UInt8 × UInt8} (hgr : (wr.alloc o).grownBy w1 (Value.slice a n c).ownBlock)
    (hown : w1.ownsRow 0 90 2 (.slice ao' (n + 1) c') (n + 1) (rvs acc ++ rvs [r])) (hblk : (Value.slice ao' (n + 1) c').ownBlock = (Value.slice a n c).ownBlock ∨ (Value.slice ao' (n + 1) c').ownBlock = some (wr.heap.size + 1)) :
    RCls w (w1.setCell ⟨g + 1, 3, none⟩ (.slice ao' (n + 1) c')) g no ao' (n + 1) c' (acc ++ [r]) := by
  obtain ⟨hb, hc, hsz⟩ := H.grown hgr
  have hl := lt_of_block H.el
  have hnew : ∀ k, (Value.slice ao' (n + 1) c').ownBlock = some k → g + 2 ≤ k := by
    intro k hk
    rcases hblk with h1 | h1 <;> rw [h1] at hk
    · exact H.rg.new k hk
    · have := Option.some.inj hk
      omega
  have CS : Chg [g + 1] w1 (w1.setCell ⟨g + 1, 3, none⟩ (.slice ao' (n + 1) c')) := Chg.setCell _ _ _ (.inl (by simp))
  have hs := H.size
  refine ⟨?_, ?_, ⟨by rw [List.length_append, H.rg.len]; rfl, ?_, hnew⟩, hc.trans CS (fun k hk => .inr (by simp at hk; omega)), hs⟩
  · exact (heap_setCell_other _ _ _ _ (by simp)).trans ((hb _ (by omega)).trans H.res)
  · exact heap_setCell_same _ _ _ _ _ _ ((hb _ (by omega)).trans H.el)
  · rw [rvs_append]
    exact ownsRow_chg hown CS (fun k hk hm => by have := hnew k hk; simp at hm; omega)
theorem src_pair {wr : World} {x y : UInt8} {fr : Nat × Nat} : Src (wr.alloc (Obj.cells #[.int .u8 x.toNat, .int .u8 y.toNat] 90 fr)) (some ⟨wr.heap.size, 0, none⟩) (rvs [(x, y)]) := by
  have hnx := heap_alloc_new wr (.cells #[.int .u8 x.toNat, .int .u8 y.toNat] 90 fr)
  refine ⟨fun h => by (cases h), fun q hq j u hu => ?_⟩
  cases hq
  have hj : j < 2 := (List.getElem?_eq_some_iff.1 hu).1
  rw [addr_add0, cell_of_row _ _ j _ _ _ hnx]
  match j, hj with
  | 0, _ => exact hu
  | 1, _ => exact hu
end Go.Proofs.Ytnbeamggbehclaa
