/- General lemmas, of no program: footprints of memory, byte slices that are read, and append to a slice of the call's own whose new block is named. No conditions. -/
import Derived.WalkKit
import Derived.WalkSpells
import Derived.WalkLawsBesides
import Derived.Lib.Hide
import Derived.Deep.QuietTactic
import Derived.BigQuiet
import Derived.Laws.AppendOwnNone
import Derived.Deep.DeepFit
import Derived.StillTailTactics
import Derived.Lib.SlBytesConst
import Derived.Deep.RegionLaw
import Derived.Deep.RegionHeld3
import Derived.Deep.DeepCutAuto
namespace Go.Proofs.YtfdhpjflkimihaaDoor
open Go.RowKit

/-- What is between two worlds: below the first one's end only the blocks of S have turned. -/
structure Chg (S : List Nat) (w w' : World) : Prop where
  os : w'.os = w.os
  tape : w'.tape = w.tape
  output : w'.output = w.output
  size : w.heap.size ≤ w'.heap.size
  block : ∀ k, k < w.heap.size → k ∉ S → w'.heap[k]? = w.heap[k]?

theorem Chg.refl (S : List Nat) (w : World) : Chg S w w := ⟨rfl, rfl, rfl, Nat.le_refl _, fun _ _ _ => rfl⟩
theorem Chg.mono {S T : List Nat} {w w' : World} (h : Chg S w w') (hs : ∀ k ∈ S, k ∈ T) : Chg T w w' :=
  ⟨h.os, h.tape, h.output, h.size, fun k hk hn => h.block k hk (fun hm => hn (hs k hm))⟩
/-- Two steps: what the second one turns, the first may turn too, or it is new. -/
theorem Chg.trans {S T : List Nat} {a b c : World} (h : Chg S a b) (g : Chg T b c) (hs : ∀ k ∈ T, k ∈ S ∨ a.heap.size ≤ k) : Chg S a c :=
  ⟨g.os.trans h.os, g.tape.trans h.tape, g.output.trans h.output, Nat.le_trans h.size g.size, fun k hk hn =>
    (g.block k (Nat.lt_of_lt_of_le hk h.size) (fun hm => by rcases hs k hm with h1 | h1; exact hn h1; omega)).trans (h.block k hk hn)⟩
theorem Chg.alloc (S : List Nat) (w : World) (o : Obj) : Chg S w (w.alloc o) :=
  ⟨rfl, rfl, rfl, by simp, fun k hk _ => Below.heap_alloc w o k hk⟩
theorem heap_drewN (w : World) (n : Nat) : (w.drewN n).heap = w.heap := rfl
theorem Chg.drewN (S : List Nat) (w : World) (n : Nat) : Chg S w (w.drewN n) :=
  ⟨rfl, rfl, rfl, Nat.le_refl _, fun _ _ _ => rfl⟩
theorem Chg.setCell {S : List Nat} (w : World) (a : Addr) (v : Value) (h : a.block ∈ S ∨ w.heap.size ≤ a.block) : Chg S w (w.setCell a v) :=
  ⟨rfl, rfl, rfl, by simp [World.setCell], fun k _ hn => heap_setCell_other w a k v (fun e => by subst e; rcases h with h | h; exact hn h; omega)⟩
theorem Chg.grown {S : List Nat} {w w' : World} {row : Option Nat} (hg : w.grownBy w' row) (h : ∀ k, row = some k → k ∈ S ∨ w.heap.size ≤ k) : Chg S w w' :=
  ⟨hg.os, hg.tape, hg.output, hg.size, fun k hk hn => hg.block k hk (fun e => by rcases h k e.symm with h | h; exact hn h; omega)⟩
theorem Chg.below {S : List Nat} {w w' : World} {B : Nat} (h : Chg S w w') (hs : ∀ k ∈ S, B ≤ k) (hB : B ≤ w.heap.size) : Below B w w' :=
  ⟨h.os, h.tape, h.output, h.size, fun k hk => h.block k (by omega) (fun hm => by have := hs k hm; omega)⟩
theorem Chg.cell {S : List Nat} {w w' : World} (h : Chg S w w') {a : Addr} (ha : a.block < w.heap.size) (hn : a.block ∉ S) : w'.cell? a = w.cell? a :=
  World.cell?_of_block (h.block _ ha hn)
theorem Chg.cell_some {S : List Nat} {w w' : World} (h : Chg S w w') {a : Addr} {v : Value} (hc : w.cell? a = some v) (hn : a.block ∉ S) : w'.cell? a = some v :=
  (h.cell (World.block_lt_of_cell? _ _ hc) hn).trans hc

/-- Bytes as cells. -/
def bv (x : UInt8) : Value := .int .u8 x.toNat
def bvs (d : List UInt8) : List Value := d.map bv
theorem bvs_length (d : List UInt8) : (bvs d).length = d.length := by simp [bvs]
theorem bvs_append (a b : List UInt8) : bvs (a ++ b) = bvs a ++ bvs b := by simp [bvs]
theorem bvs_one (d : List UInt8) : ∀ u ∈ bvs d, u.oneCell' = true := by
  intro u hu
  obtain ⟨_, _, rfl⟩ := List.mem_map.1 hu
  rfl

/-- A slice's cells, as a list of values. -/
structure Src (w : World) (ao : Option Addr) (xs : List Value) : Prop where
  nil : ao = none → xs = []
  cell : ∀ a, ao = some a → ∀ (j : Nat) (u : Value), xs[j]? = some u → w.cell? (a.add j) = some u

theorem addr_add_block (a : Addr) (n : Nat) : (a.add n).block = a.block := by unfold Addr.add; split <;> rfl

/-- What is read stays, where its block stays. -/
theorem Src.keep {w w' : World} {ao : Option Addr} {xs : List Value} (h : Src w ao xs) (hk : ∀ a, ao = some a → w'.heap[a.block]? = w.heap[a.block]?) : Src w' ao xs :=
  ⟨h.nil, fun a ha j u hu => (World.cell?_of_block (by rw [addr_add_block]; exact hk a ha)).trans (h.cell a ha j u hu)⟩
theorem Src.lt {w : World} {ao : Option Addr} {xs : List Value} (h : Src w ao xs) (hx : 0 < xs.length) : ∃ a, ao = some a ∧ a.block < w.heap.size := by
  cases ao with
  | none => have := h.nil rfl; simp [this] at hx
  | some a =>
    have := World.block_lt_of_cell? _ _ (h.cell a rfl 0 xs[0] (by simp [hx]))
    exact ⟨a, rfl, by rwa [addr_add_block] at this⟩
theorem Src.chg {w w' : World} {S : List Nat} {ao : Option Addr} {xs : List Value} (h : Src w ao xs) (hc : Chg S w w') (hn : ∀ a, ao = some a → a.block ∉ S) : Src w' ao xs := by
  refine ⟨h.nil, fun a ha j u hu => ?_⟩
  have h1 := h.cell a ha j u hu
  exact hc.cell_some h1 (by rw [addr_add_block]; exact hn a ha)

theorem ownsRow_slice {w : World} {B : Nat} {e : TypeId} {size : Nat} {v : Value} {n : Nat} {xs : List Value} (h : w.ownsRow B e size v n xs) : ∃ ao c, v = .slice ao n c ∧ n ≤ c ∧ (ao = none → n = 0 ∧ c = 0) := by
  rcases h.2 with ⟨rfl, rfl⟩ | ⟨g, cap, cur, rfl, _, _, hc, _⟩
  · exact ⟨none, 0, rfl, Nat.le_refl _, fun _ => ⟨rfl, rfl⟩⟩
  · exact ⟨_, _, rfl, hc, fun h => by cases h⟩

theorem ownsRow_drewN {w : World} {B : Nat} {e : TypeId} {size : Nat} {v : Value} {n : Nat} {xs : List Value} (h : w.ownsRow B e size v n xs) (k : Nat) : (w.drewN k).ownsRow B e size v n xs := h
theorem ownsRow_chg {w w' : World} {S : List Nat} {B : Nat} {e : TypeId} {size : Nat} {v : Value} {n : Nat} {xs : List Value} (h : w.ownsRow B e size v n xs) (hc : Chg S w w') (hn : ∀ k, v.ownBlock = some k → k ∉ S) : w'.ownsRow B e size v n xs := by
  refine ⟨h.1, ?_⟩
  rcases h.2 with h2 | ⟨g, cap, cur, hv, hg, hh, r⟩
  · exact .inl h2
  · exact .inr ⟨g, cap, cur, hv, hg, by rw [hc.block g (lt_of_block hh) (hn g (by rw [hv]; rfl))]; exact hh, r⟩
/-- Blocks of another element type are other blocks. -/
theorem ownsRow_ne {w : World} {B : Nat} {e : TypeId} {size : Nat} {v : Value} {n : Nat} {xs : List Value} (h : w.ownsRow B e size v n xs) {b : Nat} {cs : Array Value} {t : TypeId} {fr : Nat × Nat} (hb : w.heap[b]? = some (.cells cs t fr)) (ht : t ≠ e) : v.ownBlock ≠ some b := by
  rcases h.2 with ⟨rfl, _⟩ | ⟨g, cap, cur, rfl, _, hh, _⟩
  · simp [Value.ownBlock]
  · intro hg
    simp [Value.ownBlock] at hg
    subst hg
    rw [hh] at hb
    simp only [Option.some.injEq, Obj.cells.injEq] at hb
    exact ht hb.2.1.symm
theorem ownsRow_lt {w : World} {B : Nat} {e : TypeId} {size : Nat} {v : Value} {n : Nat} {xs : List Value} (h : w.ownsRow B e size v n xs) : ∀ k, v.ownBlock = some k → k < w.heap.size := fun k hk => (h.lt k hk).2
theorem ownsRow_src {w : World} {B : Nat} {e : TypeId} {ao : Option Addr} {n c : Nat} {xs : List Value} (h : w.ownsRow B e 1 (.slice ao n c) n xs) : Src w ao xs := by
  refine ⟨fun ha => ?_, fun a ha j u hu => ?_⟩
  · subst ha
    rcases h.2 with ⟨hv, hn⟩ | ⟨g, cap, cur, hv, _⟩
    · exact List.eq_nil_of_length_eq_zero (by rw [h.1, hn])
    · simp at hv
  · subst ha
    rcases h.2 with ⟨hv, hn⟩ | ⟨g, cap, cur, hv, _⟩
    · simp at hv
    · simp only [Value.slice.injEq, Option.some.injEq] at hv
      obtain ⟨rfl, _, _⟩ := hv
      exact h.cells (g := g) rfl j u hu

theorem Src.take {w : World} {ao : Option Addr} {xs : List Value} (h : Src w ao xs) (m : Nat) : Src w ao (xs.take m) :=
  ⟨fun ha => by rw [h.nil ha]; simp, fun a ha j u hu => h.cell a ha j u (by
    rw [List.getElem?_take] at hu
    split at hu
    · exact hu
    · cases hu)⟩
theorem Src.drop {w : World} {ao : Option Addr} {xs : List Value} (h : Src w ao xs) (m : Nat) : Src w (ao.map (·.add m)) (xs.drop m) := by
  refine ⟨fun ha => by rw [h.nil (by simpa using ha)]; simp, fun a ha j u hu => ?_⟩
  obtain ⟨a0, h0, rfl⟩ := Option.map_eq_some_iff.1 ha
  rw [List.getElem?_drop] at hu
  have := h.cell a0 h0 _ u hu
  rw [show (a0.add m).add j = a0.add (m + j) from ?_]
  · exact this
  · unfold Addr.add
    by_cases hm : m = 0 <;> by_cases hj : j = 0 <;> simp [hm, hj, Nat.add_assoc]
theorem Src.empty (w : World) (ao : Option Addr) : Src w ao [] := ⟨fun _ => rfl, fun _ _ j u hu => by simp at hu⟩
theorem bvs_take (d : List UInt8) (n : Nat) : bvs (d.take n) = (bvs d).take n := by simp [bvs]
theorem bvs_drop (d : List UInt8) (n : Nat) : bvs (d.drop n) = (bvs d).drop n := by simp [bvs]

/-- The empty slice that a literal has just made. -/
theorem own_empty {w : World} {e : TypeId} {size g : Nat} (hg : w.heap.size = g) : (w.alloc (.cells #[] e)).ownsRow 0 e size (.slice (some ⟨g, 0, none⟩) 0 0) 0 [] := by
  subst hg
  exact World.ownsRow_made w #[] 0 (Nat.zero_le _) (Nat.zero_le _) (by simp)

/-- One step of an object: what it turns is its own; what is its own behind it was, or is new. -/
structure Step (F F' : List Nat) (w w' : World) : Prop where
  chg : Chg F w w'
  foot : ∀ k ∈ F', (k ∈ F ∨ w.heap.size ≤ k) ∧ k < w'.heap.size

theorem Step.trans {F G H : List Nat} {a b c : World} (h : Step F G a b) (g : Step G H b c) : Step F H a c :=
  ⟨h.chg.trans g.chg (fun k hk => (h.foot k hk).1), fun k hk => ⟨by
    rcases (g.foot k hk).1 with h1 | h1
    · exact (h.foot k h1).1
    · exact .inr (Nat.le_trans h.chg.size h1), (g.foot k hk).2⟩⟩

theorem wpList_of {P : Program} {w : World} {ops : Array Oper} {rest : List Oper} {o : Oper} {a : Act} {Q : Exit → Act → World → Prop} (hgd : Region.wanted o (yielded ops a.tmps) = true)
    (h : ∀ K : Act → World → Prop, (∀ a w, wpList P ops Q rest a w → K a w) → o.wp P a w K Q) : wpList P ops Q (o :: rest) a w := by
  unfold wpList
  rw [if_pos hgd]
  exact .inl (h _ fun _ _ h => h)

section
variable {P : Program} (w : World)

/-- append to a slice of the call's own, from whatever source: the block that it then has is the same one, or the next new one. -/
theorem run_append_x (t ty e : TypeId) (i : TypeInfo) (z : Value) (size bytes : Nat) (ht : P.underlying t = some (.slice e)) (hi : P.info? e = some i) (hz : i.zero = some z)
    (hsize : i.size = size) (hby : i.bytes = bytes) (hzs : z.cells.size = size) (hsz : 0 < size)
    (v : Value) (n : Nat) (xs : List Value) (hown : w.ownsRow 0 e size v n xs)
    (ao : Option Addr) (m c : Nat) (news : List Value) (hl : news.length = m * size) (hsrc : Src w ao news) (hc : ao = none → c = 0) (h1 : ∀ u ∈ news, u.oneCell' = true)
    (h63 : n + m ≤ maxLen) (hbytes : (n + m) * bytes ≤ 140737488355328) :
    ∃ v' w', (Builtin.append_ #[t, t] ty #[v, .slice ao m c]).run P w = .ok v' w' ∧ w'.ownsRow 0 e size v' (n + m) (xs ++ news) ∧ w.grownBy w' v.ownBlock ∧
      (v'.ownBlock = v.ownBlock ∨ v'.ownBlock = some w.heap.size) := by
  cases ao with
  | none =>
    have h0 := hsrc.nil rfl
    subst h0
    have hm : m = 0 := by
      rcases Nat.eq_zero_or_pos m with h | h
      · exact h
      · have := Nat.mul_pos h hsz; simp at hl; omega
    subst hm
    have := hc rfl
    subst this
    exact ⟨v, w, run_append_owned_none (P := P) w 0 t ty e i size ht hi v n xs hown, by simpa using hown, World.grownBy.refl _ _, .inl rfl⟩
  | some ad =>
    obtain ⟨v', w', hr, h2, h3, _⟩ := run_append_own (P := P) w 0 t ty e i z size bytes ht hi hz hsize hby hzs hsz v n xs hown ad m c news hl (hsrc.cell ad rfl) h1 h63 hbytes (Nat.zero_le _)
    refine ⟨v', w', hr, h2, h3, ?_⟩
    subst hsize
    subst hby
    have hsmall : n + m ≤ 9223372036854775807 := by simp only [maxLen] at h63; omega
    rcases hown.2 with ⟨rfl, rfl⟩ | ⟨g, cap, cur, rfl, _, hg, hnc, hcm, hcs, htake⟩
    · by_cases hm : m = 0
      · subst hm
        have hn : news = [] := List.eq_nil_of_length_eq_zero (by simpa using hl)
        subst hn
        have hr' : (Builtin.append_ #[t, t] ty #[.slice none 0 0, .slice (some ad) 0 c]).run P w = .ok (.slice none 0 0) w := by
          simp [Builtin.append_, run_underlying ht, sizeOf, typeInfo, hi, Builtin.lenOf, Builtin.firstCells, loadCells, loadCellsFrom]
        rw [hr'] at hr
        injection hr with e1 e2
        left; rw [← e1]
      · have hr' := run_append_nil (P := P) w t ty e i z ht hi hz ad m c news hl (hsrc.cell ad rfl) (by omega) (by omega) (by have hb := hbytes; simp only [Nat.zero_add] at hb; omega)
        rw [hr'] at hr
        injection hr with e1 e2
        right; rw [← e1]; rfl
    · by_cases hroom : n + m ≤ cap
      · have hfit : n * i.size + news.length ≤ cur.size := by rw [hl, hcs, ← Nat.add_mul]; exact Nat.mul_le_mul_right _ hroom
        have hr' := run_append_room (P := P) w t ty e i ht hi g n cap cur hg ad m c news hl (hsrc.cell ad rfl) h1 hroom hfit
        rw [hr'] at hr
        injection hr with e1 e2
        left; rw [← e1]; rfl
      · have holds : ∀ j u, xs[j]? = some u → w.cell? ((⟨g, 0, none⟩ : Addr).add j) = some u := hown.cells (g := g) rfl
        have hr' := run_append_grow (P := P) w t ty e i z ht hi hz ⟨g, 0, none⟩ n cap xs hown.1 holds ad m c news hl (hsrc.cell ad rfl) (by omega) (by omega) (growslice_fits (by omega) hbytes)
        rw [hr'] at hr
        injection hr with e1 e2
        right; rw [← e1]; rfl

theorem wpList_append_x {ops : Array Oper} {rest : List Oper} {o : Oper} {a : Act} {Q : Exit → Act → World → Prop} (hgd : Region.wanted o (yielded ops a.tmps) = true) (s x : Operand) (t : TypeId)
    (ho : o.op = .call { callee := .builtin .append, args := #[s, x], argTypes := #[t, t] })
    (e : TypeId) (i : TypeInfo) (z : Value) (size bytes : Nat) (ht : P.underlying t = some (.slice e)) (hi : P.info? e = some i) (hz : i.zero = some z)
    (hsize : i.size = size) (hby : i.bytes = bytes) (hzs : z.cells.size = size) (hsz : 0 < size)
    (v : Value) (n : Nat) (xs : List Value) (hs : a.eval s = v) (hown : w.ownsRow 0 e size v n xs)
    (ao : Option Addr) (m c : Nat) (news : List Value) (hx : a.eval x = .slice ao m c) (hl : news.length = m * size) (hsrc : Src w ao news) (hc : ao = none → c = 0) (h1 : ∀ u ∈ news, u.oneCell' = true)
    (h63 : n + m ≤ maxLen) (hbytes : (n + m) * bytes ≤ 140737488355328)
    (h : ∀ ao' c' w', w'.ownsRow 0 e size (.slice ao' (n + m) c') (n + m) (xs ++ news) → w.grownBy w' v.ownBlock → ((Value.slice ao' (n + m) c').ownBlock = v.ownBlock ∨ (Value.slice ao' (n + m) c').ownBlock = some w.heap.size) → wpList P ops Q rest (a.put o.dst (.slice ao' (n + m) c')) w') :
    wpList P ops Q (o :: rest) a w := by
  refine wpList_of hgd fun K hK => ?_
  obtain ⟨v', w', hr, h2, h3, h4⟩ := run_append_x (P := P) w t o.type e i z size bytes ht hi hz hsize hby hzs hsz v n xs hown ao m c news hl hsrc hc h1 h63 hbytes
  unfold Oper.wp execOp
  simp only [ho, resolve, invoke, builtin, Sem.run_bind, Sem.run_pure, Result.andThen_ok, List.map_toArray, List.map_cons, List.map_nil, hs, hx, hr]
  obtain ⟨ao', c', rfl, _, _⟩ := ownsRow_slice h2
  exact hK _ _ (h ao' c' w' h2 h3 h4)

theorem step_append_x {ops : Array Oper} {o : Oper} {a : Act} {K : Act → World → Prop} {Q : Exit → Act → World → Prop} {E : Prop} (hgd : Region.wanted o (yielded ops a.tmps) = true) (s x : Operand) (t : TypeId)
    (ho : o.op = .call { callee := .builtin .append, args := #[s, x], argTypes := #[t, t] })
    (e : TypeId) (i : TypeInfo) (z : Value) (size bytes : Nat) (ht : P.underlying t = some (.slice e)) (hi : P.info? e = some i) (hz : i.zero = some z)
    (hsize : i.size = size) (hby : i.bytes = bytes) (hzs : z.cells.size = size) (hsz : 0 < size)
    (v : Value) (n : Nat) (xs : List Value) (hs : a.eval s = v) (hown : w.ownsRow 0 e size v n xs)
    (ao : Option Addr) (m c : Nat) (news : List Value) (hx : a.eval x = .slice ao m c) (hl : news.length = m * size) (hsrc : Src w ao news) (hc : ao = none → c = 0) (h1 : ∀ u ∈ news, u.oneCell' = true)
    (h63 : n + m ≤ maxLen) (hbytes : (n + m) * bytes ≤ 140737488355328)
    (h : ∀ ao' c' w', w'.ownsRow 0 e size (.slice ao' (n + m) c') (n + m) (xs ++ news) → w.grownBy w' v.ownBlock → ((Value.slice ao' (n + m) c').ownBlock = v.ownBlock ∨ (Value.slice ao' (n + m) c').ownBlock = some w.heap.size) → K (a.put o.dst (.slice ao' (n + m) c')) w') :
    if Region.wanted o (yielded ops a.tmps) = true then Oper.wp P o a w K Q else E := by
  rw [if_pos hgd]
  obtain ⟨v', w', hr, h2, h3, h4⟩ := run_append_x (P := P) w t o.type e i z size bytes ht hi hz hsize hby hzs hsz v n xs hown ao m c news hl hsrc hc h1 h63 hbytes
  unfold Oper.wp execOp
  simp only [ho, resolve, invoke, builtin, Sem.run_bind, Sem.run_pure, Result.andThen_ok, List.map_toArray, List.map_cons, List.map_nil, hs, hx, hr]
  obtain ⟨ao', c', rfl, _, _⟩ := ownsRow_slice h2
  exact h ao' c' w' h2 h3 h4

/-- string(b). -/
theorem run_str_of_bytes (src dst e : TypeId) (hs : P.underlying src = some (.slice e)) (he : P.underlying e = some (.int .u8)) (hd : P.underlying dst = some .string)
    (ao : Option Addr) (n c : Nat) (d : List UInt8) (hn : d.length = n) (hsrc : Src w ao (bvs d)) : (convert src dst (.slice ao n c)).run P w = .ok (.string ⟨d.toArray⟩) w := by
  subst hn
  cases ao with
  | none =>
    have h0 := hsrc.nil rfl
    have : d = [] := by simpa [bvs] using h0
    subst this
    exact run_convert_bytes_nil w src e hs he _ _ dst hd
  | some a =>
    refine run_convert_bytes_back w src dst e a c d hs he hd fun j hj => ?_
    exact hsrc.cell a rfl j _ (by simp [bvs, bv, hj])

theorem wpList_str_of_bytes {ops : Array Oper} {rest : List Oper} {o : Oper} {a : Act} {Q : Exit → Act → World → Prop} (hgd : Region.wanted o (yielded ops a.tmps) = true) (src dst : TypeId) (x : Operand) (ho : o.op = .convert src dst x)
    (e : TypeId) (hs : P.underlying src = some (.slice e)) (he : P.underlying e = some (.int .u8)) (hd : P.underlying dst = some .string)
    (ao : Option Addr) (n c : Nat) (hx : a.eval x = .slice ao n c) (s : ByteArray) (hn : s.data.toList.length = n) (hsrc : Src w ao (bvs s.data.toList))
    (h : wpList P ops Q rest (a.put o.dst (.string s)) w) : wpList P ops Q (o :: rest) a w := by
  refine wpList_of hgd fun K hK => ?_
  unfold Oper.wp
  simp [execOp, ho, hx, run_str_of_bytes w src dst e hs he hd ao n c _ hn hsrc, Result.andThen]
  exact hK _ _ h

theorem step_str_of_bytes {ops : Array Oper} {o : Oper} {a : Act} {K : Act → World → Prop} {Q : Exit → Act → World → Prop} {E : Prop} (hgd : Region.wanted o (yielded ops a.tmps) = true) (src dst : TypeId) (x : Operand) (ho : o.op = .convert src dst x)
    (e : TypeId) (hs : P.underlying src = some (.slice e)) (he : P.underlying e = some (.int .u8)) (hd : P.underlying dst = some .string)
    (ao : Option Addr) (n c : Nat) (hx : a.eval x = .slice ao n c) (s : ByteArray) (hn : s.data.toList.length = n) (hsrc : Src w ao (bvs s.data.toList))
    (h : K (a.put o.dst (.string s)) w) : if Region.wanted o (yielded ops a.tmps) = true then Oper.wp P o a w K Q else E := by
  rw [if_pos hgd]
  unfold Oper.wp
  simp [execOp, ho, hx, run_str_of_bytes w src dst e hs he hd ao n c _ hn hsrc, Result.andThen]
  exact h

/-- []byte(s): new memory whose first cells are the bytes, and may be written. -/
structure MadeBytes (w : World) (g : Nat) (d : List UInt8) (w' : World) : Prop where
  chg : Chg [] w w'
  new : w.heap.size ≤ g ∧ g < w'.heap.size
  src : Src w' (some ⟨g, 0, none⟩) (bvs d)
  free : ∀ j, j < d.length → w'.frozen? ⟨g, j, none⟩ = false
  size : w'.heap.size = w.heap.size + 1

theorem madeBytes_row (e : TypeId) (s : ByteArray) :
    MadeBytes w w.heap.size s.data.toList (w.drew.alloc (.cells (bytesRow s (grownCap w s.size 0 e)) e ((bytesRow s (grownCap w s.size 0 e)).size, (bytesRow s (grownCap w s.size 0 e)).size + 1))) := by
  refine ⟨(Chg.drewN [] w 1).trans (Chg.alloc [] _ _) (by simp), ⟨Nat.le_refl _, by simp⟩, ⟨fun h => by (cases h), fun a ha j u hu => ?_⟩, fun j hj => ?_, by simp⟩
  · have ha' := Option.some.inj ha
    subst ha'
    have hj : j < s.data.toList.length := by
      have := (List.getElem?_eq_some_iff.1 hu).1
      simpa [bvs] using this
    have hadd : (⟨w.heap.size, 0, none⟩ : Addr).add j = ⟨w.heap.size, j, none⟩ := by unfold Addr.add; split <;> simp_all
    rw [hadd]
    have hc := cell_of_row (w.drew.alloc (.cells (bytesRow s (grownCap w s.size 0 e)) e ((bytesRow s (grownCap w s.size 0 e)).size, (bytesRow s (grownCap w s.size 0 e)).size + 1))) w.heap.size j _ _ _ (heap_alloc_new w.drew _)
    rw [hc, bytesRow_at s _ j (by simpa using hj)]
    rw [← hu]
    simp only [Array.length_toList] at hj
    simp [bvs, Array.getElem?_eq_getElem hj]
    rfl
  · have h2 : j < (bytesRow s (grownCap w s.size 0 e)).size := by simp [bytesRow]; have : s.size = s.data.size := rfl; simp at hj; omega
    have hh := heap_alloc_new w.drew (.cells (bytesRow s (grownCap w s.size 0 e)) e ((bytesRow s (grownCap w s.size 0 e)).size, (bytesRow s (grownCap w s.size 0 e)).size + 1))
    rw [heap_drew] at hh
    simp only [World.frozen?, hh]
    simp only [Bool.and_eq_false_iff, decide_eq_false_iff_not]
    left; omega

theorem run_bytes_of_str (src dst e : TypeId) (s : ByteArray) (hs : P.underlying src = some .string) (hd : P.underlying dst = some (.slice e)) (he : P.underlying e = some (.int .u8)) :
    ∃ g c w', (convert src dst (.string s)).run P w = .ok (.slice (some ⟨g, 0, none⟩) s.size c) w' ∧ s.size ≤ c ∧ MadeBytes w g s.data.toList w' :=
  ⟨_, _, _, run_bytes_of_string w src dst e s hs hd he, grownCap_ge _ _ _ _, madeBytes_row w e s⟩

theorem wpList_bytes_of_str {ops : Array Oper} {rest : List Oper} {o : Oper} {a : Act} {Q : Exit → Act → World → Prop} (hgd : Region.wanted o (yielded ops a.tmps) = true) (src dst : TypeId) (x : Operand) (ho : o.op = .convert src dst x)
    (e : TypeId) (hs : P.underlying src = some .string) (hd : P.underlying dst = some (.slice e)) (he : P.underlying e = some (.int .u8))
    (s : ByteArray) (hx : a.eval x = .string s) (n : Nat) (hn : s.size = n) (d : List UInt8) (hdd : s.data.toList = d)
    (h : ∀ g c w', n ≤ c → MadeBytes w g d w' → wpList P ops Q rest (a.put o.dst (.slice (some ⟨g, 0, none⟩) n c)) w') : wpList P ops Q (o :: rest) a w := by
  subst hn; subst hdd
  refine wpList_of hgd fun K hK => ?_
  obtain ⟨g, c, w', hr, hc, hm⟩ := run_bytes_of_str (P := P) w src dst e s hs hd he
  unfold Oper.wp
  simp [execOp, ho, hx, hr, Result.andThen]
  exact hK _ _ (h g c w' hc hm)
end

end Go.Proofs.YtfdhpjflkimihaaDoor
