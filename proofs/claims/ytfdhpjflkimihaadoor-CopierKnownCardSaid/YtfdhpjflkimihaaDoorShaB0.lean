/- A state of the package sha in memory, and what block digests. No conditions beyond those that each statement types. -/
import Derived.Test.YtfdhpjflkimihaaDoorSha
import Derived.Test.YtfdhpjflkimihaaDoorRow
import Derived.BigRegion
namespace Go.Proofs.YtfdhpjflkimihaaDoor
open Go.RowKit

/-- A state: words, the rest, how many bytes. -/
structure SS where
  wd : Nat → UInt32
  rs : Nat → UInt8
  n : Nat

def SS.cell (s : SS) (i : Nat) : Value :=
  if i < 8 then wv (s.wd i) else if i < 72 then bv (s.rs (i - 8)) else if i = 72 then .int .i64 s.n else .bool true
def SS.cells (s : SS) : Array Value := cut s.cell 0 74

def StateAt (w : World) (b : Nat) (s : SS) : Prop := w.heap[b]? = some (.cells s.cells 170 (0, 0))

theorem StateAt.lt {w : World} {b : Nat} {s : SS} (h : StateAt w b s) : b < w.heap.size := lt_of_block h
theorem StateAt.chg {w w' : World} {b : Nat} {s : SS} {S : List Nat} (h : StateAt w b s) (hc : Chg S w w') (hn : b ∉ S) : StateAt w' b s :=
  (hc.block b h.lt hn).trans h
theorem StateAt.at {w : World} {b : Nat} {s : SS} (h : StateAt w b s) (i : Nat) (hi : i < 74) : w.cell? ⟨b, i, none⟩ = some (s.cell i) := by
  rw [cell_of_row w b i _ _ _ h, SS.cells, cut_get _ _ _ _ hi, Nat.zero_add]
theorem StateAt.wdAt {w : World} {b : Nat} {s : SS} (h : StateAt w b s) (i : Nat) (hi : i < 8) : w.cell? ⟨b, i, none⟩ = some (wv (s.wd i)) := by
  rw [h.at i (by omega), SS.cell, if_pos hi]
theorem StateAt.rsAt {w : World} {b : Nat} {s : SS} (h : StateAt w b s) (i : Nat) (hi : i < 64) : w.cell? ⟨b, 8 + i, none⟩ = some (bv (s.rs i)) := by
  rw [h.at _ (by omega), SS.cell, if_neg (by omega), if_pos (by omega), Nat.add_sub_cancel_left]
theorem StateAt.nAt {w : World} {b : Nat} {s : SS} (h : StateAt w b s) : w.cell? ⟨b, 72, none⟩ = some (.int .i64 s.n) := by
  rw [h.at 72 (by omega)]; rfl
theorem StateAt.madeAt {w : World} {b : Nat} {s : SS} (h : StateAt w b s) : w.cell? ⟨b, 73, none⟩ = some (.bool true) := by
  rw [h.at 73 (by omega)]; rfl
theorem StateAt.frozen {w : World} {b : Nat} {s : SS} (h : StateAt w b s) (i : Nat) : w.frozen? ⟨b, i, none⟩ = false := frozen_of_row w b i _ _ h

/-- The roots, and a state's first words. -/
def rootL : List UInt32 := [1116352408, 1899447441, 3049323471, 3921009573, 961987163, 1508970993, 2453635748, 2870763221, 3624381080, 310598401, 607225278, 1426881987, 1925078388, 2162078206, 2614888103, 3248222580, 3835390401, 4022224774, 264347078, 604807628, 770255983, 1249150122, 1555081692, 1996064986, 2554220882, 2821834349, 2952996808, 3210313671, 3336571891, 3584528711, 113926993, 338241895, 666307205, 773529912, 1294757372, 1396182291, 1695183700, 1986661051, 2177026350, 2456956037, 2730485921, 2820302411, 3259730800, 3345764771, 3516065817, 3600352804, 4094571909, 275423344, 430227734, 506948616, 659060556, 883997877, 958139571, 1322822218, 1537002063, 1747873779, 1955562222, 2024104815, 2227730452, 2361852424, 2428436474, 2756734187, 3204031479, 3329325298]
def firstL : List UInt32 := [1779033703, 3144134277, 1013904242, 2773480762, 1359893119, 2600822924, 528734635, 1541459225]
structure Laid (w : World) : Prop where
  first : ∀ i, i < 8 → w.cell? ⟨0, i, none⟩ = some (wv (firstL.getD i 0))
  roots : ∀ i, i < 64 → w.cell? ⟨1, i, none⟩ = some (wv (rootL.getD i 0))
theorem Laid.size {w : World} (h : Laid w) : 1 < w.heap.size := World.block_lt_of_cell? _ _ (h.roots 0 (by decide))
theorem Laid.chg {w w' : World} {S : List Nat} (h : Laid w) (hc : Chg S w w') (hS : ∀ k ∈ S, 1 < k) : Laid w' :=
  ⟨fun i hi => hc.cell_some (h.first i hi) (fun hm => by have := hS 0 hm; omega), fun i hi => hc.cell_some (h.roots i hi) (fun hm => by have := hS 1 hm; omega)⟩

/-- A row of words in memory. -/
def WordsAt (w : World) (b t : Nat) (n : Nat) (f : Nat → UInt32) : Prop := w.heap[b]? = some (.cells (cut (fun i => wv (f i)) 0 n) t (0, 0))
theorem WordsAt.at {w : World} {b t n : Nat} {f : Nat → UInt32} (h : WordsAt w b t n f) (i : Nat) (hi : i < n) : w.cell? ⟨b, i, none⟩ = some (wv (f i)) := by
  rw [cell_of_row w b i _ _ _ h, cut_get _ _ _ _ hi, Nat.zero_add]
theorem WordsAt.frozen {w : World} {b t n : Nat} {f : Nat → UInt32} (h : WordsAt w b t n f) (i : Nat) : w.frozen? ⟨b, i, none⟩ = false := frozen_of_row w b i _ _ h
theorem WordsAt.lt {w : World} {b t n : Nat} {f : Nat → UInt32} (h : WordsAt w b t n f) : b < w.heap.size := lt_of_block h
theorem WordsAt.chg {w w' : World} {b t n : Nat} {f : Nat → UInt32} {S : List Nat} (h : WordsAt w b t n f) (hc : Chg S w w') (hn : b ∉ S) : WordsAt w' b t n f := (hc.block b h.lt hn).trans h
theorem cut_set (f g : Nat → Value) (n i : Nat) (v : Value) (hs : ∀ j, j < n → g j = if j = i then v else f j) : (cut f 0 n).setIfInBounds i v = cut g 0 n := by
  apply Array.ext_getElem?
  intro j
  by_cases hj : j < n
  · rw [cut_get _ _ _ _ hj, Nat.zero_add, hs j hj]
    by_cases hij : j = i
    · subst hij
      simp [cut_size, hj]
    · rw [if_neg hij, Array.getElem?_setIfInBounds_ne (fun e => hij e.symm), cut_get _ _ _ _ hj, Nat.zero_add]
  · rw [Array.getElem?_eq_none (by rw [Array.size_setIfInBounds, cut_size]; omega), Array.getElem?_eq_none (by rw [cut_size]; omega)]
theorem WordsAt.set {w : World} {b t n : Nat} {f : Nat → UInt32} (h : WordsAt w b t n f) (i : Nat) (x : UInt32) : WordsAt (w.setCell ⟨b, i, none⟩ (wv x)) b t n (fun j => if j = i then x else f j) := by
  have h1 := heap_setCell_same w b i _ _ (wv x) h
  refine h1.trans (congrArg (fun c => some (Obj.cells c t (0, 0))) (cut_set _ _ _ _ _ fun j _ => ?_))
  by_cases hj : j = i <;> simp [hj]
theorem StateAt.set {w : World} {b : Nat} {s s' : SS} (h : StateAt w b s) (i : Nat) (v : Value) (hs : ∀ j, j < 74 → s'.cell j = if j = i then v else s.cell j) : StateAt (w.setCell ⟨b, i, none⟩ v) b s' := by
  have h1 := heap_setCell_same w b i _ _ v h
  exact h1.trans (congrArg (fun c => some (Obj.cells c 170 (0, 0))) (cut_set _ _ _ _ _ hs))

/-- The words of a block. -/
def be4 (a b c d : UInt8) : UInt32 := UInt32.ofNat (a.toNat * 16777216 + b.toNat * 65536 + c.toNat * 256 + d.toNat)
def sch (x16 x15 x7 x2 : UInt32) : UInt32 := wadd (wadd (wadd x16 (wxor (wxor (rotr x15 7) (rotr x15 18)) (shr x15 3))) x7) (wxor (wxor (rotr x2 17) (rotr x2 19)) (shr x2 10))
def sched (p : Nat → UInt8) : Nat → UInt32
  | t => if h : t < 16 then be4 (p (4 * t)) (p (4 * t + 1)) (p (4 * t + 2)) (p (4 * t + 3))
    else sch (sched p (t - 16)) (sched p (t - 15)) (sched p (t - 7)) (sched p (t - 2))

theorem bits_or_nat (m n : Nat) (hm : m < 4294967296) (hn : n < 4294967296) : bits .or .u32 (m : Int) (n : Int) = ((m ||| n : Nat) : Int) := by
  have h1 := u_or (UInt32.ofNat m) (UInt32.ofNat n)
  rw [UInt32.toNat_or, UInt32.toNat_ofNat', UInt32.toNat_ofNat', Nat.mod_eq_of_lt hm, Nat.mod_eq_of_lt hn] at h1
  exact h1
theorem be4_nat (a b c d : Nat) (hb : b < 256) (hc : c < 256) (hd : d < 256) : ((a * 16777216 ||| b * 65536) ||| c * 256) ||| d = a * 16777216 + b * 65536 + c * 256 + d := by
  have e1 : c * 256 ||| d = c * 256 + d := by
    have := Nat.two_pow_add_eq_or_of_lt (i := 8) (b := d) (by omega) c
    rw [Nat.mul_comm] at this; exact this.symm
  have e2 : b * 65536 ||| (c * 256 + d) = b * 65536 + (c * 256 + d) := by
    have := Nat.two_pow_add_eq_or_of_lt (i := 16) (b := c * 256 + d) (by omega) b
    rw [Nat.mul_comm] at this; exact this.symm
  have e3 : a * 16777216 ||| (b * 65536 + (c * 256 + d)) = a * 16777216 + (b * 65536 + (c * 256 + d)) := by
    have := Nat.two_pow_add_eq_or_of_lt (i := 24) (b := b * 65536 + (c * 256 + d)) (by omega) a
    rw [Nat.mul_comm] at this; exact this.symm
  rw [Nat.or_assoc, Nat.or_assoc, e1, e2, e3]; omega
theorem wrap_mul (n m : Nat) (h : n * m < 4294967296) : IntKind.u32.wrap ((n : Int) * (m : Int)) = ((n * m : Nat) : Int) := by
  rw [← Int.natCast_mul]; exact wrap_lt _ h

theorem be4_eq (a b c d : UInt8) : bits .or .u32 (bits .or .u32 (bits .or .u32 (IntKind.u32.wrap (IntKind.u32.wrap (a.toNat : Int) * 16777216)) (IntKind.u32.wrap (IntKind.u32.wrap (b.toNat : Int) * 65536))) (IntKind.u32.wrap (IntKind.u32.wrap (c.toNat : Int) * 256))) (IntKind.u32.wrap (d.toNat : Int)) = ((be4 a b c d).toNat : Int) := by
  have ha := a.toNat_lt
  have hb := b.toNat_lt
  have hc := c.toNat_lt
  have hd := d.toNat_lt
  unfold be4
  generalize a.toNat = a at *
  generalize b.toNat = b at *
  generalize c.toNat = c at *
  generalize d.toNat = d at *
  have hbd := be4_nat a b c d hb hc hd
  have o1 : a * 16777216 ||| b * 65536 < 4294967296 := Nat.or_lt_two_pow (n := 32) (by omega) (by omega)
  have o2 : (a * 16777216 ||| b * 65536) ||| c * 256 < 4294967296 := Nat.or_lt_two_pow (n := 32) o1 (by omega)
  rw [wrap_lt a (by omega), wrap_lt b (by omega), wrap_lt c (by omega), wrap_lt d (by omega)]
  have w1 := wrap_mul a 16777216 (by omega)
  have w2 := wrap_mul b 65536 (by omega)
  have w3 := wrap_mul c 256 (by omega)
  rw [show ((16777216 : Nat) : Int) = 16777216 from rfl] at w1
  rw [show ((65536 : Nat) : Int) = 65536 from rfl] at w2
  rw [show ((256 : Nat) : Int) = 256 from rfl] at w3
  rw [w1, w2, w3, bits_or_nat _ _ (by omega) (by omega), bits_or_nat _ _ o1 (by omega), bits_or_nat _ _ o2 (by omega), hbd, UInt32.toNat_ofNat', Nat.mod_eq_of_lt (by omega)]

theorem sched_small (p : Nat → UInt8) (k : Nat) (h : k < 16) : sched p k = be4 (p (4 * k)) (p (4 * k + 1)) (p (4 * k + 2)) (p (4 * k + 3)) := by
  rw [sched, dif_pos h]
theorem sched_big (p : Nat → UInt8) (k : Nat) (h : ¬ k < 16) : sched p k = sch (sched p (k - 16)) (sched p (k - 15)) (sched p (k - 7)) (sched p (k - 2)) := by
  rw [sched, dif_neg h]

/-- Eight words, and a round. -/
structure V8 where
  a : UInt32
  b : UInt32
  c : UInt32
  d : UInt32
  e : UInt32
  f : UInt32
  g : UInt32
  h : UInt32
def V8.get (v : V8) : Nat → UInt32
  | 0 => v.a
  | 1 => v.b
  | 2 => v.c
  | 3 => v.d
  | 4 => v.e
  | 5 => v.f
  | 6 => v.g
  | _ => v.h
def V8.of (f : Nat → UInt32) : V8 := ⟨f 0, f 1, f 2, f 3, f 4, f 5, f 6, f 7⟩
def V8.x (v : V8) (k w : UInt32) : UInt32 := wadd (wadd (wadd (wadd v.h (wxor (wxor (rotr v.e 6) (rotr v.e 11)) (rotr v.e 25))) (wxor (wand v.e v.f) (wand (wnot v.e) v.g))) k) w
def V8.y (v : V8) : UInt32 := wadd (wxor (wxor (rotr v.a 2) (rotr v.a 13)) (rotr v.a 22)) (wxor (wxor (wand v.a v.b) (wand v.a v.c)) (wand v.b v.c))
def V8.rnd (v : V8) (k w : UInt32) : V8 := ⟨wadd (v.x k w) v.y, v.a, v.b, v.c, wadd v.d (v.x k w), v.e, v.f, v.g⟩
def rounds (p : Nat → UInt8) (v : V8) : Nat → V8
  | 0 => v
  | t + 1 => (rounds p v t).rnd (rootL.getD t 0) (sched p t)
/-- A block is digested: the first k words are written back. -/
def SS.back (s : SS) (k : Nat) : SS := { s with wd := fun i => if i < k then wadd (s.wd i) ((rounds s.rs (V8.of s.wd) 64).get i) else s.wd i }
def SS.block (s : SS) : SS := s.back 8
theorem SS.back_cell (s : SS) (k : Nat) (hk : k < 8) : ∀ j, j < 74 → (s.back (k + 1)).cell j = if j = k then wv (wadd (s.wd k) ((rounds s.rs (V8.of s.wd) 64).get k)) else (s.back k).cell j := by
  intro j _
  by_cases h : j = k
  · subst h
    simp [SS.cell, SS.back, hk]
  · rw [if_neg h]
    unfold SS.cell SS.back
    dsimp only
    have : j < k + 1 ↔ j < k := by omega
    simp only [this]

theorem words_eq {f g : Nat → UInt32} {n : Nat} (h : ∀ i, i < n → f i = g i) : cut (fun i => wv (f i)) 0 n = cut (fun i => wv (g i)) 0 n := by
  unfold cut
  congr 1
  refine List.map_congr_left fun j hj => ?_
  show wv (f (0 + j)) = wv (g (0 + j))
  rw [Nat.zero_add, h j (List.mem_range.1 hj)]
theorem words_one (f : Nat → UInt32) (n : Nat) : (cut (fun i => wv (f i)) 0 n).all (·.oneCell') = true := cut_one _ _ _ (fun _ _ => rfl)
theorem of_get (f : Nat → UInt32) (i : Nat) (h : i < 8) : (V8.of f).get i = f i := by
  match i, h with
  | 0, _ => rfl
  | 1, _ => rfl
  | 2, _ => rfl
  | 3, _ => rfl
  | 4, _ => rfl
  | 5, _ => rfl
  | 6, _ => rfl
  | 7, _ => rfl

end Go.Proofs.YtfdhpjflkimihaaDoor
