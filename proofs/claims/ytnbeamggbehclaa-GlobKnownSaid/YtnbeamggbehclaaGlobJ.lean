/- The elements of a pattern in memory. No conditions beyond those that each statement types. -/
import Derived.Test.YtnbeamggbehclaaGlobI
namespace Go.Proofs.Ytnbeamggbehclaa
open Go.RowKit

def evs (us : List (Value × El)) : List Value := us.flatMap fun p => [p.1, .bool p.2.many]
theorem evs_cons (r : Value × El) (l : List (Value × El)) : evs (r :: l) = r.1 :: .bool r.2.many :: evs l := rfl
theorem evs_append (a b : List (Value × El)) : evs (a ++ b) = evs a ++ evs b := by simp [evs]
theorem evs_length (l : List (Value × El)) : (evs l).length = l.length * 2 := by
  induction l with
  | nil => rfl
  | cons r l ih => rw [evs_cons]; simp only [List.length_cons, ih]; omega
theorem evs_at : ∀ {l : List (Value × El)} {i : Nat} {r : Value × El}, l[i]? = some r → (evs l)[i * 2]? = some r.1 ∧ (evs l)[i * 2 + 1]? = some (.bool r.2.many)
  | [], i, n, h => by simp at h
  | x :: l, 0, n, h => by
    simp only [List.getElem?_cons_zero, Option.some.injEq] at h
    subst h
    exact ⟨rfl, rfl⟩
  | x :: l, i + 1, n, h => by
    rw [List.getElem?_cons_succ] at h
    have := evs_at h
    rw [evs_cons, show (i + 1) * 2 = i * 2 + 1 + 1 by omega]
    exact this

theorem src_one_el {wr : World} {f : Value} {x : El} : Src (wr.alloc (Obj.cells #[f, .bool x.many] 48)) (some ⟨wr.heap.size, 0, none⟩) (evs [(f, x)]) := by
  have hnx := heap_alloc_new wr (Obj.cells #[f, .bool x.many] 48)
  refine ⟨fun h => by (cases h), fun q hq j u hu => ?_⟩
  cases hq
  rw [addr_add0, cell_of_row _ _ _ _ _ _ hnx]
  have e : evs [(f, x)] = [f, .bool x.many] := rfl
  rw [e] at hu
  simpa using hu
theorem Try.infoEl3 : (Try.prog.info? 48).map (fun i => (i.zero, i.size, i.bytes)) = some (some (.agg #[Value.nilFunc, .bool false]), 2, 16) := by kernel_rfl

/-- A pattern that is being made. -/
structure Prs (w wr : World) (b : Nat) (ps : PS) (a : Option Addr) (n c : Nat) (us : List (Value × El)) : Prop where
  p : PatAt wr b { ps with ev := .slice a n c }
  own : wr.ownsRow 0 48 2 (.slice a n c) n (evs us)
  new : ∀ k, (Value.slice a n c).ownBlock = some k → b < k
  len : us.length = n
  clo : ∀ p ∈ us, ∃ lo hi, b < lo ∧ hi ≤ wr.heap.size ∧ (∀ k, (Value.slice a n c).ownBlock = some k → k < lo ∨ hi ≤ k) ∧ ∀ fold, CloAt wr b lo hi fold p.1 (p.2.holds fold)
  chg : Chg [] w wr
  size : w.heap.size ≤ b

theorem Prs.chg0 {w wr w2 : World} {b n c : Nat} {ps : PS} {a : Option Addr} {us : List (Value × El)} (H : Prs w wr b ps a n c us) (C : Chg [] wr w2) : Prs w w2 b ps a n c us :=
  ⟨H.p.chg C (by simp), ownsRow_chg H.own C (by simp), H.new, H.len, fun p hp => by
    obtain ⟨lo, hi, h1, h2, h3, h4⟩ := H.clo p hp
    exact ⟨lo, hi, h1, Nat.le_trans h2 C.size, h3, fun fold => (h4 fold).chg C (by simp)⟩, H.chg.trans C (by simp), H.size⟩

theorem Prs.row5 {w wr w4 w5 : World} {b n c : Nat} {ps : PS} {a : Option Addr} {us : List (Value × El)} (H : Prs w wr b ps a n c us) (C4 : Chg [] wr w4) (hgr : w4.grownBy w5 (Value.slice a n c).ownBlock) :
    PatAt w5 b { ps with ev := .slice a n c } ∧ Chg (Value.slice a n c).ownBlock.toList w4 w5 := by
  have CG := Chg.grown hgr (S := (Value.slice a n c).ownBlock.toList) (fun k hk => .inl (by simp [hk]))
  exact ⟨(H.p.chg C4 (by simp)).chg CG (fun hm => by have := H.new b (by simpa using hm); omega), CG⟩

theorem Prs.push {w wr w2 w4 w5 : World} {b n c c' : Nat} {ps : PS} {a ao' : Option Addr} {us : List (Value × El)} {u : Value} {x : El} (H : Prs w wr b ps a n c us) (C2 : Chg [] wr w2) (C4 : Chg [] w2 w4)
    (hclo : ∀ fold, CloAt w2 b wr.heap.size w2.heap.size fold u (x.holds fold)) (hgr : w4.grownBy w5 (Value.slice a n c).ownBlock)
    (hown : w5.ownsRow 0 48 2 (.slice ao' (n + 1) c') (n + 1) (evs us ++ evs [(u, x)])) (hblk : (Value.slice ao' (n + 1) c').ownBlock = (Value.slice a n c).ownBlock ∨ (Value.slice ao' (n + 1) c').ownBlock = some w4.heap.size) :
    Prs w (w5.setCell ⟨b, 5, none⟩ (.slice ao' (n + 1) c')) b ps ao' (n + 1) c' (us ++ [(u, x)]) := by
  obtain ⟨hp5, CG⟩ := H.row5 (C2.trans C4 (by simp)) hgr
  have hl := H.p.lt
  have hlt := ownsRow_lt H.own
  have s2 := C2.size
  have s4 := C4.size
  have s5 := CG.size
  have CS : Chg [b] w5 (w5.setCell ⟨b, 5, none⟩ (.slice ao' (n + 1) c')) := Chg.setCell _ _ _ (.inl (by simp))
  have s6 := CS.size
  have hnew : ∀ k, (Value.slice ao' (n + 1) c').ownBlock = some k → b < k ∧ ((Value.slice a n c).ownBlock = some k ∨ k = w4.heap.size) := by
    intro k hk
    rcases hblk with h1 | h1 <;> rw [h1] at hk
    · exact ⟨H.new k hk, .inl hk⟩
    · have := Option.some.inj hk
      exact ⟨by omega, .inr this.symm⟩
  have CT : Chg (b :: (Value.slice a n c).ownBlock.toList) w4 (w5.setCell ⟨b, 5, none⟩ (.slice ao' (n + 1) c')) :=
    (CG.mono (fun k hk => by simp [hk])).trans CS (fun k hk => .inl (by simp at hk; simp [hk]))
  refine ⟨hp5.setEv _, ?_, fun k hk => (hnew k hk).1, by rw [List.length_append, H.len]; rfl, fun p hp => ?_, ?_, H.size⟩
  · rw [evs_append]
    exact ownsRow_chg hown CS (fun k hk hm => by have := (hnew k hk).1; simp at hm; omega)
  · rcases List.mem_append.1 hp with hp | hp
    · obtain ⟨lo, hi, h1, h2, h3, h4⟩ := H.clo p hp
      refine ⟨lo, hi, h1, by omega, fun k hk => ?_, fun fold => ((h4 fold).chg (C2.trans C4 (by simp)) (by simp)).chg CT (fun k hk => ?_)⟩
      · rcases (hnew k hk).2 with h | h
        · exact h3 k h
        · omega
      · rcases List.mem_cons.1 hk with h | h
        · omega
        · exact h3 k (by simpa using h)
    · simp only [List.mem_singleton] at hp
      subst hp
      refine ⟨wr.heap.size, w2.heap.size, hl, by omega, fun k hk => ?_, fun fold => ((hclo fold).chg C4 (by simp)).chg CT (fun k hk => ?_)⟩
      · rcases (hnew k hk).2 with h | h
        · exact .inl (hlt k h)
        · omega
      · rcases List.mem_cons.1 hk with h | h
        · omega
        · exact .inl (hlt k (by simpa using h))
  · exact (H.chg.trans (C2.trans C4 (by simp)) (by simp)).trans CT (fun k hk => by
      right
      have := H.size
      rcases List.mem_cons.1 hk with h | h
      · omega
      · have := H.new k (by simpa using h); omega)

/-- A pattern in memory: its fields, its elements. -/
def PatIs (w : World) (b : Nat) (s : ByteArray) (m : Mk) (root : Bool) (els : List El) : Prop :=
  ∃ (a : Option Addr) (n c : Nat) (us : List (Value × El)), PatAt w b ⟨s, m.neg, m.del, m.fold, root, .slice a n c⟩ ∧ w.ownsRow 0 48 2 (.slice a n c) n (evs us) ∧ us.length = n ∧ us.map (·.2) = els ∧
    ∀ p ∈ us, ∃ lo hi, CloAt w b lo hi m.fold p.1 (p.2.holds m.fold)
theorem PatIs.chg {w w' : World} {b : Nat} {s : ByteArray} {m : Mk} {root : Bool} {els : List El} (H : PatIs w b s m root els) (C : Chg [] w w') : PatIs w' b s m root els := by
  obtain ⟨a, n, c, us, h1, h2, h3, h4, h5⟩ := H
  exact ⟨a, n, c, us, h1.chg C (by simp), ownsRow_chg h2 C (by simp), h3, h4, fun p hp => by
    obtain ⟨lo, hi, h⟩ := h5 p hp
    exact ⟨lo, hi, h.chg C (by simp)⟩⟩

/-- What Parse hands back. -/
def Parsed (w : World) (s : ByteArray) (r : Said) (e : Ending) (w' : World) : Prop :=
  Chg [] w w' ∧ match r with
    | .long => e = .returned (.tuple #[.pointer none, .int .i64 3])
    | .form => e = .returned (.tuple #[.pointer none, .int .i64 4])
    | .pat m root els => ∃ b, e = .returned (.tuple #[.pointer (some ⟨b, 0, none⟩), .int .i64 0]) ∧ PatIs w' b s m root els

theorem Prs.is {w wr : World} {b n c : Nat} {s : ByteArray} {m : Mk} {root : Bool} {v : Value} {a : Option Addr} {us : List (Value × El)} (H : Prs w wr b ⟨s, m.neg, m.del, m.fold, root, v⟩ a n c us) : PatIs wr b s m root (us.map (·.2)) :=
  ⟨a, n, c, us, H.p, H.own, H.len, rfl, fun p hp => by
    obtain ⟨lo, hi, _, _, _, h⟩ := H.clo p hp
    exact ⟨lo, hi, h m.fold⟩⟩

theorem marksF_len : ∀ (k : Nat) (l : List UInt8) (m m' : Mk) (r : List UInt8), marksF k l m = some (m', r) → r.length ≤ l.length
  | 0, l, m, m', r, h => by cases h; exact Nat.le_refl _
  | k + 1, l, m, m', r, h => by
    rw [marksF] at h
    cases hm : mark1 l with
    | none => rw [hm] at h; cases h; exact Nat.le_refl _
    | some x =>
      obtain ⟨d, n⟩ := x
      rw [hm] at h
      simp only at h
      split at h
      · cases h
      · have := marksF_len k _ _ _ _ h
        rw [List.length_drop] at this
        omega
end Go.Proofs.Ytnbeamggbehclaa
