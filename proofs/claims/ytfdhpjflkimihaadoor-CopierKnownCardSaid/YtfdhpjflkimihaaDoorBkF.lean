/- The finder: files by names, places by digests, and how it lies in memory; NewFinder, is and Len, walked. No conditions beyond those that each statement types. -/
import Derived.Test.YtfdhpjflkimihaaDoorBkK
import Derived.Test.YtfdhpjflkimihaaDoorBkL
namespace Go.Proofs.YtfdhpjflkimihaaDoor
open Go.RowKit

/-- Places as cells. -/
def plvs (ps : List (ByteArray × Nat)) : List Value := ps.flatMap fun p => [.string p.1, .int .i64 p.2]
theorem plvs_append (a b : List (ByteArray × Nat)) : plvs (a ++ b) = plvs a ++ plvs b := by simp [plvs]
theorem plvs_cons (p : ByteArray × Nat) (l : List (ByteArray × Nat)) : plvs (p :: l) = .string p.1 :: .int .i64 p.2 :: plvs l := rfl
theorem plvs_length (l : List (ByteArray × Nat)) : (plvs l).length = l.length * 2 := by
  induction l with
  | nil => rfl
  | cons p l ih => rw [plvs_cons, List.length_cons, List.length_cons, ih, List.length_cons]; omega
theorem plvs_one (l : List (ByteArray × Nat)) : ∀ u ∈ plvs l, u.oneCell' = true := by
  intro u hu
  obtain ⟨p, _, h⟩ := List.mem_flatMap.1 hu
  simp at h
  rcases h with rfl | rfl <;> rfl
theorem plvs_at : ∀ {l : List (ByteArray × Nat)} {i : Nat} {p : ByteArray × Nat}, l[i]? = some p → (plvs l)[i * 2]? = some (.string p.1) ∧ (plvs l)[i * 2 + 1]? = some (.int .i64 p.2)
  | [], i, p, h => by simp at h
  | q :: l, 0, p, h => by
    simp at h
    subst h
    exact ⟨rfl, rfl⟩
  | q :: l, i + 1, p, h => by
    have := plvs_at (l := l) (i := i) (p := p) (by simpa using h)
    rw [plvs_cons, show (i + 1) * 2 = i * 2 + 1 + 1 by omega]
    exact this

abbrev Files := List (ByteArray × List UInt8)
def keysL (d : List UInt8) : List HKey := (listL d).map hkey
/-- Where a digest stands in a file, and in all. -/
def occTo (nm : ByteArray) (ks : List HKey) (h : HKey) : Nat → List (ByteArray × Nat)
  | 0 => []
  | i + 1 => occTo nm ks h i ++ if ks[i]? = some h then [(nm, i)] else []
def occ1 (nm : ByteArray) (d : List UInt8) (h : HKey) : List (ByteArray × Nat) := occTo nm (keysL d) h (keysL d).length
def occ (F : Files) (h : HKey) : List (ByteArray × Nat) := F.flatMap fun p => occ1 p.1 p.2 h

def FVal (w : World) (v : Value) (d : List UInt8) : Prop := ∃ ao c, v = .slice ao d.length c ∧ w.ownsRow 0 5 1 (.slice ao d.length c) d.length (bvs d)
def PVal (w : World) (v : Value) (ps : List (ByteArray × Nat)) : Prop := ∃ ao c, v = .slice ao ps.length c ∧ w.ownsRow 0 57 2 (.slice ao ps.length c) ps.length (plvs ps)
theorem FVal.chg {w w' : World} {v : Value} {d : List UInt8} {T : List Nat} (h : FVal w v d) (C : Chg T w w') (hT : ∀ k, v.ownBlock = some k → k ∉ T) : FVal w' v d := by
  obtain ⟨ao, c, rfl, ho⟩ := h
  exact ⟨ao, c, rfl, ownsRow_chg ho C hT⟩
theorem PVal.chg {w w' : World} {v : Value} {d : List (ByteArray × Nat)} {T : List Nat} (h : PVal w v d) (C : Chg T w w') (hT : ∀ k, v.ownBlock = some k → k ∉ T) : PVal w' v d := by
  obtain ⟨ao, c, rfl, ho⟩ := h
  exact ⟨ao, c, rfl, ownsRow_chg ho C hT⟩

/-- A finder in memory: its files, what stands of each digest, its blocks. -/
structure FinderIs (w : World) (b bf bp : Nat) (F : Files) (G : HKey → List (ByteArray × Nat)) (fv : List (ByteArray × Value)) (pv : List (HKey × Value)) (S : List Nat) : Prop where
  head : w.heap[b]? = some (.cells #[.map (some bf), .map (some bp)] 69 (0, 0))
  files : MapAt (fun s : ByteArray => Value.string s) w bf fv
  places : MapAt hkV w bp pv
  names : fv.map (·.1) = F.map (·.1)
  fval : ∀ (i : Nat) p q, fv[i]? = some p → F[i]? = some q → FVal w p.2 q.2
  keys : (pv.map (·.1)).Nodup
  pval : ∀ p ∈ pv, PVal w p.2 (G p.1)
  has : ∀ k, G k ≠ [] → k ∈ pv.map (·.1)
  ne : bf ≠ bp
  fb : b ∈ S
  ff : bf ∈ S
  fp : bp ∈ S
  fo : ∀ p ∈ fv, ∀ k, p.2.ownBlock = some k → k ∈ S
  po : ∀ p ∈ pv, ∀ k, p.2.ownBlock = some k → k ∈ S
  apart : ∀ p ∈ pv, ∀ q ∈ pv, p.1 ≠ q.1 → ∀ k, p.2.ownBlock = some k → q.2.ownBlock ≠ some k
  lt : ∀ k ∈ S, k < w.heap.size
theorem FinderIs.chg {w w' : World} {b bf bp : Nat} {F : Files} {G : HKey → List (ByteArray × Nat)} {fv : List (ByteArray × Value)} {pv : List (HKey × Value)} {S T : List Nat} (H : FinderIs w b bf bp F G fv pv S) (C : Chg T w w') (hT : ∀ k ∈ S, k ∉ T) : FinderIs w' b bf bp F G fv pv S :=
  ⟨(C.block _ (lt_of_block H.head) (hT _ H.fb)).trans H.head, H.files.chg C (hT _ H.ff), H.places.chg C (hT _ H.fp), H.names, fun i p q hp hq => (H.fval i p q hp hq).chg C (fun k hk => hT _ (H.fo p (List.mem_of_getElem? hp) k hk)), H.keys, fun p hp => (H.pval p hp).chg C (fun k hk => hT _ (H.po p hp k hk)), H.has, H.ne, H.fb, H.ff, H.fp, H.fo, H.po, H.apart, fun k hk => Nat.lt_of_lt_of_le (H.lt k hk) C.size⟩
/-- A finder that has files, each of at most 4096 bytes and each name once. -/
def FinderAt (w : World) (b : Nat) (F : Files) (S : List Nat) : Prop :=
  (F.map (·.1)).Nodup ∧ (∀ p ∈ F, p.2.length ≤ 4096) ∧ ∃ bf bp fv pv, FinderIs w b bf bp F (occ F) fv pv S ∧ ∀ p ∈ pv, occ F p.1 ≠ []
theorem FinderAt.chg {w w' : World} {b : Nat} {F : Files} {S T : List Nat} (H : FinderAt w b F S) (C : Chg T w w') (hT : ∀ k ∈ S, k ∉ T) : FinderAt w' b F S := by
  obtain ⟨h1, h2, bf, bp, fv, pv, h3, h4⟩ := H
  exact ⟨h1, h2, bf, bp, fv, pv, h3.chg C hT, h4⟩
/-- What NewFinder hands back. -/
def NewF (w : World) (e : Ending) (w' : World) : Prop := ∃ b S, e = .returned (.pointer (some ⟨b, 0, none⟩)) ∧ FinderAt w' b [] S ∧ (∀ k ∈ S, w.heap.size ≤ k) ∧ Chg [] w w'
theorem blk_new (w : World) : Calls Tryd.prog 27 #[] w (NewF w) := by
  have hmm := @run_makeMap Tryd.prog
  have C1 := Chg.alloc [] w (.map #[] 0)
  have C2 := Chg.alloc [] (w.alloc (.map #[] 0)) (.map #[] 0)
  have m1 := (mapAt_made (enc := fun s : ByteArray => Value.string s) w).chg C2 (by simp)
  have m2 := mapAt_made (enc := hkV) (w.alloc (.map #[] 0))
  have T2 := C1.trans C2 (by simp)
  have hs : ((w.alloc (.map #[] 0)).alloc (.map #[] 0)).heap.size = w.heap.size + 2 := by simp
  have hs1 : (w.alloc (.map #[] 0)).heap.size = w.heap.size + 1 := by simp
  rw [hs1] at m2
  go_enter Tryd.func27, Tryd.ntmps27
  go_wp2_with fail
  have C3 := Chg.alloc [] ((w.alloc (.map #[] 0)).alloc (.map #[] 0)) (.cells #[.map (some w.heap.size), .map (some (w.heap.size + 1))] 69)
  have hx := heap_alloc_new ((w.alloc (.map #[] 0)).alloc (.map #[] 0)) (.cells #[.map (some w.heap.size), .map (some (w.heap.size + 1))] 69)
  rw [hs] at hx
  have m3 := m1.chg C3 (by simp)
  have m4 := m2.chg C3 (by simp)
  have T3 := T2.trans C3 (by simp)
  have hs3 : (((w.alloc (.map #[] 0)).alloc (.map #[] 0)).alloc (.cells #[.map (some w.heap.size), .map (some (w.heap.size + 1))] 69)).heap.size = w.heap.size + 3 := by simp
  generalize ((w.alloc (.map #[] 0)).alloc (.map #[] 0)).alloc (.cells #[.map (some w.heap.size), .map (some (w.heap.size + 1))] 69) = w3 at *
  clear C1 C2 C3 m1 m2 T2 hs hs1 hmm
  go_ret
  refine ⟨w.heap.size + 2, [w.heap.size, w.heap.size + 1, w.heap.size + 2], rfl, ⟨by simp, by simp, w.heap.size, w.heap.size + 1, [], [], ⟨hx, m3, m4, rfl, by simp, by simp, by simp, fun k hk => absurd rfl hk, by omega, by simp, by simp, by simp, by simp, by simp, by simp, fun k hk => ?_⟩, by simp⟩, fun k hk => ?_, T3⟩
  · simp at hk; omega
  · simp at hk; omega
theorem blk_is_nil (w : World) : Calls Tryd.prog 65 #[.pointer none] w fun e w' => e = .returned (.bool false) ∧ w = w' := by
  go_enter Tryd.func65, Tryd.ntmps65
  go_wp2_with fail
  go_ret
  exact ⟨rfl, rfl⟩
theorem blk_is_map (b : Nat) (r : Option Nat) (w : World) (h : w.cell? ⟨b, 0, none⟩ = some (.map r)) : Calls Tryd.prog 65 #[.pointer (some ⟨b, 0, none⟩)] w fun e w' => e = .returned (.bool r.isSome) ∧ w = w' := by
  have hq : ∀ w, (binOp .neq 66 (.map r) (.map none)).run Tryd.prog w = .ok (.bool r.isSome) w := fun w => by
    cases r <;> kernel_rfl
  go_enter Tryd.func65, Tryd.ntmps65
  go_wp2_with fail
  go_ret
  exact ⟨rfl, rfl⟩
theorem FinderIs.map {w : World} {b bf bp : Nat} {F : Files} {G : HKey → List (ByteArray × Nat)} {fv : List (ByteArray × Value)} {pv : List (HKey × Value)} {S : List Nat} (H : FinderIs w b bf bp F G fv pv S) : w.cell? ⟨b, 0, none⟩ = some (.map (some bf)) ∧ w.cell? ⟨b, 1, none⟩ = some (.map (some bp)) := by
  refine ⟨?_, ?_⟩ <;> (rw [cell_of_row _ _ _ _ _ _ H.head]; rfl)
end Go.Proofs.YtfdhpjflkimihaaDoor
