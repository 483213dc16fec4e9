/- Which files a finder has behind acts: those of the last acts of each name; what is found of their blocks. Plain; no conditions beyond those that each statement types. -/
import Derived.Test.YtfdhpjflkimihaaDoorBkFk
namespace Go.Proofs.YtfdhpjflkimihaaDoor
open Go.RowKit

def shortA (a : ActV) : Bool := decide (a.long ≤ 4096)
theorem data_length (a : ActV) : a.data.length = min a.long.toNat 5000 := by rw [ActV.data, ActV.upto_length]; rfl
theorem shortA_iff (a : ActV) : shortA a = true ↔ a.data.length ≤ 4096 := by
  rw [data_length]
  unfold shortA
  rw [decide_eq_true_iff]
  omega
def fileA (a : ActV) : ByteArray × List UInt8 := (a.name, a.data)
def putA (F : Files) (a : ActV) : Files := if shortA a then Fadd F a.name a.data else F
def filesA (A : List ActV) : Files := A.foldl putA []
/-- Does one of these put a file of this name? -/
def laterA (r : List ActV) (nm : ByteArray) : Bool := r.any fun b => decide (b.name = nm) && shortA b
def keepA (r : List ActV) (a : ActV) : Bool := !laterA r a.name && shortA a
/-- The last act of each name. -/
def lastA : List ActV → List ActV
  | [] => []
  | a :: r => if keepA r a then a :: lastA r else lastA r
theorem laterA_cons (a : ActV) (r : List ActV) (nm : ByteArray) : laterA (a :: r) nm = ((decide (a.name = nm) && shortA a) || laterA r nm) := by unfold laterA; rw [List.any_cons]
theorem foldl_putA : ∀ (A : List ActV) (F : Files), A.foldl putA F = (F.filter fun p => !laterA A p.1) ++ (lastA A).map fileA
  | [], F => by
    have : (fun p : ByteArray × List UInt8 => !laterA [] p.1) = fun _ => true := rfl
    rw [this, List.filter_eq_self.2 (fun _ _ => rfl)]
    simp [lastA]
  | a :: r, F => by
    rw [List.foldl_cons, foldl_putA r, lastA]
    unfold putA keepA
    cases hs : shortA a with
    | false =>
      have : (fun p : ByteArray × List UInt8 => !laterA (a :: r) p.1) = fun p => !laterA r p.1 := by funext p; rw [laterA_cons, hs]; simp
      rw [this]
      simp
    | true =>
      have h1 : (fun p : ByteArray × List UInt8 => !laterA (a :: r) p.1) = fun p => !laterA r p.1 && !decide (p.1 = a.name) := by
        funext p
        rw [laterA_cons, hs, Bool.and_true, Bool.not_or, Bool.and_comm]
        congr 2
        rw [decide_eq_decide]
        exact ⟨fun h => h.symm, fun h => h.symm⟩
      rw [h1, if_pos rfl, Fadd, List.filter_append, Fdel, List.filter_filter, Bool.and_true]
      cases hl : laterA r a.name with
      | true => simp [hl]
      | false => simp [hl, fileA]
theorem filesA_last (A : List ActV) : filesA A = (lastA A).map fileA := by
  unfold filesA
  rw [foldl_putA]
  rfl
theorem filesA_succ {A : List ActV} {i : Nat} {a : ActV} (h : A[i]? = some a) : filesA (A.take (i + 1)) = putA (filesA (A.take i)) a := by
  unfold filesA
  rw [take_nextE h, List.foldl_append]
  rfl
theorem putA_nodup {F : Files} (h : (F.map (·.1)).Nodup) (a : ActV) : ((putA F a).map (·.1)).Nodup := by
  unfold putA
  split
  · exact (Fadd_nodup h).1
  · exact h
theorem filesA_nodup (A : List ActV) : ((filesA A).map (·.1)).Nodup := by
  unfold filesA
  suffices ∀ F : Files, (F.map (·.1)).Nodup → ((A.foldl putA F).map (·.1)).Nodup from this [] (by simp)
  induction A with
  | nil => exact fun _ h => h
  | cons a r ih => exact fun F h => ih _ (putA_nodup h a)
theorem putA_len (F : Files) (a : ActV) : (putA F a).length ≤ F.length + 1 := by
  unfold putA
  split
  · exact Fadd_len F _ _
  · exact Nat.le_succ _
theorem lastA_drop {A : List ActV} {i : Nat} {a : ActV} (h : A[i]? = some a) : lastA (A.drop i) = (if keepA (A.drop (i + 1)) a then [a] else []) ++ lastA (A.drop (i + 1)) := by
  obtain ⟨hlt, e⟩ := List.getElem?_eq_some_iff.1 h
  rw [List.drop_eq_getElem_cons hlt, e, lastA]
  split <;> rfl
theorem lastA_len (A : List ActV) : (lastA A).length ≤ A.length := by
  induction A with
  | nil => exact Nat.le_refl _
  | cons a r ih =>
    unfold lastA
    split
    · exact Nat.succ_le_succ ih
    · exact Nat.le_succ_of_le ih
theorem lastA_mem {A : List ActV} {a : ActV} (h : a ∈ lastA A) : a ∈ A ∧ shortA a = true := by
  induction A with
  | nil => cases h
  | cons b r ih =>
    unfold lastA at h
    split at h
    · rename_i hk
      rcases List.mem_cons.1 h with rfl | h
      · unfold keepA at hk
        rw [Bool.and_eq_true] at hk
        exact ⟨List.mem_cons_self, hk.2⟩
      · exact ⟨List.mem_cons_of_mem _ (ih h).1, (ih h).2⟩
    · exact ⟨List.mem_cons_of_mem _ (ih h).1, (ih h).2⟩
/-- The other finder: the last acts, from behind. -/
def backA (l : List ActV) (i : Nat) : Files := ((l.drop i).map fileA).reverse
theorem backA_step {A : List ActV} {i : Nat} {a : ActV} (h : (lastA A)[i]? = some a) : Fadd (backA (lastA A) (i + 1)) a.name a.data = backA (lastA A) i := by
  obtain ⟨hlt, e⟩ := List.getElem?_eq_some_iff.1 h
  have hn := filesA_nodup A
  rw [filesA_last, List.map_map] at hn
  have hd : (((lastA A).drop i).map (fun a => a.name)).Nodup := by
    rw [List.map_drop]
    exact hn.sublist (List.drop_sublist _ _)
  rw [List.drop_eq_getElem_cons hlt, e, List.map_cons, List.nodup_cons] at hd
  unfold backA Fadd
  rw [Fdel_none, List.drop_eq_getElem_cons hlt, e, List.map_cons, List.reverse_cons]
  · rfl
  · intro hm
    apply hd.1
    rw [List.map_reverse, List.mem_reverse, List.map_map] at hm
    exact hm
theorem backA_zero (A : List ActV) : backA (lastA A) 0 = (filesA A).reverse := by rw [filesA_last]; rfl
theorem backA_nodup (A : List ActV) : ((backA (lastA A) 0).map (·.1)).Nodup := by
  rw [backA_zero, List.map_reverse]
  exact (List.reverse_perm _).nodup_iff.2 (filesA_nodup A)
theorem backA_find (A : List ActV) (k : HKey) : findL (backA (lastA A) 0) k = findL (filesA A) k :=
  (findL_congr (filesA_nodup A) (backA_nodup A) (fun p => by rw [backA_zero, List.mem_reverse]) k).symm
theorem backA_len (l : List ActV) (i : Nat) : (backA l i).length ≤ l.length := by unfold backA; simp
theorem pickP_some {l : List Pl} {p : Pl} (h : p ∈ l) : ∃ m, pickP l = some m ∧ m ∈ l ∧ ∀ x ∈ l, ¬ pll x m := by
  cases l with
  | nil => cases h
  | cons q r =>
    refine ⟨minTo q r r.length, rfl, minTo_mem q r _, fun x hx => minTo_least q r r.length (Nat.le_refl _) x ?_⟩
    rw [List.take_of_length_le (Nat.le_refl _)]
    exact hx
/-- A block of a file that the finder has is found; what is found has that digest, and its name is no later one. -/
theorem order_find {A : List ActV} {i k : Nat} {a : ActV} {f : Nat → UInt8} (h : (lastA A)[i]? = some a) (hk : (listL a.data)[k]? = some f) :
    ∃ m xs, findL (filesA A) (hkey f) = some (m, xs) ∧ ¬ a.name.toList < m.1.toList ∧ sameHash (digest xs) f = true := by
  have hF : (a.name, a.data) ∈ filesA A := by rw [filesA_last]; exact List.mem_map.2 ⟨a, List.mem_of_getElem? h, rfl⟩
  have hkk : (keysL a.data)[k]? = some (hkey f) := by rw [keysL, List.getElem?_map, hk]; rfl
  obtain ⟨m, hm, hmem, hleast⟩ := pickP_some ((occ_mem (x := (a.name, k))).2 ⟨_, hF, hkk⟩)
  obtain ⟨d', hd', hkd⟩ := occ_mem.1 hmem
  have hdF := dataF_mem (filesA_nodup A) hd'
  have hlt : m.2 < cntN d'.length := by
    have := (List.getElem?_eq_some_iff.1 hkd).1
    rwa [keysL_length] at this
  refine ⟨m, partZ (dataF (filesA A) m.1) m.2, by unfold findL; rw [hm]; rfl, fun hl => hleast _ ((occ_mem (x := (a.name, k))).2 ⟨_, hF, hkk⟩) (.inl hl), ?_⟩
  rw [sameHash_hkey, decide_eq_true_iff, hdF]
  rw [keysL, List.getElem?_map, listL, List.getElem?_map, partsL_get hlt] at hkd
  have : partZ d' m.2 = partL d' m.2 := by unfold partZ; rw [if_pos ⟨by omega, by simpa using hlt⟩]; rfl
  rw [this]
  simpa using hkd
end Go.Proofs.YtfdhpjflkimihaaDoor
