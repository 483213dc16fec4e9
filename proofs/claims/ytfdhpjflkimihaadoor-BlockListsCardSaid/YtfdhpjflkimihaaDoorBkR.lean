/- Maps as lists: what stands in one behind an update or a delete. Plain; no conditions beyond those that each statement types. -/
import Derived.Test.YtfdhpjflkimihaaDoorMap
namespace Go.Proofs.YtfdhpjflkimihaaDoor
open Go.RowKit

section
variable {κ : Type} [DecidableEq κ] {kvs : List (κ × Value)} {k : κ}
theorem midx_key {i : Nat} (h : midx kvs k = some i) : ∃ v, kvs[i]? = some (k, v) := by
  unfold midx kidx at h
  have := List.of_findIdx?_eq_some h
  rw [List.getElem?_map] at this
  cases hk : kvs[i]? with
  | none => rw [hk] at this; simp at this
  | some p =>
    rw [hk] at this
    simp at this
    obtain ⟨a, b⟩ := p
    simp at this
    exact ⟨b, by rw [this]⟩
theorem midx_none (h : midx kvs k = none) : ∀ p ∈ kvs, p.1 ≠ k := by
  unfold midx kidx at h
  rw [List.findIdx?_eq_none_iff] at h
  intro p hp hk
  have := h p.1 (List.mem_map_of_mem hp)
  simp [hk] at this
theorem mget_mem {v : Value} (h : mget kvs k = some v) : (k, v) ∈ kvs := by
  unfold mget at h
  cases hi : midx kvs k with
  | none => rw [hi] at h; simp at h
  | some i =>
    obtain ⟨u, hu⟩ := midx_key hi
    rw [hi, Option.bind_some, hu] at h
    simp at h
    subst h
    exact List.mem_of_getElem? hu
theorem mget_none (h : mget kvs k = none) : ∀ p ∈ kvs, p.1 ≠ k := by
  unfold mget at h
  cases hi : midx kvs k with
  | none => exact midx_none hi
  | some i =>
    obtain ⟨u, hu⟩ := midx_key hi
    rw [hi, Option.bind_some, hu] at h
    simp at h
omit [DecidableEq κ] in
theorem key_at {i j : Nat} {u v : Value} (hn : (kvs.map (·.1)).Nodup) (h : kvs[i]? = some (k, u)) (g : kvs[j]? = some (k, v)) : i = j := by
  have h1 : (kvs.map (·.1))[i]? = some k := by rw [List.getElem?_map, h]; rfl
  have h2 : (kvs.map (·.1))[j]? = some k := by rw [List.getElem?_map, g]; rfl
  obtain ⟨l1, e1⟩ := List.getElem?_eq_some_iff.1 h1
  obtain ⟨l2, e2⟩ := List.getElem?_eq_some_iff.1 h2
  rcases Nat.lt_trichotomy i j with h | h | h
  · exact absurd (e1.trans e2.symm) (List.pairwise_iff_getElem.1 hn i j l1 l2 h)
  · exact h
  · exact absurd (e2.trans e1.symm) (List.pairwise_iff_getElem.1 hn j i l2 l1 h)
theorem mput_mem (hn : (kvs.map (·.1)).Nodup) {v : Value} {p : κ × Value} (h : p ∈ mput kvs k v) : p = (k, v) ∨ (p ∈ kvs ∧ p.1 ≠ k) := by
  unfold mput at h
  cases hi : midx kvs k with
  | none =>
    rw [hi] at h
    simp at h
    rcases h with h | h
    · exact .inr ⟨h, midx_none hi p h⟩
    · exact .inl h
  | some i =>
    rw [hi] at h
    obtain ⟨u, hu⟩ := midx_key hi
    obtain ⟨j, hj⟩ := List.mem_iff_getElem?.1 h
    simp only [] at hj
    rw [List.getElem?_set] at hj
    split at hj
    · split at hj
      · cases hj; exact .inl rfl
      · cases hj
    · rename_i hij
      refine .inr ⟨List.mem_of_getElem? hj, fun hk => hij ?_⟩
      obtain ⟨a, b⟩ := p
      simp at hk
      subst hk
      exact key_at hn hu hj
theorem mput_self (v : Value) : (k, v) ∈ mput kvs k v := by
  unfold mput
  cases hi : midx kvs k with
  | none => simp
  | some i =>
    have := midx_lt hi
    exact List.mem_iff_getElem?.2 ⟨i, by simp [this]⟩
theorem mput_keys (v : Value) : (mput kvs k v).map (·.1) = if k ∈ kvs.map (·.1) then kvs.map (·.1) else kvs.map (·.1) ++ [k] := by
  unfold mput
  cases hi : midx kvs k with
  | none =>
    have h : k ∉ kvs.map (·.1) := by
      intro hm
      obtain ⟨p, hp, hk⟩ := List.mem_map.1 hm
      exact midx_none hi p hp hk
    rw [if_neg h]
    simp
  | some i =>
    obtain ⟨u, hu⟩ := midx_key hi
    have h : k ∈ kvs.map (·.1) := List.mem_map.2 ⟨_, List.mem_of_getElem? hu, rfl⟩
    rw [if_pos h]
    simp only [List.map_set]
    apply List.ext_getElem?
    intro j
    rw [List.getElem?_set]
    split
    · rename_i e
      subst e
      have hl := midx_lt hi
      rw [if_pos (by simpa using hl), List.getElem?_map, hu]
      rfl
    · rfl
theorem mput_nodup (hn : (kvs.map (·.1)).Nodup) (v : Value) : ((mput kvs k v).map (·.1)).Nodup := by
  rw [mput_keys]
  split
  · exact hn
  · rename_i h
    rw [List.nodup_append]
    exact ⟨hn, by simp, fun a ha b hb e => by simp at hb; subst hb; subst e; exact h ha⟩
theorem mput_has (v : Value) {x : κ} : x ∈ (mput kvs k v).map (·.1) ↔ x = k ∨ x ∈ kvs.map (·.1) := by
  rw [mput_keys]
  split
  · rename_i h
    exact ⟨.inr, fun e => e.elim (fun e => e ▸ h) id⟩
  · rw [List.mem_append, List.mem_singleton, Or.comm]
theorem mdel_mem (hn : (kvs.map (·.1)).Nodup) {p : κ × Value} (h : p ∈ mdel kvs k) : p ∈ kvs ∧ p.1 ≠ k := by
  unfold mdel at h
  cases hi : midx kvs k with
  | none => rw [hi] at h; exact ⟨h, midx_none hi p h⟩
  | some i =>
    rw [hi] at h
    obtain ⟨u, hu⟩ := midx_key hi
    obtain ⟨j, hj⟩ := List.mem_iff_getElem?.1 h
    simp only [] at hj
    rw [List.getElem?_eraseIdx] at hj
    split at hj
    · rename_i hji
      refine ⟨List.mem_of_getElem? hj, fun hk => ?_⟩
      obtain ⟨a, b⟩ := p
      simp at hk
      subst hk
      have := key_at hn hu hj
      omega
    · rename_i hji
      refine ⟨List.mem_of_getElem? hj, fun hk => ?_⟩
      obtain ⟨a, b⟩ := p
      simp at hk
      subst hk
      have := key_at hn hu hj
      omega
theorem mdel_nodup (hn : (kvs.map (·.1)).Nodup) : ((mdel kvs k).map (·.1)).Nodup := by
  unfold mdel
  cases midx kvs k with
  | none => exact hn
  | some i => exact hn.sublist ((List.eraseIdx_sublist kvs i).map _)
theorem mdel_has {x : κ} (h : x ∈ kvs.map (·.1)) (hx : x ≠ k) : x ∈ (mdel kvs k).map (·.1) := by
  unfold mdel
  cases hi : midx kvs k with
  | none => exact h
  | some i =>
    obtain ⟨u, hu⟩ := midx_key hi
    obtain ⟨p, hp, rfl⟩ := List.mem_map.1 h
    obtain ⟨j, hj⟩ := List.mem_iff_getElem?.1 hp
    refine List.mem_map.2 ⟨p, List.mem_iff_getElem?.2 ?_, rfl⟩
    have hij : i ≠ j := fun e => by subst e; rw [hu] at hj; cases hj; exact hx rfl
    by_cases hji : j < i
    · exact ⟨j, by simp only []; rw [List.getElem?_eraseIdx, if_pos hji]; exact hj⟩
    · exact ⟨j - 1, by simp only []; rw [List.getElem?_eraseIdx, if_neg (by omega), show j - 1 + 1 = j by omega]; exact hj⟩
end
end Go.Proofs.YtfdhpjflkimihaaDoor
