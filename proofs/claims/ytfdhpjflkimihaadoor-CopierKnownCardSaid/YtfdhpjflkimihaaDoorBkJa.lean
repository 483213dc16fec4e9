/- The least of places: what the finder picks depends on nothing but which places there are. Plain; no conditions beyond those that each statement types. -/
import Derived.Test.YtfdhpjflkimihaaDoorBkV
namespace Go.Proofs.YtfdhpjflkimihaaDoor
open Go.RowKit

theorem bless (x y : List UInt8) : Op.bytesLess x y = decide (x < y) := by
  induction x generalizing y with
  | nil => cases y <;> simp [Op.bytesLess]
  | cons a x ih =>
    cases y with
    | nil => simp [Op.bytesLess]
    | cons b y =>
      rw [Op.bytesLess, ih]
      simp only [List.cons_lt_cons_iff]
      by_cases h1 : a < b <;> by_cases h2 : a = b <;> by_cases h3 : x < y <;> simp [h1, h2, h3]
/-- One place ahead of another one. -/
def pll (p q : Pl) : Prop := p.1.toList < q.1.toList ∨ (p.1.toList = q.1.toList ∧ p.2 < q.2)
theorem list_lt_irrefl (a : List UInt8) : ¬ a < a := List.lt_irrefl a
theorem list_lt_trans {a b c : List UInt8} (h : a < b) (g : b < c) : a < c := List.lt_trans h g
theorem list_lt_tri (a b : List UInt8) : a < b ∨ a = b ∨ b < a := by
  by_cases h : a < b
  · exact .inl h
  · by_cases g : b < a
    · exact .inr (.inr g)
    · exact .inr (.inl (List.le_antisymm (List.not_lt.1 g) (List.not_lt.1 h)))
theorem pll_trans {p q r : Pl} (h : pll p q) (g : pll q r) : pll p r := by
  rcases h with h | ⟨h, h2⟩
  · rcases g with g | ⟨g, _⟩
    · exact .inl (list_lt_trans h g)
    · exact .inl (g ▸ h)
  · rcases g with g | ⟨g, g2⟩
    · exact .inl (h ▸ g)
    · exact .inr ⟨h.trans g, Nat.lt_trans h2 g2⟩
theorem pll_irrefl (p : Pl) : ¬ pll p p := by
  rintro (h | ⟨_, h⟩)
  · exact list_lt_irrefl _ h
  · exact Nat.lt_irrefl _ h
theorem toList_inj {a b : ByteArray} (h : a.toList = b.toList) : a = b := by
  rw [ByteArray.toList_eq, ByteArray.toList_eq] at h
  exact ByteArray.ext (Array.toList_inj.1 h)
theorem pll_tri (p q : Pl) : pll p q ∨ p = q ∨ pll q p := by
  rcases list_lt_tri p.1.toList q.1.toList with h | h | h
  · exact .inl (.inl h)
  · rcases Nat.lt_trichotomy p.2 q.2 with g | g | g
    · exact .inl (.inr ⟨h, g⟩)
    · exact .inr (.inl (Prod.ext (toList_inj h) g))
    · exact .inr (.inr (.inr ⟨h.symm, g⟩))
  · exact .inr (.inr (.inl h))
theorem befo_pll (p q : Pl) : befo p q < 0 ↔ pll p q := by
  unfold befo cmpS cmpI pll
  rw [bless]
  by_cases h : p.1.toList < q.1.toList
  · have h0 : ¬ ((-1 : Int) = 0) := by decide
    simp [h]
  · by_cases g : p.1.toList = q.1.toList
    · have hn : ¬ q.1.toList < q.1.toList := list_lt_irrefl _
      simp only [g, hn, decide_false, Bool.false_eq_true, if_false, beq_self_eq_true, if_true, true_and, false_or]
      constructor
      · intro hh
        split at hh
        · omega
        · split at hh <;> omega
      · intro hh
        rw [if_pos (by omega)]
        decide
    · simp [h, g]
theorem minTo_least (p : Pl) (r : List Pl) : ∀ k, k ≤ r.length → ∀ x ∈ p :: r.take k, ¬ pll x (minTo p r k)
  | 0, _ => fun x hx => by
    have : x = p := by simpa using hx
    subst this
    exact pll_irrefl _
  | k + 1, hk => by
    intro x hx
    have hlt : k < r.length := hk
    have ih := minTo_least p r k (Nat.le_of_lt hlt)
    unfold minTo
    rw [List.getElem?_eq_getElem hlt]
    simp only []
    rw [List.take_add_one, List.getElem?_eq_getElem hlt] at hx
    have hx' : x ∈ p :: r.take k ∨ x = r[k] := by
      rcases List.mem_cons.1 hx with h | h
      · exact .inl (by rw [h]; exact List.mem_cons_self)
      · rcases List.mem_append.1 h with h | h
        · exact .inl (List.mem_cons_of_mem _ h)
        · exact .inr (by simpa using h)
    split
    · rename_i hb
      rw [befo_pll] at hb
      rcases hx' with hx | hx
      · intro h
        exact ih x hx (pll_trans h hb)
      · rw [hx]
        exact pll_irrefl _
    · rename_i hb
      rw [befo_pll] at hb
      rcases hx' with hx | hx
      · exact ih x hx
      · rw [hx]
        exact hb
/-- The picked place is the least one, whatever the order in which they came. -/
theorem pick_least {l : List Pl} {m : Pl} (hm : m ∈ l) (hl : ∀ x ∈ l, ¬ pll x m) : pickP l = some m := by
  cases l with
  | nil => cases hm
  | cons p r =>
    unfold pickP
    have h1 := minTo_least p r r.length (Nat.le_refl _)
    rw [List.take_length] at h1
    have h2 := minTo_mem p r r.length
    rcases pll_tri m (minTo p r r.length) with h | h | h
    · exact absurd h (h1 m hm)
    · rw [h]
    · exact absurd h (hl _ h2)
theorem pick_nil {l : List Pl} : pickP l = none ↔ l = [] := by
  cases l <;> simp [pickP]
/-- Of two lists with the same places one picks the same. -/
theorem pick_congr {l l' : List Pl} (h : ∀ x, x ∈ l ↔ x ∈ l') : pickP l = pickP l' := by
  cases l with
  | nil =>
    have : l' = [] := List.eq_nil_iff_forall_not_mem.2 (fun x hx => by simpa using (h x).2 hx)
    rw [this]
  | cons p r =>
    have h1 := minTo_least p r r.length (Nat.le_refl _)
    rw [List.take_length] at h1
    have h2 := minTo_mem p r r.length
    exact (pick_least ((h _).1 h2) (fun x hx => h1 x ((h x).2 hx))).symm
end Go.Proofs.YtfdhpjflkimihaaDoor
/- What a finder finds depends on nothing but its files; in files sorted by name it is the first. Plain; no conditions beyond those that each statement types. -/
namespace Go.Proofs.YtfdhpjflkimihaaDoor
open Go.RowKit

theorem occTo_mem {nm : ByteArray} {ks : List HKey} {h : HKey} {x : Pl} : ∀ n, x ∈ occTo nm ks h n ↔ x.1 = nm ∧ x.2 < n ∧ ks[x.2]? = some h
  | 0 => by simp [occTo]
  | n + 1 => by
    rw [occTo, List.mem_append, occTo_mem n]
    by_cases hk : ks[n]? = some h
    · rw [if_pos hk, List.mem_singleton]
      constructor
      · rintro (⟨h1, h2, h3⟩ | e)
        · exact ⟨h1, by omega, h3⟩
        · rw [e]
          exact ⟨rfl, Nat.lt_succ_self n, hk⟩
      · rintro ⟨h1, h2, h3⟩
        rcases Nat.lt_or_ge x.2 n with g | g
        · exact .inl ⟨h1, g, h3⟩
        · exact .inr (Prod.ext h1 (by show x.2 = n; omega))
    · rw [if_neg hk]
      constructor
      · rintro (⟨h1, h2, h3⟩ | e)
        · exact ⟨h1, by omega, h3⟩
        · cases e
      · rintro ⟨h1, h2, h3⟩
        refine .inl ⟨h1, ?_, h3⟩
        rcases Nat.lt_or_ge x.2 n with g | g
        · exact g
        · exact absurd (by rw [show n = x.2 by omega]; exact h3) hk
theorem occ_mem {F : Files} {k : HKey} {x : Pl} : x ∈ occ F k ↔ ∃ d, (x.1, d) ∈ F ∧ (keysL d)[x.2]? = some k := by
  unfold occ
  rw [List.mem_flatMap]
  constructor
  · rintro ⟨p, hp, hx⟩
    obtain ⟨h1, _, h3⟩ := (occTo_mem _).1 hx
    refine ⟨p.2, ?_, h3⟩
    rw [h1]
    exact hp
  · rintro ⟨d, hd, h3⟩
    exact ⟨_, hd, (occTo_mem _).2 ⟨rfl, (List.getElem?_eq_some_iff.1 h3).1, h3⟩⟩
theorem names_one {F : Files} (hn : (F.map (·.1)).Nodup) {nm : ByteArray} {d d' : List UInt8} (h : (nm, d) ∈ F) (h' : (nm, d') ∈ F) : d = d' := by
  induction F with
  | nil => cases h
  | cons p F ih =>
    rw [List.map_cons, List.nodup_cons] at hn
    rcases List.mem_cons.1 h with e | h
    · rcases List.mem_cons.1 h' with e' | h'
      · rw [← e] at e'
        exact (Prod.mk.inj e').2.symm
      · exact absurd (List.mem_map.2 ⟨_, h', by rw [← e]⟩) hn.1
    · rcases List.mem_cons.1 h' with e' | h'
      · exact absurd (List.mem_map.2 ⟨_, h, by rw [← e']⟩) hn.1
      · exact ih hn.2 h h'
theorem dataF_mem {F : Files} (hn : (F.map (·.1)).Nodup) {nm : ByteArray} {d : List UInt8} (h : (nm, d) ∈ F) : dataF F nm = d := by
  unfold dataF
  cases hf : F.find? (fun p => decide (p.1 = nm)) with
  | none =>
    have := List.find?_eq_none.1 hf _ h
    simp at this
  | some q =>
    have h1 : q.1 = nm := by simpa using List.find?_some hf
    have h2 := List.mem_of_find?_eq_some hf
    rw [← h1] at h
    exact names_one hn h2 h
/-- What is found depends on nothing but which files there are. -/
theorem findL_congr {F F' : Files} (hn : (F.map (·.1)).Nodup) (hn' : (F'.map (·.1)).Nodup) (h : ∀ p, p ∈ F ↔ p ∈ F') (k : HKey) : findL F k = findL F' k := by
  unfold findL
  have hp : pickP (occ F k) = pickP (occ F' k) := pick_congr (fun x => by
    rw [occ_mem, occ_mem]
    exact ⟨fun ⟨d, hd, g⟩ => ⟨d, (h _).1 hd, g⟩, fun ⟨d, hd, g⟩ => ⟨d, (h _).2 hd, g⟩⟩)
  rw [hp]
  cases hm : pickP (occ F' k) with
  | none => rfl
  | some m =>
    have hmem : m ∈ occ F' k := by
      cases ho : occ F' k with
      | nil => rw [ho] at hm; cases hm
      | cons p r =>
        rw [ho] at hm
        have : minTo p r r.length = m := Option.some.inj hm
        rw [← this]
        exact minTo_mem p r r.length
    obtain ⟨d, hd, _⟩ := occ_mem.1 hmem
    rw [Option.map_some, Option.map_some, dataF_mem hn ((h _).2 hd), dataF_mem hn' hd]
/-- Where a digest stands first among a file's. -/
def idxK (d : List UInt8) (k : HKey) : Option Nat := (keysL d).findIdx? fun x => decide (x = k)
/-- The first in files, one behind the other. -/
def frontF : Files → HKey → Option (Pl × List UInt8)
  | [], _ => none
  | p :: R, k => match idxK p.2 k with
    | some i => some ((p.1, i), partL p.2 i)
    | none => frontF R k
/-- Files sorted by name. -/
def SortedF (R : Files) : Prop := R.Pairwise fun p q => p.1.toList < q.1.toList
theorem idxK_some {d : List UInt8} {k : HKey} {i : Nat} (h : idxK d k = some i) : (keysL d)[i]? = some k ∧ ∀ j, j < i → (keysL d)[j]? ≠ some k := by
  unfold idxK at h
  rw [List.findIdx?_eq_some_iff_getElem] at h
  obtain ⟨hi, h1, h2⟩ := h
  refine ⟨by rw [List.getElem?_eq_getElem hi]; simpa using h1, fun j hj e => ?_⟩
  have h3 := h2 j hj
  obtain ⟨hj2, e2⟩ := List.getElem?_eq_some_iff.1 e
  simp [e2] at h3
theorem idxK_none {d : List UInt8} {k : HKey} (h : idxK d k = none) (j : Nat) : (keysL d)[j]? ≠ some k := by
  unfold idxK at h
  rw [List.findIdx?_eq_none_iff] at h
  intro e
  have := h k (List.mem_of_getElem? e)
  simp at this
theorem occ_cons_none {p : ByteArray × List UInt8} {R : Files} {k : HKey} (h : idxK p.2 k = none) : occ (p :: R) k = occ R k := by
  unfold occ
  rw [List.flatMap_cons]
  have : occ1 p.1 p.2 k = [] := List.eq_nil_iff_forall_not_mem.2 (fun x hx => idxK_none h x.2 ((occTo_mem _).1 hx).2.2)
  rw [this]
  rfl
theorem keysL_length (d : List UInt8) : (keysL d).length = cntN d.length := by rw [keysL, List.length_map, listL_length]
theorem frontF_pick {R : Files} (hs : SortedF R) (k : HKey) : frontF R k = (pickP (occ R k)).map fun m => (m, partZ (dataF R m.1) m.2) := by
  induction R with
  | nil => rfl
  | cons p R ih =>
    obtain ⟨h1, h2⟩ := List.pairwise_cons.1 hs
    unfold frontF
    cases hi : idxK p.2 k with
    | none =>
      simp only []
      rw [occ_cons_none hi, ih h2]
      cases hm : pickP (occ R k) with
      | none => rfl
      | some m =>
        have hmem : m ∈ occ R k := by
          cases ho : occ R k with
          | nil => rw [ho] at hm; cases hm
          | cons q r =>
            rw [ho] at hm
            have : minTo q r r.length = m := Option.some.inj hm
            rw [← this]
            exact minTo_mem q r r.length
        obtain ⟨d, hd, _⟩ := occ_mem.1 hmem
        have hne : ¬ p.1 = m.1 := fun e => by
          have := h1 _ hd
          rw [e] at this
          exact list_lt_irrefl _ this
        have : dataF (p :: R) m.1 = dataF R m.1 := by
          unfold dataF
          rw [List.find?_cons_of_neg (by simpa using hne)]
        rw [Option.map_some, Option.map_some, this]
    | some i =>
      simp only []
      obtain ⟨g1, g2⟩ := idxK_some hi
      have hp : pickP (occ (p :: R) k) = some (p.1, i) := by
        refine pick_least (occ_mem.2 ⟨p.2, List.mem_cons_self, g1⟩) (fun x hx => ?_)
        obtain ⟨d, hd, hk⟩ := occ_mem.1 hx
        rintro (h | ⟨h, hlt⟩)
        · rcases List.mem_cons.1 hd with e | hd
          · have e1 : x.1 = p.1 := (Prod.mk.inj (show (x.1, d) = (p.1, p.2) from e)).1
            rw [e1] at h
            exact list_lt_irrefl _ h
          · exact list_lt_irrefl _ (list_lt_trans h (h1 _ hd))
        · rcases List.mem_cons.1 hd with e | hd
          · have e2 : d = p.2 := (Prod.mk.inj (show (x.1, d) = (p.1, p.2) from e)).2
            rw [e2] at hk
            exact g2 _ hlt hk
          · have := h1 _ hd
            rw [h] at this
            exact list_lt_irrefl _ this
      have hd : dataF (p :: R) p.1 = p.2 := by
        unfold dataF
        rw [List.find?_cons_of_pos (by simp)]
        rfl
      have hlt : i < cntN p.2.length := by
        rw [← keysL_length]
        exact (List.getElem?_eq_some_iff.1 g1).1
      rw [hp, Option.map_some, hd]
      unfold partZ
      rw [if_pos ⟨Int.natCast_nonneg _, by simpa using hlt⟩]
      rfl
end Go.Proofs.YtfdhpjflkimihaaDoor
/- The finder's files beside the reference's, which stand sorted by name. Plain; no conditions beyond those that each statement types. -/
namespace Go.Proofs.YtfdhpjflkimihaaDoor
open Go.RowKit

/-- A file put where its name stands. -/
def insF : Files → ByteArray × List UInt8 → Files
  | [], p => [p]
  | q :: R, p => if p.1.toList < q.1.toList then p :: q :: R else q :: insF R p
theorem insF_mem {p x : ByteArray × List UInt8} : ∀ {R : Files}, x ∈ insF R p ↔ x = p ∨ x ∈ R
  | [] => by simp [insF]
  | q :: R => by
    unfold insF
    split
    · simp
    · rw [List.mem_cons, insF_mem, List.mem_cons]
      constructor
      · rintro (h | h | h)
        · exact .inr (.inl h)
        · exact .inl h
        · exact .inr (.inr h)
      · rintro (h | h | h)
        · exact .inr (.inl h)
        · exact .inl h
        · exact .inr (.inr h)
theorem insF_sorted {p : ByteArray × List UInt8} : ∀ {R : Files}, SortedF R → (∀ q ∈ R, q.1 ≠ p.1) → SortedF (insF R p)
  | [], _, _ => by simp [insF, SortedF]
  | q :: R, hs, hne => by
    obtain ⟨h1, h2⟩ := List.pairwise_cons.1 hs
    unfold insF
    split
    · rename_i hlt
      refine List.pairwise_cons.2 ⟨fun r hr => ?_, hs⟩
      rcases List.mem_cons.1 hr with e | hr
      · rw [e]; exact hlt
      · exact list_lt_trans hlt (h1 r hr)
    · rename_i hlt
      refine List.pairwise_cons.2 ⟨fun r hr => ?_, insF_sorted h2 (fun r hr => hne r (List.mem_cons_of_mem _ hr))⟩
      rcases insF_mem.1 hr with e | hr
      · rw [e]
        rcases list_lt_tri p.1.toList q.1.toList with g | g | g
        · exact absurd g hlt
        · exact absurd (toList_inj g).symm (hne q List.mem_cons_self)
        · exact g
      · exact h1 r hr
theorem sorted_nodup {R : Files} (hs : SortedF R) : (R.map (·.1)).Nodup := by
  unfold SortedF at hs
  rw [List.Nodup, List.pairwise_map]
  exact hs.imp (fun {a b} (h : a.1.toList < b.1.toList) => show a.1 ≠ b.1 from fun e => list_lt_irrefl b.1.toList (by rw [e] at h; exact h))
theorem sorted_del {R : Files} (hs : SortedF R) (nm : ByteArray) : SortedF (Fdel R nm) := List.Pairwise.sublist List.filter_sublist hs
theorem Fdel_mem {F : Files} {nm : ByteArray} {p : ByteArray × List UInt8} : p ∈ Fdel F nm ↔ p ∈ F ∧ p.1 ≠ nm := by
  unfold Fdel
  rw [List.mem_filter]
  simp
/-- A finder's files and the reference's are the same. -/
structure SameF (F R : Files) : Prop where
  names : (F.map (·.1)).Nodup
  sorted : SortedF R
  mem : ∀ p, p ∈ F ↔ p ∈ R
theorem sameF_nil : SameF [] [] := ⟨by simp, by simp [SortedF], fun _ => Iff.rfl⟩
theorem SameF.del {F R : Files} (h : SameF F R) (nm : ByteArray) : SameF (Fdel F nm) (Fdel R nm) :=
  ⟨h.names.sublist (List.filter_sublist.map _), sorted_del h.sorted nm, fun p => by rw [Fdel_mem, Fdel_mem, h.mem]⟩
theorem SameF.add {F R : Files} (h : SameF F R) (nm : ByteArray) (d : List UInt8) : SameF (Fadd F nm d) (insF (Fdel R nm) (nm, d)) :=
  ⟨(Fadd_nodup h.names).1, insF_sorted (sorted_del h.sorted nm) (fun q hq => (Fdel_mem.1 hq).2), fun p => by
    unfold Fadd
    rw [List.mem_append, List.mem_singleton, insF_mem, Fdel_mem, Fdel_mem, h.mem]
    exact Or.comm⟩
theorem SameF.find {F R : Files} (h : SameF F R) (k : HKey) : findL F k = frontF R k := by
  rw [findL_congr h.names (sorted_nodup h.sorted) h.mem k, frontF_pick h.sorted]
  rfl
theorem nodup_of_names {F : Files} (h : (F.map (·.1)).Nodup) : F.Nodup := by
  rw [List.Nodup, List.pairwise_map] at h
  exact h.imp (fun g e => g (by rw [e]))
theorem SameF.length {F R : Files} (h : SameF F R) : F.length = R.length :=
  ((List.perm_ext_iff_of_nodup (nodup_of_names h.names) (nodup_of_names (sorted_nodup h.sorted))).2 h.mem).length_eq
theorem SameF.has {F R : Files} (h : SameF F R) (nm : ByteArray) : hasF F nm = hasF R nm := by
  rw [Bool.eq_iff_iff]
  unfold hasF
  rw [List.any_eq_true, List.any_eq_true]
  exact ⟨fun ⟨p, hp, g⟩ => ⟨p, (h.mem p).1 hp, g⟩, fun ⟨p, hp, g⟩ => ⟨p, (h.mem p).2 hp, g⟩⟩
end Go.Proofs.YtfdhpjflkimihaaDoor
