/- The finder in memory, behind an update or a delete of its maps. No conditions beyond those that each statement types. -/
import Derived.Test.YtfdhpjflkimihaaDoorBkP
import Derived.Test.YtfdhpjflkimihaaDoorBkR
namespace Go.Proofs.YtfdhpjflkimihaaDoor
open Go.RowKit

theorem row_block {w : World} {B : Nat} {e : TypeId} {size : Nat} {v : Value} {n : Nat} {xs : List Value} {x : Nat} (h : w.ownsRow B e size v n xs) (hx : v.ownBlock = some x) : ∃ cur, w.heap[x]? = some (.cells cur e (0, 0)) := by
  rcases h.2 with ⟨rfl, _⟩ | ⟨g, cap, cur, rfl, _, hh, _⟩
  · simp [Value.ownBlock] at hx
  · simp [Value.ownBlock] at hx
    subst hx
    exact ⟨cur, hh⟩
theorem MapAt.not_cells {κ : Type} {enc : κ → Value} {w : World} {b : Nat} {kvs : List (κ × Value)} (h : MapAt enc w b kvs) {cs : Array Value} {t : TypeId} {fr : Nat × Nat} : w.heap[b]? ≠ some (.cells cs t fr) := by
  obtain ⟨es, c, hb, _⟩ := h
  rw [hb]
  intro e
  cases e
theorem PVal.nil (w : World) : PVal w (.slice none 0 0) [] := ⟨none, 0, rfl, rfl, .inl ⟨rfl, rfl⟩⟩
theorem PVal.block {w : World} {v : Value} {ps : List Pl} {x : Nat} (h : PVal w v ps) (hx : v.ownBlock = some x) : ∃ cur, w.heap[x]? = some (.cells cur 57 (0, 0)) := by
  obtain ⟨ao, c, rfl, ho⟩ := h
  exact row_block ho hx
theorem FVal.block {w : World} {v : Value} {d : List UInt8} {x : Nat} (h : FVal w v d) (hx : v.ownBlock = some x) : ∃ cur, w.heap[x]? = some (.cells cur 5 (0, 0)) := by
  obtain ⟨ao, c, rfl, ho⟩ := h
  exact row_block ho hx
/-- What stands of a digest in the map of places. -/
def plOf (pv : List (HKey × Value)) (k : HKey) : Value := (mget pv k).getD (.slice none 0 0)
section
variable {w w1 w2 : World} {b bf bp : Nat} {F : Files} {G : HKey → List Pl} {fv : List (ByteArray × Value)} {pv : List (HKey × Value)} {S : List Nat}
theorem FinderIs.old (H : FinderIs w b bf bp F G fv pv S) (k : HKey) : PVal w (plOf pv k) (G k) := by
  unfold plOf
  cases hk : mget pv k with
  | some v => exact H.pval _ (mget_mem hk)
  | none =>
    have : G k = [] := Classical.byContradiction fun h => by
      obtain ⟨p, hp, e⟩ := List.mem_map.1 (H.has k h)
      exact mget_none hk p hp e
    rw [this]
    exact PVal.nil w
theorem FinderIs.fval' (H : FinderIs w b bf bp F G fv pv S) {p : ByteArray × Value} (hp : p ∈ fv) : ∃ d, FVal w p.2 d := by
  obtain ⟨i, hi⟩ := List.mem_iff_getElem?.1 hp
  have hl : fv.length = F.length := by have := congrArg List.length H.names; simpa using this
  have hlt := (List.getElem?_eq_some_iff.1 hi).1
  exact ⟨_, H.fval i p _ hi (List.getElem?_eq_getElem (by omega))⟩
theorem FinderIs.congr (H : FinderIs w b bf bp F G fv pv S) {G' : HKey → List Pl} (h : ∀ k, G k = G' k) : FinderIs w b bf bp F G' fv pv S := by
  have : G = G' := funext h
  exact this ▸ H
theorem FinderIs.put (H : FinderIs w b bf bp F G fv pv S) (k : HKey) {T : List Nat} (C : Chg T w w1) (hT : ∀ x ∈ T, w.heap.size ≤ x ∨ (plOf pv k).ownBlock = some x)
    {v1 : Value} {ps' : List Pl} (hv : PVal w1 v1 ps') (hb : ∀ x, v1.ownBlock = some x → w.heap.size ≤ x ∨ (plOf pv k).ownBlock = some x)
    {S' : List Nat} (hS : ∀ x ∈ S, x ∈ S') (hvS : ∀ x, v1.ownBlock = some x → x ∈ S') (hlt : ∀ x ∈ S', x < w1.heap.size)
    (M : MapSet hkV bp (mput pv k v1) w1 w2) : FinderIs w2 b bf bp F (fun h => if h = k then ps' else G h) fv (mput pv k v1) S' := by
  have hcells : ∀ {x : Nat} {cs : Array Value} {t : TypeId} {fr : Nat × Nat}, w.heap[x]? = some (.cells cs t fr) → t ≠ 57 → x ∉ T := by
    intro x cs t fr hx ht hm
    rcases hT x hm with h | h
    · have := lt_of_block hx; omega
    · obtain ⟨cur, hc⟩ := (H.old k).block h
      rw [hx] at hc
      cases hc
      exact ht rfl
  have hmap : ∀ {x : Nat} {es : Array MapEntry} {c : Nat}, w.heap[x]? = some (.map es c) → x ∉ T := by
    intro x es c hx hm
    rcases hT x hm with h | h
    · have := lt_of_block hx; omega
    · obtain ⟨cur, hc⟩ := (H.old k).block h
      rw [hx] at hc
      cases hc
  have hbp : bp ∉ T := by obtain ⟨es, c, hx, _⟩ := H.places; exact hmap hx
  have hbf : bf ∉ T := by obtain ⟨es, c, hx, _⟩ := H.files; exact hmap hx
  have hb0 : b ∉ T := hcells H.head (by decide)
  have hne : ∀ {x : Nat} {cs : Array Value} {t : TypeId} {fr : Nat × Nat}, w.heap[x]? = some (.cells cs t fr) → x ≠ bp := by
    intro x cs t fr hx e
    subst e
    exact H.places.not_cells hx
  have P1 : MapAt hkV w1 bp pv := H.places.chg C hbp
  have hne1 : ∀ {x : Nat} {cs : Array Value} {t : TypeId} {fr : Nat × Nat}, w1.heap[x]? = some (.cells cs t fr) → x ≠ bp := by
    intro x cs t fr hx e
    subst e
    exact P1.not_cells hx
  have hout : ∀ p ∈ pv, p.1 ≠ k → ∀ x, p.2.ownBlock = some x → x ∉ T := by
    intro p hp hk x hx hm
    rcases hT x hm with h | h
    · have := H.lt x (H.po p hp x hx); omega
    · unfold plOf at h
      cases hg : mget pv k with
      | none => rw [hg] at h; simp [Value.ownBlock] at h
      | some v => rw [hg] at h; exact H.apart p hp _ (mget_mem hg) hk x hx h
  have hone : ∀ p ∈ pv, p.1 ≠ k → ∀ x, v1.ownBlock = some x → p.2.ownBlock ≠ some x := by
    intro p hp hk x hx hpx
    rcases hb x hx with h | h
    · have := H.lt x (H.po p hp x hpx); omega
    · unfold plOf at h
      cases hg : mget pv k with
      | none => rw [hg] at h; simp [Value.ownBlock] at h
      | some v => rw [hg] at h; exact H.apart p hp _ (mget_mem hg) hk x hpx h
  have hv2 : PVal w2 v1 ps' := hv.chg M.chg (fun x hx hm => by
    obtain ⟨cur, hc⟩ := hv.block hx
    exact hne1 hc (by simpa using hm))
  refine ⟨?_, ?_, M.map, H.names, fun i p q hp hq => ?_, mput_nodup H.keys _, fun p hp => ?_, fun x hx => ?_, H.ne, hS _ H.fb, hS _ H.ff, hS _ H.fp, fun p hp x hx => hS _ (H.fo p hp x hx), fun p hp x hx => ?_, fun p hp q hq hpq x hx => ?_, fun x hx => by rw [M.size]; exact hlt x hx⟩
  · have h1 := (C.block _ (lt_of_block H.head) hb0).trans H.head
    exact (M.chg.block _ (lt_of_block h1) (by simpa using hne1 h1)).trans h1
  · exact (H.files.chg C hbf).chg M.chg (by simpa using H.ne)
  · have hf := H.fval i p q hp hq
    refine (hf.chg C (fun x hx => ?_)).chg M.chg (fun x hx => ?_)
    · obtain ⟨cur, hc⟩ := hf.block hx
      exact hcells hc (by decide)
    · obtain ⟨cur, hc⟩ := hf.block hx
      simpa using hne hc
  · rcases mput_mem H.keys hp with rfl | ⟨hp, hk⟩
    · simpa using hv2
    · have h1 := H.pval p hp
      simp only [if_neg hk]
      refine (h1.chg C (hout p hp hk)).chg M.chg (fun x hx => ?_)
      obtain ⟨cur, hc⟩ := h1.block hx
      simpa using hne hc
  · rw [mput_has]
    by_cases hk : x = k
    · exact .inl hk
    · simp only [if_neg hk] at hx
      exact .inr (H.has x hx)
  · rcases mput_mem H.keys hp with rfl | ⟨hp, hk⟩
    · exact hvS x hx
    · exact hS _ (H.po p hp x hx)
  · rcases mput_mem H.keys hp with rfl | ⟨hp, hk⟩
    · rcases mput_mem H.keys hq with rfl | ⟨hq, hk'⟩
      · exact absurd rfl hpq
      · exact hone q hq hk' x hx
    · rcases mput_mem H.keys hq with rfl | ⟨hq, hk'⟩
      · intro he
        exact hone p hp hk x he hx
      · exact H.apart p hp q hq hpq x hx
theorem FinderIs.drop (H : FinderIs w b bf bp F G fv pv S) (k : HKey) (hk : G k = []) (M : MapSet hkV bp (mdel pv k) w w2) : FinderIs w2 b bf bp F G fv (mdel pv k) S := by
  have hne : ∀ {x : Nat} {cs : Array Value} {t : TypeId} {fr : Nat × Nat}, w.heap[x]? = some (.cells cs t fr) → x ∉ [bp] := by
    intro x cs t fr hx e
    simp at e
    subst e
    exact H.places.not_cells hx
  refine ⟨?_, ?_, M.map, H.names, fun i p q hp hq => ?_, mdel_nodup H.keys, fun p hp => ?_, fun x hx => ?_, H.ne, H.fb, H.ff, H.fp, H.fo, fun p hp => H.po p (mdel_mem H.keys hp).1, fun p hp q hq => H.apart p (mdel_mem H.keys hp).1 q (mdel_mem H.keys hq).1, fun x hx => by rw [M.size]; exact H.lt x hx⟩
  · exact (M.chg.block _ (lt_of_block H.head) (hne H.head)).trans H.head
  · exact H.files.chg M.chg (by simpa using H.ne)
  · have hf := H.fval i p q hp hq
    refine hf.chg M.chg (fun x hx => ?_)
    obtain ⟨cur, hc⟩ := hf.block hx
    exact hne hc
  · have h1 := H.pval p (mdel_mem H.keys hp).1
    refine h1.chg M.chg (fun x hx => ?_)
    obtain ⟨cur, hc⟩ := h1.block hx
    exact hne hc
  · exact mdel_has (H.has x hx) (fun e => by subst e; exact hx hk)
/-- A change of the map of files alone. -/
theorem FinderIs.refile (H : FinderIs w b bf bp F G fv pv S) {T : List Nat} (C : Chg T w w1) (hT : ∀ x ∈ T, w.heap.size ≤ x) {F' : Files} {fv' : List (ByteArray × Value)} {S' : List Nat} (M : MapSet (fun s : ByteArray => Value.string s) bf fv' w1 w2)
    (hn : fv'.map (·.1) = F'.map (·.1)) (hf : ∀ (i : Nat) p q, fv'[i]? = some p → F'[i]? = some q → FVal w1 p.2 q.2) (hS : ∀ x ∈ S, x ∈ S') (hfo : ∀ p ∈ fv', ∀ k, p.2.ownBlock = some k → k ∈ S') (hlt : ∀ k ∈ S', k < w1.heap.size) : FinderIs w2 b bf bp F' G fv' pv S' := by
  have H1 : FinderIs w1 b bf bp F G fv pv S := H.chg C (fun k hk hm => by have := H.lt k hk; have := hT k hm; omega)
  have hne : ∀ {x : Nat} {cs : Array Value} {t : TypeId} {fr : Nat × Nat}, w1.heap[x]? = some (.cells cs t fr) → x ∉ [bf] := by
    intro x cs t fr hx e
    simp at e
    subst e
    exact H1.files.not_cells hx
  refine ⟨?_, M.map, ?_, hn, fun i p q hp hq => ?_, H1.keys, fun p hp => ?_, H1.has, H1.ne, hS _ H1.fb, hS _ H1.ff, hS _ H1.fp, hfo, fun p hp k hk => hS _ (H1.po p hp k hk), H1.apart, fun x hx => by rw [M.size]; exact hlt x hx⟩
  · exact (M.chg.block _ (lt_of_block H1.head) (hne H1.head)).trans H1.head
  · exact H1.places.chg M.chg (by simpa using H1.ne.symm)
  · have h := hf i p q hp hq
    refine h.chg M.chg (fun x hx => ?_)
    obtain ⟨cur, hc⟩ := h.block hx
    exact hne hc
  · have h1 := H1.pval p hp
    refine h1.chg M.chg (fun x hx => ?_)
    obtain ⟨cur, hc⟩ := h1.block hx
    exact hne hc
end

/-- Files but for one. -/
def Fdel (F : Files) (nm : ByteArray) : Files := F.filter fun p => !decide (p.1 = nm)
theorem bytes_toList_ne (a b : ByteArray) : (a.toList != b.toList) = !decide (a = b) := by
  have h : (a.toList = b.toList) ↔ a = b := by
    constructor
    · intro h
      rw [ByteArray.toList_eq, ByteArray.toList_eq] at h
      exact ByteArray.ext (Array.toList_inj.1 h)
    · intro h; rw [h]
  rw [Bool.eq_iff_iff]
  simp [h]
theorem occTo_name (nm : ByteArray) (ks : List HKey) (h : HKey) : ∀ n, ∀ p ∈ occTo nm ks h n, p.1 = nm
  | 0 => by simp [occTo]
  | n + 1 => by
    intro p hp
    rw [occTo, List.mem_append] at hp
    rcases hp with hp | hp
    · exact occTo_name nm ks h n p hp
    · split at hp
      · simp at hp; rw [hp]
      · cases hp
theorem occTo_none (nm : ByteArray) (ks : List HKey) (h : HKey) (hn : h ∉ ks) : ∀ n, occTo nm ks h n = []
  | 0 => rfl
  | n + 1 => by
    rw [occTo, occTo_none nm ks h hn n, if_neg (fun e => hn (List.mem_of_getElem? e))]
    rfl
theorem wo_occ (nm : ByteArray) (F : Files) (h : HKey) : wo nm (occ F h) = occ (Fdel F nm) h := by
  unfold wo occ Fdel
  induction F with
  | nil => rfl
  | cons p F ih =>
    rw [List.flatMap_cons, List.filter_append, ih]
    by_cases hp : p.1 = nm
    · rw [List.filter_cons_of_neg (by simp [hp])]
      have : (occ1 p.1 p.2 h).filter (fun q => q.1.toList != nm.toList) = [] := by
        rw [List.filter_eq_nil_iff]
        intro q hq
        have := occTo_name _ _ _ _ q hq
        simp [this, hp]
      rw [this]
      rfl
    · rw [List.filter_cons_of_pos (by simpa using hp), List.flatMap_cons]
      congr 1
      rw [List.filter_eq_self]
      intro q hq
      have := occTo_name _ _ _ _ q hq
      rw [bytes_toList_ne, this]
      simpa using hp
theorem wo_idem (nm : ByteArray) (ps : List Pl) : wo nm (wo nm ps) = wo nm ps := by
  unfold wo
  rw [List.filter_filter]
  simp
/-- A digest that the file of a name does not have stands nowhere under that name. -/
theorem wo_out_of {nm : ByteArray} {F : Files} {d : List UInt8} (hn : (F.map (·.1)).Nodup) (hm : (nm, d) ∈ F) {h : HKey} (hh : h ∉ keysL d) : wo nm (occ F h) = occ F h := by
  unfold wo
  rw [List.filter_eq_self]
  intro q hq
  obtain ⟨p, hp, hqp⟩ := List.mem_flatMap.1 hq
  have hq1 := occTo_name _ _ _ _ q hqp
  rw [bytes_toList_ne, hq1]
  by_cases hpn : p.1 = nm
  · exfalso
    obtain ⟨i, hi⟩ := List.mem_iff_getElem?.1 hp
    obtain ⟨j, hj⟩ := List.mem_iff_getElem?.1 hm
    have h1 : (F.map (·.1))[i]? = some nm := by rw [List.getElem?_map, hi]; simp [hpn]
    have h2 : (F.map (·.1))[j]? = some nm := by rw [List.getElem?_map, hj]; rfl
    obtain ⟨l1, e1⟩ := List.getElem?_eq_some_iff.1 h1
    obtain ⟨l2, e2⟩ := List.getElem?_eq_some_iff.1 h2
    have hij : i = j := by
      rcases Nat.lt_trichotomy i j with h | h | h
      · exact absurd (e1.trans e2.symm) (List.pairwise_iff_getElem.1 hn i j l1 l2 h)
      · exact h
      · exact absurd (e2.trans e1.symm) (List.pairwise_iff_getElem.1 hn j i l2 l1 h)
    subst hij
    rw [hi] at hj
    cases hj
    unfold occ1 at hqp
    rw [occTo_none _ _ _ hh] at hqp
    cases hqp
  · simpa using hpn
/-- One of the names, erased. -/
theorem erase_named {α : Type} {nm : ByteArray} : ∀ {l : List (ByteArray × α)} {i : Nat} {a : α}, (l.map (·.1)).Nodup → l[i]? = some (nm, a) → l.eraseIdx i = l.filter fun p => !decide (p.1 = nm)
  | [], i, a, _, h => by simp at h
  | p :: l, 0, a, hn, h => by
    simp at h
    subst h
    rw [List.eraseIdx_cons_zero, List.filter_cons_of_neg (by simp), eq_comm, List.filter_eq_self]
    intro q hq
    have := (List.nodup_cons.1 hn).1
    have hne : q.1 ≠ nm := fun e => this (List.mem_map.2 ⟨q, hq, e⟩)
    simpa using hne
  | p :: l, i + 1, a, hn, h => by
    have hp : p.1 ≠ nm := fun e => (List.nodup_cons.1 hn).1 (List.mem_map.2 ⟨_, List.mem_of_getElem? (by simpa using h), e.symm⟩)
    rw [List.eraseIdx_cons_succ, List.filter_cons_of_pos (by simpa using hp), erase_named (List.nodup_cons.1 hn).2 (by simpa using h)]
end Go.Proofs.YtfdhpjflkimihaaDoor
