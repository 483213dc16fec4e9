/- Plain laws of a fetch's state: whom a block is asked of, and counts. No program, no conditions beyond those that each statement types. -/
import Derived.Test.YtcapbfhiiiggdaaFetchH
namespace Go.Proofs.Ytcapbfhiiiggdaa
open Go.RowKit

/-- A sum over the first numbers. -/
def sumTo (f : Nat → Nat) : Nat → Nat
  | 0 => 0
  | k + 1 => sumTo f k + f k

theorem sumTo_congr {f g : Nat → Nat} {m : Nat} (h : ∀ k, k < m → f k = g k) : sumTo f m = sumTo g m := by
  induction m with
  | zero => rfl
  | succ m ih => rw [sumTo, sumTo, ih (fun k hk => h k (by omega)), h m (by omega)]
theorem sumTo_le {f g : Nat → Nat} {m : Nat} (h : ∀ k, k < m → f k ≤ g k) : sumTo f m ≤ sumTo g m := by
  induction m with
  | zero => exact Nat.le_refl _
  | succ m ih => have := ih (fun k hk => h k (by omega)); have := h m (by omega); simp only [sumTo]; omega
theorem sumTo_upd {f g : Nat → Nat} {m n : Nat} (hn : n < m) (h : ∀ k, k < m → k ≠ n → f k = g k) : sumTo f m + g n = sumTo g m + f n := by
  induction m with
  | zero => omega
  | succ m ih =>
    simp only [sumTo]
    by_cases hm : n = m
    · subst hm
      rw [sumTo_congr (g := g) (m := n) (fun k hk => h k (by omega) (by omega))]
      omega
    · have := ih (by omega) (fun k hk => h k (by omega))
      have := h m (by omega) (fun e => hm e.symm)
      omega
theorem sumTo_mul (f : Nat → Nat) (c m : Nat) : sumTo (fun k => f k * c) m = sumTo f m * c := by
  induction m with
  | zero => simp [sumTo]
  | succ m ih => simp only [sumTo, ih, Nat.add_mul]
theorem sumTo_one_le (f : Nat → Nat) (m : Nat) (h : ∀ k, k < m → f k ≤ 1) : sumTo f m ≤ m := by
  induction m with
  | zero => exact Nat.le_refl _
  | succ m ih => have := ih (fun k hk => h k (by omega)); have := h m (by omega); simp only [sumTo]; omega
theorem sumTo_add (f g : Nat → Nat) (m : Nat) : sumTo (fun k => f k + g k) m = sumTo f m + sumTo g m := by
  induction m with
  | zero => rfl
  | succ m ih => simp only [sumTo, ih]; omega
theorem sumTo_zero {f : Nat → Nat} {m : Nat} (h : sumTo f m = 0) : ∀ k, k < m → f k = 0 := by
  induction m with
  | zero => intro k hk; omega
  | succ m ih =>
    simp only [sumTo] at h
    intro k hk
    by_cases hm : k = m
    · subst hm; omega
    · exact ih (by omega) k (by omega)
theorem countP_sumTo (p : Nat → Bool) (m : Nat) : (List.range m).countP p = sumTo (fun k => (p k).toNat) m := by
  induction m with
  | zero => rfl
  | succ m ih =>
    rw [List.range_succ, List.countP_append, List.countP_singleton, ih, sumTo]
    cases p m <;> rfl
theorem nums_length (p : Nat → Bool) (m : Nat) : (nums p m).length = sumTo (fun k => (p k).toNat) m := by
  rw [nums, List.length_map, ← List.countP_eq_length_filter, countP_sumTo]
theorem nums_congr {p q : Nat → Bool} {m : Nat} (h : ∀ k, k < m → p k = q k) : nums p m = nums q m := by
  unfold nums
  rw [List.filter_congr (fun k hk => h k (List.mem_range.1 hk))]

theorem rises_pairwise : ∀ (l : List Int) (a b : Int), rises l a b = true → l.Pairwise (· < ·)
  | [], _, _, _ => .nil
  | n :: l, a, b, h => by
    rw [rises_cons] at h
    split at h
    · cases h
    · exact List.pairwise_cons.2 ⟨fun x hx => by have := (rises_mem l (n + 1) b h x hx).1; omega, rises_pairwise l _ _ h⟩
theorem rises_of : ∀ (l : List Int) (a b : Int), l.Pairwise (· < ·) → (∀ x ∈ l, a ≤ x ∧ x ≤ b) → rises l a b = true
  | [], _, _, _, _ => rfl
  | n :: l, a, b, h, hb => by
    obtain ⟨h1, h2⟩ := List.pairwise_cons.1 h
    have hn := hb n (by simp)
    rw [rises_cons, if_neg (by omega)]
    exact rises_of l _ _ h2 (fun x hx => ⟨by have := h1 x hx; omega, (hb x (by simp [hx])).2⟩)
theorem mem_ones {x F N : Nat} {n : Int} (h : n ∈ ones x F N) : (F : Int) ≤ n ∧ n < F + N := by
  simp only [ones, List.mem_map, List.mem_filter, List.mem_range] at h
  obtain ⟨k, ⟨hk, _⟩, rfl⟩ := h
  omega
theorem ones_pairwise (x F N : Nat) : (ones x F N).Pairwise (· < ·) := by
  unfold ones
  refine List.Pairwise.map _ ?_ (List.Pairwise.filter _ List.pairwise_lt_range)
  intro a b h
  omega

/-- How many of a rising list's numbers there are. -/
theorem count_mem : ∀ (l : List Int) (m : Nat), l.Pairwise (· < ·) → (∀ x ∈ l, 0 ≤ x ∧ x < m) → sumTo (fun n => (decide ((n : Int) ∈ l)).toNat) m = l.length
  | [], m, _, _ => by
    induction m with
    | zero => rfl
    | succ m ih => rw [sumTo, ih (by simp)]; simp
  | a :: l, m, h, hb => by
    obtain ⟨h1, h2⟩ := List.pairwise_cons.1 h
    have ha := hb a (by simp)
    obtain ⟨n, rfl⟩ : ∃ n : Nat, a = n := ⟨a.toNat, by omega⟩
    have hnot : (n : Int) ∉ l := fun hm => by have := h1 _ hm; omega
    have hu := sumTo_upd (f := fun k => (decide ((k : Int) ∈ l)).toNat) (g := fun k => (decide ((k : Int) ∈ (n : Int) :: l)).toNat) (m := m) (n := n) (by omega) (fun k _ hk => by
      have : ¬ (k : Int) = n := by omega
      simp [this])
    rw [count_mem l m h2 (fun x hx => hb x (by simp [hx]))] at hu
    simp only [hnot, decide_false, List.mem_cons, true_or, decide_true, Bool.toNat_true, Bool.toNat_false, List.length_cons] at hu ⊢
    omega

def FS.cand (s : FS) (n d : Nat) : Bool := s.pe d && !s.tr n d

/-- The best of the first k devices. -/
inductive Best (s : FS) (n k : Nat) : Int × Int → Prop
  | none : (∀ d, d < k → s.cand n d = true → 8 ≤ s.asked d) → Best s n k (0, 8)
  | some (d : Nat) : d < k → s.cand n d = true → s.asked d < 8 → (∀ e, e < k → s.cand n e = true → s.asked d ≤ s.asked e ∧ (e < d → s.asked d < s.asked e)) → Best s n k ((d : Int), (s.asked d : Int))

theorem FS.peerTo_best (s : FS) (n : Nat) : ∀ k, Best s n k (s.peerTo n k)
  | 0 => .none (fun d hd => by omega)
  | k + 1 => by
    have ih := s.peerTo_best n k
    have hst : s.peerTo n (k + 1) = if s.pe k && !s.tr n k && decide ((s.asked k : Int) < (s.peerTo n k).2) then ((k : Int), (s.asked k : Int)) else s.peerTo n k := rfl
    rw [hst]
    generalize s.peerTo n k = p at ih ⊢
    have hc : (s.pe k && !s.tr n k) = s.cand n k := rfl
    rw [hc]
    cases hk : s.cand n k with
    | false =>
      simp only [Bool.false_and, Bool.false_eq_true, if_false]
      cases ih with
      | none h => exact .none (fun d hd hcd => by
          by_cases e : d = k
          · subst e; rw [hk] at hcd; cases hcd
          · exact h d (by omega) hcd)
      | some d hd h1 h2 h3 => exact .some d (by omega) h1 h2 (fun e he hce => by
          by_cases ek : e = k
          · subst ek; rw [hk] at hce; cases hce
          · exact h3 e (by omega) hce)
    | true =>
      simp only [Bool.true_and, decide_eq_true_eq]
      cases ih with
      | none h =>
        dsimp only
        split
        · rename_i hl
          exact .some k (by omega) hk (by omega) (fun e he hce => by
            by_cases ek : e = k
            · subst ek; exact ⟨Nat.le_refl _, fun h => by omega⟩
            · have := h e (by omega) hce; exact ⟨by omega, fun _ => by omega⟩)
        · rename_i hl
          exact .none (fun d hd hcd => by
            by_cases e : d = k
            · subst e; omega
            · exact h d (by omega) hcd)
      | some d hd h1 h2 h3 =>
        dsimp only
        split
        · rename_i hl
          exact .some k (by omega) hk (by omega) (fun e he hce => by
            by_cases ek : e = k
            · subst ek; exact ⟨Nat.le_refl _, fun h => by omega⟩
            · have := h3 e (by omega) hce; exact ⟨by omega, fun _ => by omega⟩)
        · rename_i hl
          exact .some d (by omega) h1 h2 (fun e he hce => by
            by_cases ek : e = k
            · subst ek; exact ⟨by omega, fun h => by omega⟩
            · exact h3 e (by omega) hce)

theorem FS.peer_none {s : FS} {n : Nat} (h : ∀ d, d < 17 → s.cand n d = true → 8 ≤ s.asked d) : s.peer n = 0 := by
  have hb := s.peerTo_best n 17
  unfold FS.peer
  generalize s.peerTo n 17 = p at hb ⊢
  cases hb with
  | none _ => rfl
  | some d hd h1 h2 h3 => have := h d hd h1; omega
theorem FS.peer_some {s : FS} {n : Nat} (d : Nat) (hd : d < 17) (h1 : s.cand n d = true) (h2 : s.asked d < 8) (h3 : ∀ e, e < 17 → s.cand n e = true → s.asked d ≤ s.asked e ∧ (e < d → s.asked d < s.asked e)) : s.peer n = d := by
  have hb := s.peerTo_best n 17
  unfold FS.peer
  generalize s.peerTo n 17 = p at hb ⊢
  cases hb with
  | none h => have := h d hd h1; omega
  | some e he g1 g2 g3 =>
    have a := h3 e he g1
    have b := g3 d hd h1
    have : e = d := by
      rcases Nat.lt_trichotomy e d with h | h | h
      · have := a.2 h; omega
      · exact h
      · have := b.2 h; omega
    rw [this]
theorem FS.peer_pos {s : FS} {n : Nat} (h : 0 < s.peer n) : ∃ d : Nat, s.peer n = d ∧ 1 ≤ d ∧ d < 17 ∧ s.cand n d = true := by
  have hb := s.peerTo_best n 17
  have h' : 0 < (s.peerTo n 17).1 := h
  unfold FS.peer
  generalize s.peerTo n 17 = p at hb h' ⊢
  cases hb with
  | none _ => simp at h'
  | some d hd h1 h2 h3 => exact ⟨d, rfl, by simp at h'; omega, hd, h1⟩
theorem FS.peer_not {s : FS} {n : Nat} (h0 : s.pe 0 = false) (h : ¬ 0 < s.peer n) : ∀ d, d < 17 → s.cand n d = true → 8 ≤ s.asked d := by
  have hb := s.peerTo_best n 17
  have h' : ¬ 0 < (s.peerTo n 17).1 := h
  generalize s.peerTo n 17 = p at hb h'
  cases hb with
  | none h => exact h
  | some d hd h1 h2 h3 =>
    have : d = 0 := by simp at h'; omega
    subst this
    simp [FS.cand, h0] at h1

theorem FS.asked_sum (s : FS) (dev : Int) : s.asked dev = sumTo (fun n => (s.asks dev n).toNat) 32 := countP_sumTo _ _

/-- One more is asked. -/
theorem FS.asked_putAsk (s : FS) (n : Nat) (dev d : Int) (hn : n < 32) (h1 : s.is n = 1) : (s.putAsk n dev).asked d = s.asked d + if dev = d then 1 else 0 := by
  rw [FS.asked_sum, FS.asked_sum]
  have h := sumTo_upd (f := fun k => ((s.putAsk n dev).asks d k).toNat) (g := fun k => (s.asks d k).toNat) hn (fun k _ hk => by
    simp [FS.asks, FS.putAsk, FS.putIs, FS.putOf, hk])
  have e1 : (s.asks d n).toNat = 0 := by simp [FS.asks, h1]
  have e2 : ((s.putAsk n dev).asks d n).toNat = if dev = d then 1 else 0 := by
    by_cases hd : dev = d <;> simp [FS.asks, FS.putAsk, FS.putIs, FS.putOf, hd]
  simp only [e1, e2] at h
  omega

theorem FS.free_iff (s : FS) (n : Nat) : s.free n = true ↔ s.is n = 1 ∧ 0 < s.peer n := by
  simp [FS.free]
theorem FS.next_cases (s : FS) : (s.next = none ∧ s.ask = s ∧ s.asksN = .tuple #[.int .i64 0, .int .i64 0, .bool false] ∧ ∀ n, n < 32 → s.is n = 1 → ¬ 0 < s.peer n) ∨
    ∃ n d : Nat, n < 32 ∧ 1 ≤ d ∧ d < 17 ∧ s.is n = 1 ∧ s.peer n = d ∧ s.cand n d = true ∧ s.next = some n ∧ s.ask = s.putAsk n d ∧ s.asksN = .tuple #[.int .i64 n, .int .i64 d, .bool true] := by
  cases h : s.next with
  | none =>
    left
    refine ⟨rfl, by simp [FS.ask, h], by simp [FS.asksN, h], fun n hn h1 h2 => ?_⟩
    rw [FS.next, List.find?_range_eq_none] at h
    have := h n hn
    rw [(s.free_iff n).2 ⟨h1, h2⟩] at this
    cases this
  | some n =>
    right
    have h0 := h
    rw [FS.next, List.find?_range_eq_some] at h
    obtain ⟨h1, h2⟩ := (s.free_iff n).1 h.1
    obtain ⟨d, hd, hd1, hd2, hc⟩ := FS.peer_pos h2
    exact ⟨n, d, List.mem_range.1 h.2.1, hd1, hd2, h1, hd, hc, rfl, by simp [FS.ask, h0, hd], by simp [FS.asksN, h0, hd]⟩

end Go.Proofs.Ytcapbfhiiiggdaa
