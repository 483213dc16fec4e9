/- Texts of digests there and back: plain laws. No conditions beyond those that each statement types. -/
import Derived.Test.YtccicfmaapaifaaDoorShaM
namespace Go.Proofs.YtccicfmaapaifaaDoor
open Go.RowKit

theorem undig_dig : ∀ n, n < 16 → undig (dig n) = n := by
  have h : ∀ n : Fin 16, undig (dig n.val) = n.val := by decide +kernel
  exact fun n hn => h ⟨n, hn⟩
theorem dig_undig (c : UInt8) (h : undig c < 16) : dig (undig c) = c := by
  have h2 : ∀ n : Fin 256, undig (UInt8.ofNat n.val) < 16 → dig (undig (UInt8.ofNat n.val)) = UInt8.ofNat n.val := by decide +kernel
  have := h2 ⟨c.toNat, c.toNat_lt⟩
  simp only [UInt8.ofNat_toNat] at this
  exact this h
theorem join_nib : ∀ q r, q < 16 → r < 16 → UInt8.ofNat (((UInt8.ofNat ((0 * 16) % 256 ||| q)).toNat * 16) % 256 ||| r) = UInt8.ofNat (q * 16 + r) := by
  have h : ∀ q r : Fin 16, UInt8.ofNat (((UInt8.ofNat ((0 * 16) % 256 ||| q.val)).toNat * 16) % 256 ||| r.val) = UInt8.ofNat (q.val * 16 + r.val) := by decide +kernel
  exact fun q r hq hr => h ⟨q, hq⟩ ⟨r, hr⟩

theorem textTo_get (f : Nat → UInt8) : ∀ n k, k < n → (textTo f n).getD (2 * k) 0 = dig ((f k).toNat / 16) ∧ (textTo f n).getD (2 * k + 1) 0 = dig ((f k).toNat % 16)
  | 0, k, h => by omega
  | n + 1, k, h => by
    have hl := textTo_length f n
    show (textTo f n ++ [dig ((f n).toNat / 16)] ++ [dig ((f n).toNat % 16)]).getD (2 * k) 0 = _ ∧ (textTo f n ++ [dig ((f n).toNat / 16)] ++ [dig ((f n).toNat % 16)]).getD (2 * k + 1) 0 = _
    rw [List.append_assoc]
    by_cases hk : k < n
    · have ih := textTo_get f n k hk
      rw [List.getD_eq_getElem?_getD] at ih ⊢
      rw [List.getD_eq_getElem?_getD] at ih ⊢
      rw [List.getElem?_append_left (by omega), List.getElem?_append_left (by omega)]
      exact ih
    · obtain rfl : k = n := by omega
      rw [List.singleton_append, List.getD_eq_getElem?_getD, List.getD_eq_getElem?_getD, List.getElem?_append_right (by omega), List.getElem?_append_right (by omega), hl]
      rw [show 2 * k - 2 * k = 0 by omega, show 2 * k + 1 - 2 * k = 1 by omega]
      exact ⟨rfl, rfl⟩

theorem ofTo_text (f : Nat → UInt8) (n : Nat) : ∀ k, k ≤ n → ∀ j, ofTo (textTo f n) (2 * k) j = if j < k then f j else 0
  | 0, _, j => rfl
  | k + 1, hk, j => by
    have ih := ofTo_text f n k (by omega)
    obtain ⟨g0, g1⟩ := textTo_get f n k (by omega)
    have h256 := (f k).toNat_lt
    have d0 : 2 * k / 2 = k := by omega
    have d1 : (2 * k + 1) / 2 = k := by omega
    have z : ofTo (textTo f n) (2 * k) k = 0 := by rw [ih k, if_neg (by omega)]
    have e0 : ∀ j, ofTo (textTo f n) (2 * k + 1) j = if j = k then UInt8.ofNat ((0 * 16) % 256 ||| (f k).toNat / 16) else ofTo (textTo f n) (2 * k) j := fun j => by
      show (if j = 2 * k / 2 then UInt8.ofNat (((ofTo (textTo f n) (2 * k) (2 * k / 2)).toNat * 16) % 256 ||| undig ((textTo f n).getD (2 * k) 0)) else ofTo (textTo f n) (2 * k) j) = _
      rw [d0, z, g0, undig_dig _ (by omega)]
      rfl
    show (if j = (2 * k + 1) / 2 then UInt8.ofNat (((ofTo (textTo f n) (2 * k + 1) ((2 * k + 1) / 2)).toNat * 16) % 256 ||| undig ((textTo f n).getD (2 * k + 1) 0)) else ofTo (textTo f n) (2 * k + 1) j) = _
    rw [d1, e0 k, if_pos rfl, g1, undig_dig _ (by omega), join_nib _ _ (by omega) (by omega), e0 j]
    by_cases hj : j = k
    · subst hj
      rw [if_pos rfl, if_pos (by omega), show (f j).toNat / 16 * 16 + (f j).toNat % 16 = (f j).toNat by omega, UInt8.ofNat_toNat]
    · rw [if_neg hj, if_neg hj, ih j]
      by_cases h2 : j < k
      · rw [if_pos h2, if_pos (by omega)]
      · rw [if_neg h2, if_neg (by omega)]

theorem ofOk_text (f : Nat → UInt8) : ofOk (textTo f 32) = true := by
  unfold ofOk allDig
  rw [Bool.and_eq_true, List.all_eq_true]
  refine ⟨by simp [textTo_length], fun c hc => ?_⟩
  obtain ⟨j, hj, rfl⟩ := List.mem_iff_getElem.1 hc
  rw [textTo_length] at hj
  have h256 := (f (j / 2)).toNat_lt
  obtain ⟨g0, g1⟩ := textTo_get f 32 (j / 2) (by omega)
  have hg : (textTo f 32)[j]'(by rw [textTo_length]; exact hj) = (textTo f 32).getD j 0 := by rw [List.getD_eq_getElem?_getD, List.getElem?_eq_getElem (by rw [textTo_length]; exact hj)]; rfl
  rw [hg]
  rcases Nat.mod_two_eq_zero_or_one j with h | h
  · rw [show 2 * (j / 2) = j by omega] at g0
    rw [g0, undig_dig _ (by omega)]; simp; omega
  · rw [show 2 * (j / 2) + 1 = j by omega] at g1
    rw [g1, undig_dig _ (by omega)]; simp; omega

/-- There and back. -/
theorem ofV_text (f : Nat → UInt8) : hashC (ofV (textTo f 32)) = hashC f := words8 fun i hi => by
  unfold ofV
  rw [ofOk_text, if_pos rfl]
  have := ofTo_text f 32 32 (Nat.le_refl _) i
  rw [if_pos hi] at this
  exact this

theorem ofTo_digits (s : List UInt8) (hd : ∀ j, j < 64 → undig (s.getD j 0) < 16) : ∀ k, k ≤ 32 → ∀ j, ofTo s (2 * k) j = if j < k then UInt8.ofNat (undig (s.getD (2 * j) 0) * 16 + undig (s.getD (2 * j + 1) 0)) else 0
  | 0, _, j => rfl
  | k + 1, hk, j => by
    have ih := ofTo_digits s hd k (by omega)
    have h0 := hd (2 * k) (by omega)
    have h1 := hd (2 * k + 1) (by omega)
    have d0 : 2 * k / 2 = k := by omega
    have d1 : (2 * k + 1) / 2 = k := by omega
    have z : ofTo s (2 * k) k = 0 := by rw [ih k, if_neg (by omega)]
    have e0 : ∀ j, ofTo s (2 * k + 1) j = if j = k then UInt8.ofNat ((0 * 16) % 256 ||| undig (s.getD (2 * k) 0)) else ofTo s (2 * k) j := fun j => by
      show (if j = 2 * k / 2 then UInt8.ofNat (((ofTo s (2 * k) (2 * k / 2)).toNat * 16) % 256 ||| undig (s.getD (2 * k) 0)) else ofTo s (2 * k) j) = _
      rw [d0, z]
      rfl
    show (if j = (2 * k + 1) / 2 then UInt8.ofNat (((ofTo s (2 * k + 1) ((2 * k + 1) / 2)).toNat * 16) % 256 ||| undig (s.getD (2 * k + 1) 0)) else ofTo s (2 * k + 1) j) = _
    rw [d1, e0 k, if_pos rfl, join_nib _ _ h0 h1, e0 j]
    by_cases hj : j = k
    · subst hj
      rw [if_pos rfl, if_pos (by omega)]
    · rw [if_neg hj, if_neg hj, ih j]
      by_cases h2 : j < k
      · rw [if_pos h2, if_pos (by omega)]
      · rw [if_neg h2, if_neg (by omega)]

theorem textTo_of (s : List UInt8) (f : Nat → UInt8) (hl : s.length = 64) (hd : ∀ j, j < 64 → undig (s.getD j 0) < 16) (hf : ∀ j, j < 32 → f j = UInt8.ofNat (undig (s.getD (2 * j) 0) * 16 + undig (s.getD (2 * j + 1) 0))) : ∀ n, n ≤ 32 → textTo f n = s.take (2 * n)
  | 0, _ => by simp [textTo]
  | n + 1, hn => by
    have ih := textTo_of s f hl hd hf n (by omega)
    have h0 := hd (2 * n) (by omega)
    have h1 := hd (2 * n + 1) (by omega)
    have hv : (f n).toNat = undig (s.getD (2 * n) 0) * 16 + undig (s.getD (2 * n + 1) 0) := by
      rw [hf n (by omega), UInt8.toNat_ofNat', Nat.mod_eq_of_lt (by omega)]
    show textTo f n ++ [dig ((f n).toNat / 16)] ++ [dig ((f n).toNat % 16)] = _
    rw [ih, hv, show (undig (s.getD (2 * n) 0) * 16 + undig (s.getD (2 * n + 1) 0)) / 16 = undig (s.getD (2 * n) 0) by omega, show (undig (s.getD (2 * n) 0) * 16 + undig (s.getD (2 * n + 1) 0)) % 16 = undig (s.getD (2 * n + 1) 0) by omega, dig_undig _ h0, dig_undig _ h1, show 2 * (n + 1) = 2 * n + 1 + 1 by omega]
    rw [List.take_succ_eq_append_getElem (by omega), List.take_succ_eq_append_getElem (by omega)]
    have g0 : s.getD (2 * n) 0 = s[2 * n]'(by omega) := by rw [List.getD_eq_getElem?_getD, List.getElem?_eq_getElem (by omega)]; rfl
    have g1 : s.getD (2 * n + 1) 0 = s[2 * n + 1]'(by omega) := by rw [List.getD_eq_getElem?_getD, List.getElem?_eq_getElem (by omega)]; rfl
    rw [g0, g1]

theorem text_ofV (s : List UInt8) (h : ofOk s = true) : textTo (ofV s) 32 = s := by
  have h2 := h
  unfold ofOk allDig at h2
  rw [Bool.and_eq_true, List.all_eq_true] at h2
  obtain ⟨hl, ha⟩ := h2
  have hl' : s.length = 64 := by simpa using hl
  have hd : ∀ j, j < 64 → undig (s.getD j 0) < 16 := fun j hj => by
    rw [List.getD_eq_getElem?_getD, List.getElem?_eq_getElem (by omega)]
    simpa using ha _ (List.getElem_mem (by omega))
  rw [textTo_of s (ofV s) hl' hd (fun j hj => by
    unfold ofV
    rw [h, if_pos rfl]
    have := ofTo_digits s hd 32 (Nat.le_refl _) j
    rw [if_pos hj] at this
    exact this) 32 (Nat.le_refl _), List.take_of_length_le (by omega)]
theorem ofV_no (s : List UInt8) (h : ofOk s = false) : ofV s = fun _ => 0 := by
  unfold ofV
  rw [h]; rfl
end Go.Proofs.YtccicfmaapaifaaDoor
