/- Patterns as plain lists: what a text says, what an element holds of, what matches. No program here. No conditions beyond those that each statement types. -/
import Derived.Test.YtnbeamggbehclaaBase
namespace Go.Proofs.Ytnbeamggbehclaa

/-- An element. -/
inductive El where
  | all
  | some
  | any
  | set (no : Bool) (rs : List (UInt8 × UInt8))
  | byt (c : UInt8)
def El.many : El → Bool
  | .all => true
  | .some => true
  | _ => false

def lowerB (c : UInt8) : UInt8 := if 65 ≤ c ∧ c ≤ 90 then c + 32 else c
def upperB (c : UInt8) : UInt8 := if 97 ≤ c ∧ c ≤ 122 then c - 32 else c
def otherB (c : UInt8) : UInt8 := if 97 ≤ c ∧ c ≤ 122 then c - 32 else if 65 ≤ c ∧ c ≤ 90 then c + 32 else c
def inB (rs : List (UInt8 × UInt8)) (c : UInt8) : Bool := rs.any fun r => decide (r.1 ≤ c ∧ c ≤ r.2)

/-- As the program asks it. -/
def El.holds (fold : Bool) (x : El) (c : UInt8) : Bool :=
  match x with
  | .all => true
  | .some => c != 47
  | .any => c != 47
  | .set no rs => c != 47 && (no != (inB rs c || (fold && (inB rs (lowerB c) || inB rs (upperB c)))))
  | .byt w => c == w || (fold && (lowerB c == lowerB w))
/-- As the document asks it. -/
def El.holds' (fold : Bool) (x : El) (c : UInt8) : Bool :=
  match x with
  | .all => true
  | .some => c != 47
  | .any => c != 47
  | .set no rs => c != 47 && ((inB rs c || (fold && inB rs (otherB c))) != no)
  | .byt w => c == w || (fold && (otherB c == w))

theorem u8_eq {a b : UInt8} : a = b ↔ a.toNat = b.toNat := UInt8.toNat_inj.symm
theorem other_lower (c w : UInt8) : (c == w || (lowerB c == lowerB w)) = (c == w || (otherB c == w)) := by
  rw [Bool.eq_iff_iff]
  simp only [Bool.or_eq_true, beq_iff_eq, u8_eq]
  unfold lowerB otherB
  have h1 := c.toNat_lt
  have h2 := w.toNat_lt
  have ha : ∀ x : UInt8, (x + 32).toNat = (x.toNat + 32) % 256 := fun x => UInt8.toNat_add x 32
  have hs : ∀ x : UInt8, (x - 32).toNat = (224 + x.toNat) % 256 := fun x => UInt8.toNat_sub x 32
  have k1 : (65 : UInt8).toNat = 65 := rfl
  have k2 : (90 : UInt8).toNat = 90 := rfl
  have k3 : (97 : UInt8).toNat = 97 := rfl
  have k4 : (122 : UInt8).toNat = 122 := rfl
  simp only [UInt8.le_iff_toNat_le, apply_ite UInt8.toNat, ha, hs, k1, k2, k3, k4]
  generalize c.toNat = x at *
  generalize w.toNat = y at *
  by_cases p1 : 65 ≤ x ∧ x ≤ 90 <;> by_cases p2 : 65 ≤ y ∧ y ≤ 90 <;> by_cases p3 : 97 ≤ x ∧ x ≤ 122 <;> simp only [p1, p2, p3, if_true, if_false, and_self] <;> omega
theorem inB_fold (rs : List (UInt8 × UInt8)) (c : UInt8) : (inB rs c || (inB rs (lowerB c) || inB rs (upperB c))) = (inB rs c || inB rs (otherB c)) := by
  unfold lowerB upperB otherB
  by_cases h1 : (65 : UInt8) ≤ c ∧ c ≤ 90
  · have h2 : ¬ ((97 : UInt8) ≤ c ∧ c ≤ 122) := fun h => by
      have a := UInt8.le_iff_toNat_le.1 h1.2
      have b := UInt8.le_iff_toNat_le.1 h.1
      have : (97 : UInt8).toNat = 97 := rfl
      have : (90 : UInt8).toNat = 90 := rfl
      omega
    rw [if_pos h1, if_neg h2, if_neg h2]
    cases inB rs c <;> cases inB rs (c + 32) <;> rfl
  · rw [if_neg h1]
    by_cases h2 : (97 : UInt8) ≤ c ∧ c ≤ 122
    · rw [if_pos h2]
      cases inB rs c <;> cases inB rs (c - 32) <;> rfl
    · rw [if_neg h2]
      cases inB rs c <;> rfl
theorem El.holds_same (fold : Bool) (x : El) (c : UInt8) : x.holds fold c = x.holds' fold c := by
  cases x with
  | all => rfl
  | some => rfl
  | any => rfl
  | set no rs =>
    unfold El.holds El.holds'
    cases fold with
    | false => simp only [Bool.false_and, Bool.or_false]; congr 1; cases no <;> cases inB rs c <;> rfl
    | true =>
      simp only [Bool.true_and]
      rw [inB_fold]
      congr 1
      cases no <;> cases (inB rs c || inB rs (otherB c)) <;> rfl
  | byt w =>
    unfold El.holds El.holds'
    cases fold with
    | false => rfl
    | true => simp only [Bool.true_and]; exact other_lower c w

/-! What matches. -/
def star (h : UInt8 → Bool) (f : List UInt8 → Bool) : List UInt8 → Bool
  | [] => f []
  | c :: t => f (c :: t) || (h c && star h f t)
def once (h : UInt8 → Bool) (f : List UInt8 → Bool) : List UInt8 → Bool
  | [] => false
  | c :: t => h c && f t
def mat (fold : Bool) : List El → List UInt8 → Bool
  | [], t => t.isEmpty
  | x :: r, t => if x.many then star (x.holds fold) (mat fold r) t else once (x.holds fold) (mat fold r) t
/-- One element, of a whole text. -/
def Alone (fold : Bool) (x : El) (t : List UInt8) : Prop := if x.many then ∀ c ∈ t, x.holds fold c = true else ∃ c, t = [c] ∧ x.holds fold c = true
theorem star_iff (h : UInt8 → Bool) (f : List UInt8 → Bool) : ∀ t, star h f t = true ↔ ∃ k, k ≤ t.length ∧ (∀ c ∈ t.take k, h c = true) ∧ f (t.drop k) = true
  | [] => by
    simp only [star, List.length_nil]
    exact ⟨fun hf => ⟨0, by omega, by simp, by simpa using hf⟩, fun ⟨k, _, _, hf⟩ => by simpa using hf⟩
  | c :: t => by
    simp only [star, Bool.or_eq_true, Bool.and_eq_true]
    rw [star_iff h f t]
    constructor
    · rintro (hf | ⟨hc, k, hk, ha, hf⟩)
      · exact ⟨0, by omega, by simp, by simpa using hf⟩
      · refine ⟨k + 1, by simp; omega, ?_, by simpa using hf⟩
        intro d hd
        rw [List.take_succ_cons] at hd
        rcases List.mem_cons.1 hd with rfl | hd
        · exact hc
        · exact ha d hd
    · rintro ⟨k, hk, ha, hf⟩
      cases k with
      | zero => left; simpa using hf
      | succ k =>
        right
        rw [List.take_succ_cons] at ha
        refine ⟨ha c (List.mem_cons_self), k, by simp at hk; omega, fun d hd => ha d (List.mem_cons_of_mem _ hd), by simpa using hf⟩
theorem once_iff (h : UInt8 → Bool) (f : List UInt8 → Bool) (t : List UInt8) : once h f t = true ↔ ∃ k, k ≤ t.length ∧ (∃ c, t.take k = [c] ∧ h c = true) ∧ f (t.drop k) = true := by
  cases t with
  | nil => simp [once]
  | cons c t =>
    simp only [once, Bool.and_eq_true]
    constructor
    · rintro ⟨hc, hf⟩
      exact ⟨1, by simp, ⟨c, by simp, hc⟩, by simpa using hf⟩
    · rintro ⟨k, hk, ⟨d, he, hd⟩, hf⟩
      cases k with
      | zero => simp at he
      | succ k =>
        rw [List.take_succ_cons] at he
        injection he with e1 e2
        subst e1
        have hk0 : k = 0 ∨ t = [] := by
          cases k with
          | zero => exact .inl rfl
          | succ k => cases t with
            | nil => exact .inr rfl
            | cons a t => simp at e2
        rcases hk0 with rfl | rfl
        · exact ⟨hd, by simpa using hf⟩
        · exact ⟨hd, by simpa using hf⟩
theorem mat_cons (fold : Bool) (x : El) (r : List El) (t : List UInt8) : mat fold (x :: r) t = true ↔ ∃ k, k ≤ t.length ∧ Alone fold x (t.take k) ∧ mat fold r (t.drop k) = true := by
  rw [mat]
  unfold Alone
  cases x.many with
  | true => simp only [if_true]; exact star_iff _ _ t
  | false => simp only [Bool.false_eq_true, if_false]; exact once_iff _ _ t

/-- The bytes from one place up to another one. -/
def seg (l : List UInt8) (a b : Nat) : List UInt8 := (l.drop a).take (b - a)
theorem seg_length (l : List UInt8) {a b : Nat} (h : b ≤ l.length) : (seg l a b).length = b - a := by simp [seg]; omega
theorem seg_take (l : List UInt8) (a b k : Nat) (hk : k ≤ b - a) : (seg l a b).take k = seg l a (a + k) := by
  unfold seg
  rw [List.take_take]
  congr 1
  omega
theorem seg_drop (l : List UInt8) (a b k : Nat) : (seg l a b).drop k = seg l (a + k) b := by
  unfold seg
  rw [List.drop_take, List.drop_drop]
  congr 1
  omega
theorem seg_succ (l : List UInt8) (a b : Nat) (c : UInt8) (h : a ≤ b) (hc : l[b]? = some c) : seg l a (b + 1) = seg l a b ++ [c] := by
  unfold seg
  have e : b + 1 - a = (b - a) + 1 := by omega
  rw [e, List.take_add_one, List.getElem?_drop]
  rw [show a + (b - a) = b by omega, hc]
  rfl
theorem seg_self (l : List UInt8) (a : Nat) : seg l a a = [] := by simp [seg]

/-- What the program keeps: at which ends the elements may have come to their end. -/
def nextE (fold : Bool) (x : El) (l : List UInt8) (now : Nat → Bool) : Nat → Bool
  | 0 => if x.many then now 0 else false
  | i + 1 => if x.many then now (i + 1) || (nextE fold x l now i && x.holds fold (l.getD i 0)) else now i && x.holds fold (l.getD i 0)
def endsE (fold : Bool) (l : List UInt8) : List El → (Nat → Bool) → Nat → Bool
  | [], now => now
  | x :: r, now => endsE fold l r (nextE fold x l now)
theorem nextE_iff (fold : Bool) (x : El) (l : List UInt8) (now : Nat → Bool) : ∀ i, i ≤ l.length → (nextE fold x l now i = true ↔ ∃ a, a ≤ i ∧ now a = true ∧ Alone fold x (seg l a i))
  | 0, _ => by
    unfold nextE Alone
    cases hx : x.many with
    | true =>
      simp only [if_true]
      exact ⟨fun h => ⟨0, Nat.le_refl _, h, by simp [seg_self]⟩, fun ⟨a, ha, h, _⟩ => by obtain rfl : a = 0 := by omega
                                                                                         exact h⟩
    | false =>
      simp only [Bool.false_eq_true, if_false, false_iff]
      rintro ⟨a, ha, _, c, h, _⟩
      obtain rfl : a = 0 := by omega
      simp [seg_self] at h
  | i + 1, hi => by
    have ih := nextE_iff fold x l now i (by omega)
    obtain ⟨c, hc⟩ : ∃ c, l[i]? = some c := ⟨_, List.getElem?_eq_getElem (by omega)⟩
    have hg : l.getD i 0 = c := by simp [List.getD, hc]
    rw [nextE, hg]
    unfold Alone at ih ⊢
    cases hx : x.many with
    | true =>
      rw [hx] at ih
      simp only [if_true] at ih ⊢
      rw [Bool.or_eq_true, Bool.and_eq_true, ih]
      constructor
      · rintro (h | ⟨⟨a, ha, hn, hall⟩, hh⟩)
        · exact ⟨i + 1, Nat.le_refl _, h, by simp [seg_self]⟩
        · refine ⟨a, by omega, hn, fun d hd => ?_⟩
          rw [seg_succ l a i c ha hc] at hd
          rcases List.mem_append.1 hd with h | h
          · exact hall d h
          · simp at h; rw [h]; exact hh
      · rintro ⟨a, ha, hn, hall⟩
        by_cases he : a = i + 1
        · left; rw [← he]; exact hn
        · right
          rw [seg_succ l a i c (by omega) hc] at hall
          exact ⟨⟨a, by omega, hn, fun d hd => hall d (List.mem_append_left _ hd)⟩, hall c (by simp)⟩
    | false =>
      simp only [Bool.false_eq_true, if_false, Bool.and_eq_true]
      constructor
      · rintro ⟨hn, hh⟩
        exact ⟨i, by omega, hn, c, by rw [seg_succ l i i c (Nat.le_refl _) hc, seg_self]; rfl, hh⟩
      · rintro ⟨a, ha, hn, d, hd, hh⟩
        have hl := congrArg List.length hd
        rw [seg_length l hi] at hl
        obtain rfl : a = i := by simp at hl; omega
        rw [seg_succ l a a c (Nat.le_refl _) hc, seg_self] at hd
        simp at hd
        exact ⟨hn, hd ▸ hh⟩
theorem endsE_iff (fold : Bool) (l : List UInt8) : ∀ (els : List El) (now : Nat → Bool) (i : Nat), i ≤ l.length → (endsE fold l els now i = true ↔ ∃ a, a ≤ i ∧ now a = true ∧ mat fold els (seg l a i) = true)
  | [], now, i, hi => by
    simp only [endsE, mat, List.isEmpty_iff]
    constructor
    · intro h; exact ⟨i, Nat.le_refl _, h, seg_self l i⟩
    · rintro ⟨a, ha, hn, he⟩
      have := congrArg List.length he
      rw [seg_length l hi] at this
      obtain rfl : a = i := by simp at this; omega
      exact hn
  | x :: r, now, i, hi => by
    rw [endsE, endsE_iff fold l r _ i hi]
    constructor
    · rintro ⟨b, hb, hn, hm⟩
      obtain ⟨a, ha, hna, hal⟩ := (nextE_iff fold x l now b (by omega)).1 hn
      refine ⟨a, by omega, hna, (mat_cons ..).2 ⟨b - a, ?_, ?_, ?_⟩⟩
      · rw [seg_length l hi]; omega
      · rw [seg_take l a i _ (by omega), show a + (b - a) = b by omega]; exact hal
      · rw [seg_drop, show a + (b - a) = b by omega]; exact hm
    · rintro ⟨a, ha, hna, hm⟩
      obtain ⟨k, hk, hal, hr⟩ := (mat_cons ..).1 hm
      rw [seg_length l hi] at hk
      rw [seg_take l a i _ hk] at hal
      rw [seg_drop] at hr
      exact ⟨a + k, by omega, (nextE_iff fold x l now (a + k) (by omega)).2 ⟨a, by omega, hna, hal⟩, hr⟩
theorem endsE_start (fold : Bool) (l : List UInt8) (els : List El) (a i : Nat) (hi : i ≤ l.length) : endsE fold l els (fun k => k == a) i = (decide (a ≤ i) && mat fold els (seg l a i)) := by
  rw [Bool.eq_iff_iff, endsE_iff fold l els _ i hi]
  simp only [beq_iff_eq, Bool.and_eq_true, decide_eq_true_eq]
  constructor
  · rintro ⟨b, hb, rfl, hm⟩; exact ⟨hb, hm⟩
  · rintro ⟨ha, hm⟩; exact ⟨a, ha, rfl, hm⟩

/-- Whether a path matches. -/
def fromOk (rooted : Bool) (l : List UInt8) (a : Nat) : Bool := a == 0 || (!rooted && l[a - 1]? == some 47)
def endOk (l : List UInt8) (b : Nat) : Bool := b == l.length || l[b]? == some 47
def matAt (fold rooted : Bool) (els : List El) (l : List UInt8) (a : Nat) : Bool :=
  fromOk rooted l a && (List.range (l.length + 1)).any fun b => decide (a ≤ b) && (endOk l b && mat fold els (seg l a b))
def matchP (fold rooted : Bool) (els : List El) (l : List UInt8) : Bool :=
  decide (l.length ≤ 160) && (List.range (l.length + 1)).any (matAt fold rooted els l)
theorem matchP_iff (fold rooted : Bool) (els : List El) (l : List UInt8) : matchP fold rooted els l = true ↔ l.length ≤ 160 ∧ ∃ a b, a ≤ b ∧ b ≤ l.length ∧ fromOk rooted l a = true ∧ endOk l b = true ∧ mat fold els (seg l a b) = true := by
  unfold matchP matAt
  simp only [Bool.and_eq_true, decide_eq_true_eq, List.any_eq_true, List.mem_range]
  constructor
  · rintro ⟨h1, a, ha, hf, b, hb, hab, he, hm⟩
    exact ⟨h1, a, b, hab, by omega, hf, he, hm⟩
  · rintro ⟨h1, a, b, hab, hb, hf, he, hm⟩
    exact ⟨h1, a, by omega, hf, b, by omega, hab, he, hm⟩
end Go.Proofs.Ytnbeamggbehclaa
