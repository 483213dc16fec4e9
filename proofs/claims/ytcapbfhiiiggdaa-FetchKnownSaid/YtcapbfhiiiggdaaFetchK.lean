/- The plain law of FetchFair: as long as nothing is answered. No program, no conditions beyond those that each statement types. -/
import Derived.Test.YtcapbfhiiiggdaaFetchQ
namespace Go.Proofs.Ytcapbfhiiiggdaa
open Go.RowKit

theorem FS.next_first {s : FS} {n : Nat} (h : s.next = some n) : ∀ m, m < n → s.free m = false := fun m hm => by
  rw [FS.next, List.find?_range_eq_some] at h
  have := h.2.2 m hm
  simpa using this

theorem lt_of_index {l : List Int} (h : l.Pairwise (· < ·)) {i j : Nat} {x y : Int} (hx : l[i]? = some x) (hy : l[j]? = some y) (hij : i < j) : x < y := by
  obtain ⟨hi, rfl⟩ := List.getElem?_eq_some_iff.1 hx
  obtain ⟨hj, rfl⟩ := List.getElem?_eq_some_iff.1 hy
  exact (List.pairwise_iff_getElem.1 h) i j hi hj hij

theorem mem_index {l : List Int} {x : Int} (h : x ∈ l) : ∃ i : Nat, l[i]? = some x := by
  obtain ⟨i, hi, rfl⟩ := List.mem_iff_getElem.1 h
  exact ⟨i, by simp [hi]⟩
theorem mem_take_index {l : List Int} {x : Int} {k : Nat} : x ∈ l.take k ↔ ∃ i : Nat, i < k ∧ l[i]? = some x := by
  constructor
  · intro h
    obtain ⟨i, hi⟩ := mem_index h
    rw [List.getElem?_take] at hi
    split at hi
    · exact ⟨i, by assumption, hi⟩
    · cases hi
  · rintro ⟨i, hi, h⟩
    refine List.mem_of_getElem? (i := i) ?_
    rw [List.getElem?_take, if_pos hi, h]

/-- Behind k asks: q whole turns and j more. -/
structure FInv (bs ps : List Int) (s : FS) (k q j : Nat) : Prop where
  kq : k = q * ps.length + j
  hj : ps ≠ [] → j < ps.length
  hn : ps = [] → q = 0 ∧ j = 0
  is : ∀ n : Nat, n < 32 → s.is n = if (n : Int) ∈ bs.take k then 2 else if (n : Int) ∈ bs then 1 else 0
  tr : ∀ n d, s.tr n d = false
  pe : ∀ d : Nat, s.pe d = decide ((d : Int) ∈ ps)
  ld : ∀ i d : Nat, ps[i]? = some (d : Int) → s.asked d = q + if i < j then 1 else 0
  kb : k ≤ bs.length
  q8 : q ≤ 8
  q0 : q = 8 → j = 0

theorem FInv.start (bs ps : List Int) : FInv bs ps (FS.made bs ps) 0 0 0 := by
  refine ⟨by simp, fun h => List.length_pos_iff.2 h, fun _ => ⟨rfl, rfl⟩, fun n _ => by simp [FS.made], fun _ _ => rfl, fun _ => rfl, fun i d _ => ?_, by simp, by omega, fun _ => rfl⟩
  rw [FS.asked_sum, sumTo_congr (g := fun _ => 0) (fun k hk => by
    unfold FS.asks FS.made
    dsimp only
    split <;> simp), sumTo_const]
  simp

theorem FInv.who {bs ps s k q j} (I : FInv bs ps s k q j) (hps : ps.Pairwise (· < ·)) (hpb : ∀ x ∈ ps, 1 ≤ x ∧ x ≤ 16) (hq : q < 8) (hp : ps ≠ []) : ∃ d : Nat, ps[j]? = some (d : Int) ∧ 1 ≤ d ∧ d < 17 ∧ ∀ n, s.peer n = d := by
  have hj := I.hj hp
  have hb := hpb _ (List.getElem_mem hj)
  obtain ⟨d, hd⟩ : ∃ d : Nat, ps[j] = d := ⟨ps[j].toNat, by omega⟩
  have hdj : ps[j]? = some (d : Int) := by simp [hj, hd]
  refine ⟨d, hdj, by omega, by omega, fun n => FS.peer_some d (by omega) ?_ ?_ ?_⟩
  · have : (d : Int) ∈ ps := List.mem_of_getElem? hdj
    simp [FS.cand, I.pe, I.tr, this]
  · have := I.ld j d hdj
    simp at this; omega
  · intro e he hc
    have hm : (e : Int) ∈ ps := by
      have h1 : s.pe e = true := by
        unfold FS.cand at hc
        simp only [Bool.and_eq_true] at hc
        exact hc.1
      rw [I.pe] at h1
      simpa using h1
    obtain ⟨i, hi⟩ := mem_index hm
    have h1 := I.ld j d hdj
    have h2 := I.ld i e hi
    simp at h1
    refine ⟨by omega, fun hlt => ?_⟩
    have hij : i < j := by
      rcases Nat.lt_trichotomy i j with h | h | h
      · exact h
      · subst h; rw [hi] at hdj; simp at hdj; omega
      · have := lt_of_index hps hdj hi h; omega
    rw [if_pos hij] at h2
    omega

theorem FInv.nobody {bs ps s k q j} (I : FInv bs ps s k q j) (h : q = 8 ∨ ps = []) (n : Nat) : s.peer n = 0 := by
  refine FS.peer_none fun d hd hc => ?_
  have hm : (d : Int) ∈ ps := by
    have h1 : s.pe d = true := by
      unfold FS.cand at hc
      simp only [Bool.and_eq_true] at hc
      exact hc.1
    rw [I.pe] at h1
    simpa using h1
  obtain ⟨i, hi⟩ := mem_index hm
  have := I.ld i d hi
  rcases h with h | h
  · omega
  · subst h; cases hm

theorem FInv.k8 {bs ps s k q j} (I : FInv bs ps s k q j) : k ≤ 8 * ps.length ∧ (k ≠ 8 * ps.length → q < 8 ∧ ps ≠ []) := by
  have h1 := I.kq
  have h2 := I.q8
  constructor
  · by_cases hq : q = 8
    · have := I.q0 hq; subst hq; omega
    · by_cases hp : ps = []
      · have := I.hn hp; rw [this.1, this.2] at h1; omega
      · have := I.hj hp
        have h3 : (q + 1) * ps.length ≤ 8 * ps.length := Nat.mul_le_mul_right _ (by omega)
        rw [Nat.add_mul] at h3
        omega
  · intro hk
    refine ⟨?_, fun hp => ?_⟩
    · by_cases hq : q = 8
      · have := I.q0 hq; subst hq; omega
      · omega
    · have := I.hn hp
      rw [this.1, this.2] at h1
      subst hp
      simp at hk h1
      omega

theorem FInv.step {bs ps s k q j} (I : FInv bs ps s k q j) (hps : ps.Pairwise (· < ·)) (hpb : ∀ x ∈ ps, 1 ≤ x ∧ x ≤ 16) (hbs : bs.Pairwise (· < ·)) (hbb : ∀ x ∈ bs, 0 ≤ x ∧ x ≤ 31) :
    (s.asksN = .tuple #[.int .i64 0, .int .i64 0, .bool false] ∧ s.ask = s ∧ (k = bs.length ∨ k = 8 * ps.length)) ∨
    ∃ n d : Nat, bs[k]? = some (n : Int) ∧ s.asksN = .tuple #[.int .i64 n, .int .i64 d, .bool true] ∧ ∃ q' j', FInv bs ps s.ask (k + 1) q' j' := by
  have fresh : ∀ n : Nat, bs[k]? = some (n : Int) → n < 32 ∧ s.is n = 1 ∧ ¬ (n : Int) ∈ bs.take k := fun n hn => by
    have hm : (n : Int) ∈ bs := List.mem_of_getElem? hn
    have hb := hbb _ hm
    have hnot : ¬ (n : Int) ∈ bs.take k := fun h => by
      obtain ⟨i, hi, h⟩ := mem_take_index.1 h
      have := lt_of_index hbs h hn hi
      omega
    exact ⟨by omega, by rw [I.is n (by omega), if_neg hnot, if_pos hm], hnot⟩
  rcases s.next_cases with ⟨h1, h2, h3, hno⟩ | ⟨n, d, hn, hd1, hd2, hi, hpn, hc, hnx, hask, hasks⟩
  · refine .inl ⟨h3, h2, ?_⟩
    by_cases hb : k = bs.length
    · exact .inl hb
    · by_cases h8 : k = 8 * ps.length
      · exact .inr h8
      · exfalso
        obtain ⟨hq, hp⟩ := I.k8.2 h8
        have hkb : k < bs.length := by have := I.kb; omega
        obtain ⟨m, hm⟩ : ∃ m : Nat, bs[k]? = some (m : Int) := ⟨bs[k].toNat, by
          have := hbb _ (List.getElem_mem hkb)
          rw [List.getElem?_eq_getElem hkb]; congr 1; omega⟩
        obtain ⟨d, _, hd1, _, hpe⟩ := I.who hps hpb hq hp
        obtain ⟨f1, f2, _⟩ := fresh m hm
        have := hno m f1 f2
        rw [hpe m] at this
        omega
  · right
    have hne : ¬ (q = 8 ∨ ps = []) := fun h => by
      have := I.nobody h n
      omega
    have hq : q < 8 := by have := I.q8; omega
    have hp : ps ≠ [] := fun h => hne (.inr h)
    obtain ⟨d', hdj, _, _, hpe⟩ := I.who hps hpb hq hp
    obtain rfl : d' = d := by have := hpe n; omega
    rw [I.is n hn] at hi
    have hnt : ¬ (n : Int) ∈ bs.take k := fun h => by rw [if_pos h] at hi; omega
    have hnb : (n : Int) ∈ bs := by
      rw [if_neg hnt] at hi
      split at hi
      · assumption
      · omega
    obtain ⟨i, hix⟩ := mem_index hnb
    have hki : k ≤ i := by
      rcases Nat.lt_or_ge i k with h | h
      · exact absurd (mem_take_index.2 ⟨i, h, hix⟩) hnt
      · exact h
    have hkb : k < bs.length := by have := (List.getElem?_eq_some_iff.1 hix).1; omega
    obtain ⟨m, hm⟩ : ∃ m : Nat, bs[k]? = some (m : Int) := ⟨bs[k].toNat, by
      have := hbb _ (List.getElem_mem hkb)
      rw [List.getElem?_eq_getElem hkb]; congr 1; omega⟩
    obtain ⟨f1, f2, f3⟩ := fresh m hm
    have hmn : m = n := by
      rcases Nat.lt_trichotomy m n with h | h | h
      · have := FS.next_first hnx m h
        have h4 := (s.free_iff m).2 ⟨f2, by rw [hpe m]; omega⟩
        rw [h4] at this; cases this
      · exact h
      · rcases Nat.eq_or_lt_of_le hki with h5 | h5
        · subst h5; rw [hix] at hm; simp at hm; omega
        · have := lt_of_index hbs hm hix h5; omega
    subst hmn
    refine ⟨m, d', hm, hasks, ?_⟩
    rw [hask]
    have his : s.is m = 1 := f2
    have hld : ∀ (e : Nat), (s.putAsk m d').asked e = s.asked e + if d' = e then 1 else 0 := fun e => by
      rw [FS.asked_putAsk s m d' e hn his]
      by_cases h : d' = e
      · simp [h]
      · have : ¬ (d' : Int) = e := by omega
        simp [h, this]
    have hkq := I.kq
    have hjp := I.hj hp
    have htake : ∀ x : Int, x ∈ bs.take (k + 1) ↔ x ∈ bs.take k ∨ x = m := fun x => by
      rw [List.take_add_one, hm]; simp
    have hisn : ∀ x : Nat, x < 32 → (s.putAsk m d').is x = if (x : Int) ∈ bs.take (k + 1) then 2 else if (x : Int) ∈ bs then 1 else 0 := fun x hx => by
      rw [putAsk_is]
      by_cases e : x = m
      · subst e
        rw [if_pos rfl, if_pos ((htake _).2 (.inr rfl))]
      · have : ¬ (x : Int) = m := by omega
        have h6 : ((x : Int) ∈ bs.take (k + 1)) = ((x : Int) ∈ bs.take k) := propext (by rw [htake]; simp [this])
        rw [if_neg e, I.is x hx]
        simp only [h6]
    have hidx : ∀ i e : Nat, ps[i]? = some (e : Int) → (d' = e ↔ i = j) := fun i e h => by
      constructor
      · intro h7
        subst h7
        rcases Nat.lt_trichotomy i j with h | h | h
        · have := lt_of_index hps ‹_› hdj h; omega
        · exact h
        · have := lt_of_index hps hdj ‹_› h; omega
      · intro h7
        subst h7
        rw [h] at hdj
        simp at hdj
        omega
    by_cases hj : j + 1 < ps.length
    · refine ⟨q, j + 1, by omega, fun _ => hj, fun h => absurd h hp, hisn, I.tr, I.pe, fun i e h => ?_, by omega, by omega, fun h => by omega⟩
      rw [hld, I.ld i e h]
      have := hidx i e h
      by_cases hij : i = j
      · rw [if_pos (this.2 hij), if_neg (by omega), if_pos (by omega)]
      · rw [if_neg (fun h => hij (this.1 h))]
        have : i < j ↔ i < j + 1 := by omega
        simp [this]
    · refine ⟨q + 1, 0, by rw [Nat.add_mul]; omega, fun h => by omega, fun h => absurd h hp, hisn, I.tr, I.pe, fun i e h => ?_, by omega, by omega, fun _ => rfl⟩
      rw [hld, I.ld i e h]
      have := hidx i e h
      have hil := (List.getElem?_eq_some_iff.1 h).1
      by_cases hij : i = j
      · rw [if_pos (this.2 hij), if_neg (by omega), if_neg (by omega)]
      · rw [if_neg (fun h => hij (this.1 h)), if_pos (by omega), if_neg (by omega)]

end Go.Proofs.Ytcapbfhiiiggdaa
