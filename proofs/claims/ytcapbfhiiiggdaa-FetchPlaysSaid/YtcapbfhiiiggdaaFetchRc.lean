/- The plain law of FetchPlays: the fetch and the reference's answer alike. No program, no conditions beyond those that each statement types. -/
import Derived.Test.YtcapbfhiiiggdaaFetchRb
namespace Go.Proofs.Ytcapbfhiiiggdaa
open Go.RowKit

structure Ent (s : FS) (n : Nat) (x : RB) : Prop where
  is : s.is n = if x.had then 3 else if x.of = 0 then 1 else 2
  of : x.of ≠ 0 → s.of n = x.of ∧ 1 ≤ x.of ∧ x.of ≤ 16 ∧ x.had = false
  tr : ∀ d : Nat, d < 17 → s.tr n d = decide ((d : Int) ∈ x.tr)
structure Sim (s : FS) (R : RS) : Prop where
  inc : ∀ (i j : Nat) (x y : RB), i < j → R.bs[i]? = some x → R.bs[j]? = some y → x.n < y.n
  rng : ∀ (i : Nat) (x : RB), R.bs[i]? = some x → ∃ n : Nat, x.n = n ∧ n < 32
  out : ∀ k : Nat, k < 32 → (∀ (i : Nat) (x : RB), R.bs[i]? = some x → x.n ≠ k) → s.is k = 0
  ent : ∀ (i : Nat) (x : RB) (n : Nat), R.bs[i]? = some x → x.n = n → Ent s n x
  pe : ∀ d : Nat, d < 17 → s.pe d = decide ((d : Int) ∈ R.ps)
  pr : ∀ p ∈ R.ps, 1 ≤ p ∧ p ≤ 16

theorem inc_ext : ∀ {l m : List Int}, l.Pairwise (· < ·) → m.Pairwise (· < ·) → (∀ z, z ∈ l ↔ z ∈ m) → l = m
  | [], [], _, _, _ => rfl
  | [], y :: m, _, _, h => by have := (h y).2 (by simp); simp at this
  | x :: l, [], _, _, h => by have := (h x).1 (by simp); simp at this
  | x :: l, y :: m, h1, h2, h => by
    rw [List.pairwise_cons] at h1 h2
    have hxy : x = y := by
      have a1 := (h x).1 (by simp)
      have a2 := (h y).2 (by simp)
      rcases List.mem_cons.1 a1 with e | e
      · exact e
      · rcases List.mem_cons.1 a2 with e2 | e2
        · exact e2.symm
        · have := h1.1 y e2; have := h2.1 x e; omega
    subst hxy
    congr 1
    refine inc_ext h1.2 h2.2 fun z => ?_
    constructor
    · intro hz
      have a1 := (h z).1 (by simp [hz])
      rcases List.mem_cons.1 a1 with e | e
      · subst e; have := h1.1 z hz; omega
      · exact e
    · intro hz
      have a1 := (h z).2 (by simp [hz])
      rcases List.mem_cons.1 a1 with e | e
      · subst e; have := h2.1 z hz; omega
      · exact e

theorem nums_pairwise (p : Nat → Bool) (k : Nat) : (nums p k).Pairwise (· < ·) := by
  unfold nums
  rw [List.pairwise_map]
  exact (List.pairwise_lt_range.filter p).imp (fun h => by omega)
theorem nums_mem {p : Nat → Bool} {k : Nat} {z : Int} : z ∈ nums p k ↔ ∃ n : Nat, n < k ∧ p n = true ∧ (n : Int) = z := by
  unfold nums
  rw [List.mem_map]
  constructor
  · rintro ⟨n, hn, rfl⟩
    rw [List.mem_filter, List.mem_range] at hn
    exact ⟨n, hn.1, hn.2, rfl⟩
  · rintro ⟨n, h1, h2, rfl⟩
    exact ⟨n, List.mem_filter.2 ⟨List.mem_range.2 h1, h2⟩, rfl⟩

theorem Sim.list {s : FS} {R : RS} (S : Sim s R) (p : RB → Bool) (q : Nat → Bool) (h1 : ∀ (i : Nat) (x : RB) (n : Nat), R.bs[i]? = some x → x.n = n → p x = q n) (h2 : ∀ k, k < 32 → s.is k = 0 → q k = false) : gat p R.bs R.bs.length = nums q 32 := by
  refine inc_ext ?_ (nums_pairwise q 32) fun z => ?_
  · unfold gat
    rw [List.take_length, List.pairwise_map]
    have : R.bs.Pairwise (fun a b => a.n < b.n) := by
      rw [List.pairwise_iff_getElem]
      intro i j hi hj hij
      exact S.inc i j _ _ hij (List.getElem?_eq_getElem hi) (List.getElem?_eq_getElem hj)
    exact this.filter p
  · rw [nums_mem]
    unfold gat
    rw [List.take_length, List.mem_map]
    constructor
    · rintro ⟨x, hx, rfl⟩
      obtain ⟨hm, hp⟩ := List.mem_filter.1 hx
      obtain ⟨i, hi⟩ := List.mem_iff_getElem?.1 hm
      obtain ⟨n, hn, hlt⟩ := S.rng i x hi
      exact ⟨n, hlt, by rw [← h1 i x n hi hn]; exact hp, hn.symm⟩
    · rintro ⟨n, hn, hq, rfl⟩
      by_cases he : ∃ (i : Nat) (x : RB), R.bs[i]? = some x ∧ x.n = n
      · obtain ⟨i, x, hi, hx⟩ := he
        exact ⟨x, List.mem_filter.2 ⟨List.mem_of_getElem? hi, by rw [h1 i x n hi hx]; exact hq⟩, hx⟩
      · have := h2 n hn (S.out n hn (fun i x hi hx => he ⟨i, x, hi, hx⟩))
        rw [this] at hq; cases hq

theorem Sim.left {s : FS} {R : RS} (S : Sim s R) : R.left = nums s.leftB 32 := by
  refine S.list _ _ (fun i x n hi hn => ?_) (fun k _ h0 => by simp [FS.leftB, h0])
  have E := (S.ent i x n hi hn).is
  unfold FS.leftB
  rw [E]
  cases hh : x.had
  · by_cases h0 : x.of = 0 <;> simp [h0]
  · simp

theorem Sim.stuck {s : FS} {R : RS} (S : Sim s R) : R.stuck = nums s.stuckB 32 := by
  refine S.list _ _ (fun i x n hi hn => ?_) (fun k _ h0 => by simp [FS.stuckB, h0])
  have E := S.ent i x n hi hn
  have hall : (R.ps.all fun p => decide (p ∈ x.tr)) = (List.range 17).all fun d => !s.pe d || s.tr n d := by
    rw [Bool.eq_iff_iff, List.all_eq_true, List.all_eq_true]
    constructor
    · intro h d hd
      have hd := List.mem_range.1 hd
      rw [S.pe d hd, E.tr d hd]
      by_cases hm : (d : Int) ∈ R.ps
      · have := h _ hm
        simp [hm] at this ⊢
        exact this
      · simp [hm]
    · intro h p hp
      have hb := S.pr p hp
      have h2 := h p.toNat (List.mem_range.2 (by omega))
      rw [S.pe _ (by omega), E.tr _ (by omega)] at h2
      have e : ((p.toNat : Nat) : Int) = p := by omega
      rw [e] at h2
      simpa [hp] using h2
  unfold RS.free RS.freeTo FS.stuckB
  rw [List.take_length, hall, E.is]
  cases hh : x.had
  · by_cases h0 : x.of = 0 <;> simp [h0]
  · simp

theorem Sim.asked {s : FS} {R : RS} (S : Sim s R) (d : Int) : R.asked d = s.asked d := by
  have h1 : R.asked d = (gat (fun x => x.of == d && d != 0) R.bs R.bs.length).length := by
    unfold RS.asked RS.askedTo gat
    rw [List.length_map]
  have h2 : s.asked d = (nums (s.asks d) 32).length := by
    rw [FS.asked_sum, nums_length]
  rw [h1, h2, S.list _ (s.asks d) (fun i x n hi hn => ?_) (fun k _ h0 => by simp [FS.asks, h0])]
  have E := S.ent i x n hi hn
  unfold FS.asks
  by_cases h0 : x.of = 0
  · have : s.is n ≠ 2 := by rw [E.is]; cases x.had <;> simp [h0]
    have e1 : (s.is n == 2) = false := by simpa using this
    rw [e1, h0]
    by_cases hd : d = 0
    · simp [hd]
    · have : ((0 : Int) == d) = false := by simpa using fun e => hd e.symm
      simp [this]
  · obtain ⟨o1, o2, o3, o4⟩ := E.of h0
    have e1 : s.is n = 2 := by rw [E.is, o4]; simp [h0]
    rw [e1, o1]
    by_cases hd : x.of = d
    · have : d ≠ 0 := by omega
      simp [hd, this]
    · have : (x.of == d) = false := by simpa using hd
      simp [this]

theorem Sim.pe0 {s : FS} {R : RS} (S : Sim s R) : s.pe 0 = false := by
  rw [S.pe 0 (by omega)]
  refine decide_eq_false fun h => ?_
  have := S.pr _ h
  omega

theorem Sim.peer {s : FS} {R : RS} (S : Sim s R) {i : Nat} {x : RB} {n : Nat} (hi : R.bs[i]? = some x) (hn : x.n = n) : s.peer n = R.best x := by
  have E := S.ent i x n hi hn
  have h : ∀ k, k ≤ 16 → s.peerTo n (k + 1) = (((R.bestTo x k : Nat) : Int), if R.bestTo x k = 0 then 8 else ((s.asked (R.bestTo x k : Nat) : Nat) : Int)) := fun k => by
    induction k with
    | zero =>
      intro _
      show (if s.pe 0 && !s.tr n 0 && decide ((s.asked ((0 : Nat) : Int) : Int) < (s.peerTo n 0).2) then _ else s.peerTo n 0) = _
      rw [S.pe0]
      rfl
    | succ k ih =>
      intro hk
      have ih := ih (by omega)
      show (if s.pe (k + 1) && !s.tr n (k + 1) && decide ((s.asked ((k + 1 : Nat) : Int) : Int) < (s.peerTo n (k + 1)).2) then (((k + 1 : Nat) : Int), (s.asked ((k + 1 : Nat) : Int) : Int)) else s.peerTo n (k + 1)) = _
      rw [ih, S.pe _ (by omega), E.tr _ (by omega)]
      have hb := R.bestTo_step x (k + 1) (by omega)
      rw [Nat.add_sub_cancel] at hb
      have hc : R.cand x (k + 1) = (decide (((k + 1 : Nat) : Int) ∈ R.ps) && !decide (((k + 1 : Nat) : Int) ∈ x.tr) && decide (R.asked ((k + 1 : Nat) : Int) < 8)) := rfl
      rw [hb, hc, S.asked, S.asked]
      generalize decide (((k + 1 : Nat) : Int) ∈ R.ps) = b1
      generalize decide (((k + 1 : Nat) : Int) ∈ x.tr) = b2
      have hA8 : R.bestTo x k ≠ 0 → s.asked (R.bestTo x k : Nat) < 8 := fun h0 => by
        have : ∀ j, R.bestTo x j ≠ 0 → R.asked (R.bestTo x j : Nat) < 8 := fun j => by
          induction j with
          | zero => intro h; exact absurd rfl h
          | succ j ihj =>
            intro hj
            rw [R.bestTo_step x (j + 1) (by omega), Nat.add_sub_cancel] at hj ⊢
            split at hj
            · rename_i hcc
              rw [if_pos hcc]
              rw [Bool.and_eq_true] at hcc
              have := hcc.1
              unfold RS.cand at this
              simp only [Bool.and_eq_true, decide_eq_true_eq] at this
              exact this.2
            · rename_i hcc
              rw [if_neg hcc]
              exact ihj hj
        rw [← S.asked]; exact this k h0
      obtain ⟨A, hA⟩ : ∃ A, s.asked ((k + 1 : Nat) : Int) = A := ⟨_, rfl⟩
      have hk1 : ((k + 1 : Nat) : Int) = (k : Int) + 1 := by omega
      rw [hA]
      clear ih hb hc
      obtain ⟨AB, hAB⟩ : ∃ AB, s.asked ((R.bestTo x k : Nat) : Int) = AB := ⟨_, rfl⟩
      rw [hAB] at hA8 ⊢
      generalize R.bestTo x k = B at *
      by_cases hg : (b1 && !b2) = true
      · rw [hg]
        simp only [Bool.true_and]
        by_cases hB : B = 0
        · subst hB
          by_cases h8 : A < 8
          · have h8' : (A : Int) < 8 := by omega
            simp [h8, h8']
            rw [← hA, hk1]
          · have h8' : ¬ (A : Int) < 8 := by omega
            simp [h8, h8']
        · have h8 := hA8 hB
          by_cases hlt : A < AB
          · have h1 : A < 8 := by omega
            simp [hlt, h1, hB]
            rw [← hA, hk1]
          · simp [hlt, hB, hAB]
      · have hg' : (b1 && !b2) = false := by simpa using hg
        rw [hg']
        simp [hAB]
  have := h 16 (by omega)
  unfold FS.peer RS.best
  rw [this]

theorem Sim.uniq {s : FS} {R : RS} (S : Sim s R) {i j : Nat} {x y : RB} (hi : R.bs[i]? = some x) (hj : R.bs[j]? = some y) (h : x.n = y.n) : i = j := by
  rcases Nat.lt_trichotomy i j with h1 | h1 | h1
  · have := S.inc i j x y h1 hi hj; omega
  · exact h1
  · have := S.inc j i y x h1 hj hi; omega

/-- One block is turned, on both. -/
theorem Sim.upd {s s' : FS} {R : RS} (S : Sim s R) {i : Nat} {x : RB} {n : Nat} (hi : R.bs[i]? = some x) (hn : x.n = n) (x' : RB) (hx' : x'.n = x.n)
    (h1 : ∀ k, k ≠ n → s'.is k = s.is k ∧ s'.of k = s.of k ∧ ∀ d, s'.tr k d = s.tr k d) (h2 : ∀ d, s'.pe d = s.pe d) (E : Ent s' n x') : Sim s' (R.upd i x') := by
  have hlt := (List.getElem?_eq_some_iff.1 hi).1
  have hat : ∀ (j : Nat) (y : RB), (R.upd i x').bs[j]? = some y → (j = i ∧ y = x') ∨ (j ≠ i ∧ R.bs[j]? = some y) := fun j y hy => by
    by_cases hj : j = i
    · subst hj
      rw [upd_at x' hi] at hy
      exact .inl ⟨rfl, (Option.some.inj hy).symm⟩
    · right
      have h3 : (R.bs.set i x')[j]? = some y := hy
      rw [List.getElem?_set_ne (fun e => hj e.symm)] at h3
      exact ⟨hj, h3⟩
  have hat2 : ∀ (j : Nat) (y : RB), (R.upd i x').bs[j]? = some y → ∃ z : RB, R.bs[j]? = some z ∧ z.n = y.n := fun j y hy => by
    rcases hat j y hy with ⟨rfl, rfl⟩ | ⟨_, h3⟩
    · exact ⟨x, hi, hx'.symm⟩
    · exact ⟨y, h3, rfl⟩
  refine ⟨fun j k y z hjk hj hk => ?_, fun j y hj => ?_, fun k hk hno => ?_, fun j y m hj hm => ?_, fun d hd => (h2 d).trans (S.pe d hd), S.pr⟩
  · obtain ⟨y', hy', e1⟩ := hat2 j y hj
    obtain ⟨z', hz', e2⟩ := hat2 k z hk
    rw [← e1, ← e2]
    exact S.inc j k y' z' hjk hy' hz'
  · obtain ⟨y', hy', e1⟩ := hat2 j y hj
    rw [← e1]
    exact S.rng j y' hy'
  · have hkn : k ≠ n := fun e => hno i x' (upd_at x' hi) (by rw [hx', hn, e])
    rw [(h1 k hkn).1]
    refine S.out k hk fun j y hj e => ?_
    by_cases hji : j = i
    · subst hji
      rw [hi] at hj
      cases hj
      omega
    · refine hno j y ?_ e
      show (R.bs.set i x')[j]? = _
      rw [List.getElem?_set_ne (fun e => hji e.symm)]
      exact hj
  · rcases hat j y hj with ⟨rfl, rfl⟩ | ⟨hji, h3⟩
    · have : m = n := by rw [hx', hn] at hm; omega
      subst this
      exact E
    · have hmn : m ≠ n := fun e => hji (S.uniq h3 hi (by rw [hm, hn, e]))
      have F := S.ent j y m h3 hm
      obtain ⟨a, b, c⟩ := h1 m hmn
      exact ⟨a.trans F.is, fun h => by rw [b]; exact F.of h, fun d hd => (c d).trans (F.tr d hd)⟩

/-- Whose answer is awaited. -/
theorem Sim.at_yes {s : FS} {R : RS} (S : Sim s R) {b d : Int} {i : Nat} (h : R.at b d = some i) : ∃ (x : RB) (n : Nat), R.bs[i]? = some x ∧ x.n = n ∧ b = n ∧ n < 32 ∧ x.of = d ∧ d ≠ 0 ∧ s.isAsked b d ∧ Ent s n x := by
  obtain ⟨x, hx, h1, h2, h3⟩ := RS.at_some h
  obtain ⟨n, hn, hlt⟩ := S.rng i x hx
  have E := S.ent i x n hx hn
  have hb : b = n := by rw [← h1, hn]
  obtain ⟨o1, o2, o3, o4⟩ := E.of (by rw [h2]; exact h3)
  have hnn : b.toNat = n := by omega
  refine ⟨x, n, hx, hn, hb, hlt, h2, h3, ⟨by omega, by omega, ?_, ?_⟩, E⟩
  · rw [hnn, E.is, o4]
    simp [h2, h3]
  · rw [hnn, o1, h2]
theorem Sim.at_no {s : FS} {R : RS} (S : Sim s R) {b d : Int} (h : R.at b d = none) : ¬ s.isAsked b d := by
  rintro ⟨h1, h2, h3, h4⟩
  have hall := List.findIdx?_eq_none_iff.1 h
  by_cases he : ∃ (i : Nat) (x : RB), R.bs[i]? = some x ∧ x.n = b.toNat
  · obtain ⟨i, x, hi, hn⟩ := he
    have E := S.ent i x b.toNat hi hn
    have h0 : x.of ≠ 0 := fun e => by
      have := E.is
      rw [h3, e] at this
      cases hh : x.had <;> simp [hh] at this
    obtain ⟨o1, o2, _, _⟩ := E.of h0
    have := hall x (List.mem_of_getElem? hi)
    unfold RB.isAt at this
    have e1 : x.n = b := by omega
    have e2 : x.of = d := by rw [← o1, h4]
    have e3 : d ≠ 0 := by omega
    simp [e1, e2, e3] at this
  · have := S.out b.toNat (by omega) (fun i x hi e => he ⟨i, x, hi, e⟩)
    rw [this] at h3
    cases h3

theorem Sim.ok {s : FS} {R : RS} (S : Sim s R) : s.Ok := fun n hn h2 => by
  by_cases he : ∃ (i : Nat) (x : RB), R.bs[i]? = some x ∧ x.n = n
  · obtain ⟨i, x, hi, hx⟩ := he
    have E := S.ent i x n hi hx
    have h0 : x.of ≠ 0 := fun e => by
      have := E.is
      rw [h2, e] at this
      cases hh : x.had <;> simp [hh] at this
    obtain ⟨o1, o2, o3, _⟩ := E.of h0
    rw [o1]; exact ⟨o2, o3⟩
  · have := S.out n hn (fun i x hi e => he ⟨i, x, hi, e⟩)
    rw [this] at h2
    cases h2

theorem Sim.code {s : FS} {R : RS} (S : Sim s R) (b d : Int) : s.code b d = R.doneC b d := by
  unfold FS.code RS.doneC
  cases h : R.at b d with
  | none => rw [if_neg (S.at_no h)]
  | some i =>
    obtain ⟨x, n, _, _, _, _, _, _, ha, _⟩ := S.at_yes h
    rw [if_pos ha]

theorem Sim.done {s : FS} {R : RS} (S : Sim s R) (b d : Int) : Sim (s.done b d) (R.done b d) := by
  unfold FS.done RS.done
  cases h : R.at b d with
  | none => rw [if_neg (S.at_no h)]; exact S
  | some i =>
    obtain ⟨x, n, hx, hn, hb, hlt, hof, hd, ha, E⟩ := S.at_yes h
    rw [if_pos ha]
    simp only [hx]
    have hnn : b.toNat = n := by omega
    rw [hnn]
    refine S.upd hx hn { x with of := 0, had := true } rfl (fun k hk => ⟨by simp [FS.putIs, hk], rfl, fun _ => rfl⟩) (fun _ => rfl) ⟨by simp [FS.putIs], fun h => absurd rfl h, fun e he => E.tr e he⟩

theorem Sim.failed {s : FS} {R : RS} (S : Sim s R) (b d : Int) : Sim (s.failed b d) (R.failed b d) := by
  unfold FS.failed RS.failed
  cases h : R.at b d with
  | none => rw [if_neg (S.at_no h)]; exact S
  | some i =>
    obtain ⟨x, n, hx, hn, hb, hlt, hof, hd, ha, E⟩ := S.at_yes h
    rw [if_pos ha]
    simp only [hx]
    have hnn : b.toNat = n := by omega
    obtain ⟨o1, o2, o3, o4⟩ := E.of (by rw [hof]; exact hd)
    rw [hof] at o2 o3
    rw [hnn]
    refine S.upd hx hn { x with of := 0, tr := x.tr ++ [d] } rfl (fun k hk => ⟨by simp [FS.putIs, FS.putTr, hk], rfl, fun e => by simp [FS.putIs, FS.putTr, hk]⟩) (fun _ => rfl) ⟨by simp [FS.putIs, FS.putTr, o4], fun h => absurd rfl h, fun e he => ?_⟩
    show (if n = n ∧ e = d.toNat then true else s.tr n e) = decide ((e : Int) ∈ x.tr ++ [d])
    rw [E.tr e he]
    by_cases h1 : e = d.toNat
    · have : (e : Int) = d := by omega
      simp [h1, this]
      right
      omega
    · have : (e : Int) ≠ d := by omega
      simp [h1, this]

theorem Sim.want {s : FS} {R : RS} (S : Sim s R) {i : Nat} {x : RB} {n : Nat} (hi : R.bs[i]? = some x) (hn : x.n = n) : s.free n = R.want x := by
  have E := S.ent i x n hi hn
  unfold FS.free RS.want
  rw [S.peer hi hn, E.is]
  cases hh : x.had
  · by_cases h0 : x.of = 0
    · by_cases hb : R.best x = 0
      · simp [h0, hb]
      · have h1 : decide ((0 : Int) < R.best x) = true := decide_eq_true (by omega)
        have h2 : (R.best x != 0) = true := by simpa using hb
        rw [h1, h2, h0]
        rfl
    · simp [h0]
  · simp

theorem Sim.next_none {s : FS} {R : RS} (S : Sim s R) (h : R.next = none) : s.next = none := by
  have hall := List.findIdx?_eq_none_iff.1 h
  refine FS.next_none fun n hn => ?_
  by_cases he : ∃ (i : Nat) (x : RB), R.bs[i]? = some x ∧ x.n = n
  · obtain ⟨i, x, hi, hx⟩ := he
    rw [S.want hi hx]
    simpa using hall x (List.mem_of_getElem? hi)
  · have := S.out n hn (fun i x hi e => he ⟨i, x, hi, e⟩)
    simp [FS.free, this]
theorem Sim.next_some {s : FS} {R : RS} (S : Sim s R) {i : Nat} (h : R.next = some i) : ∃ (x : RB) (n : Nat), R.bs[i]? = some x ∧ x.n = n ∧ n < 32 ∧ s.next = some n ∧ R.want x = true := by
  obtain ⟨hi, h1, h2⟩ := List.findIdx?_eq_some_iff_getElem.1 h
  have hx := List.getElem?_eq_getElem hi
  obtain ⟨n, hn, hlt⟩ := S.rng i _ hx
  refine ⟨R.bs[i], n, hx, hn, hlt, FS.next_some (fun m hm => ?_) hlt (by rw [S.want hx hn]; exact h1), h1⟩
  by_cases he : ∃ (j : Nat) (y : RB), R.bs[j]? = some y ∧ y.n = m
  · obtain ⟨j, y, hj, hy⟩ := he
    rw [S.want hj hy]
    have hji : j < i := by
      rcases Nat.lt_trichotomy i j with h3 | h3 | h3
      · have := S.inc i j _ y h3 hx hj; omega
      · subst h3
        rw [hx] at hj
        cases hj
        omega
      · exact h3
    have hjl := (List.getElem?_eq_some_iff.1 hj)
    obtain ⟨hjl, rfl⟩ := hjl
    have := h2 j hji
    simpa using this
  · have := S.out m (by omega) (fun i x hi e => he ⟨i, x, hi, e⟩)
    simp [FS.free, this]

theorem Sim.asksV {s : FS} {R : RS} (S : Sim s R) : s.asksN = R.askV := by
  unfold FS.asksN RS.askV
  cases h : R.next with
  | none => rw [S.next_none h]
  | some i =>
    obtain ⟨x, n, hx, hn, _, hs, _⟩ := S.next_some h
    rw [hs]
    simp only [hx]
    rw [S.peer hx hn, hn]
theorem Sim.ask {s : FS} {R : RS} (S : Sim s R) : Sim s.ask R.ask := by
  unfold FS.ask RS.ask
  cases h : R.next with
  | none => rw [S.next_none h]; exact S
  | some i =>
    obtain ⟨x, n, hx, hn, hlt, hs, hw⟩ := S.next_some h
    rw [hs]
    simp only [hx]
    rw [S.peer hx hn]
    have E := S.ent i x n hx hn
    have hb16 : R.best x ≤ 16 := R.bestTo_le x 16
    unfold RS.want at hw
    simp only [Bool.and_eq_true, bne_iff_ne, ne_eq, Bool.not_eq_true', beq_iff_eq] at hw
    obtain ⟨⟨w1, w2⟩, w3⟩ := hw
    have hb0 : ((R.best x : Nat) : Int) ≠ 0 := by omega
    refine S.upd hx hn { x with of := R.best x } rfl (fun k hk => ⟨by simp [FS.putAsk, FS.putIs, FS.putOf, hk], by simp [FS.putAsk, FS.putIs, FS.putOf, hk], fun _ => rfl⟩) (fun _ => rfl) ⟨?_, fun _ => ⟨by simp [FS.putAsk, FS.putIs, FS.putOf], by show (1 : Int) ≤ R.best x; omega, by show (R.best x : Int) ≤ 16; omega, w1⟩, fun e he => E.tr e he⟩
    show (if n = n then 2 else s.is n) = if x.had then 3 else if ((R.best x : Nat) : Int) = 0 then 1 else 2
    rw [if_pos rfl, w1, if_neg hb0]
    rfl

theorem isDev_mem {R : RS} {s : FS} (S : Sim s R) (d : Int) : (isDev d && s.pe d.toNat) = decide (d ∈ R.ps) := by
  by_cases hm : d ∈ R.ps
  · have hb := S.pr d hm
    rw [S.pe _ (by omega)]
    have e : ((d.toNat : Nat) : Int) = d := by omega
    rw [e]
    simp [isDev, hm, hb.1, hb.2]
  · by_cases hd : 1 ≤ d ∧ d ≤ 16
    · rw [S.pe _ (by omega)]
      have e : ((d.toNat : Nat) : Int) = d := by omega
      rw [e]
      simp [hm]
    · have : isDev d = false := by
        unfold isDev
        rcases Int.lt_or_le d 1 with h | h
        · have : ¬ 1 ≤ d := by omega
          simp [this]
        · have : ¬ d ≤ 16 := by omega
          simp [this]
      simp [this, hm]

theorem Sim.foundC {s : FS} {R : RS} (S : Sim s R) (d : Int) : s.foundCode d = R.foundC d := by
  unfold FS.foundCode RS.foundC
  by_cases hd : d < 1 ∨ 16 < d
  · rw [if_pos hd]
    have : isDev d = false := by
      unfold isDev
      rcases hd with h | h
      · have : ¬ 1 ≤ d := by omega
        simp [this]
      · have : ¬ d ≤ 16 := by omega
        simp [this]
    simp [this]
  · rw [if_neg hd]
    have e : isDev d = true := by
      unfold isDev
      have h1 : 1 ≤ d := by omega
      have h2 : d ≤ 16 := by omega
      simp [h1, h2]
    have h := isDev_mem S d
    rw [e, Bool.true_and] at h
    rw [e, h]
    by_cases hm : d ∈ R.ps <;> simp [hm]
theorem Sim.found {s : FS} {R : RS} (S : Sim s R) (d : Int) : Sim (s.found d) (R.found d) := by
  unfold FS.found RS.found
  by_cases hd : d < 1 ∨ 16 < d
  · rw [if_pos hd]
    have : isDev d = false := by
      unfold isDev
      rcases hd with h | h
      · have : ¬ 1 ≤ d := by omega
        simp [this]
      · have : ¬ d ≤ 16 := by omega
        simp [this]
    rw [this]
    exact S
  · rw [if_neg hd]
    have e : isDev d = true := by
      unfold isDev
      have h1 : 1 ≤ d := by omega
      have h2 : d ≤ 16 := by omega
      simp [h1, h2]
    have h := isDev_mem S d
    rw [e, Bool.true_and] at h
    rw [e, h]
    by_cases hm : d ∈ R.ps
    · simp only [hm, decide_true, Bool.not_true, Bool.and_false, if_true]
      exact S
    · simp only [hm, decide_false, Bool.not_false, Bool.and_true, if_true, if_false]
      refine ⟨S.inc, S.rng, S.out, fun i x n hi hn => ?_, fun k hk => ?_, fun p hp => ?_⟩
      · have E := S.ent i x n hi hn
        exact ⟨E.is, E.of, E.tr⟩
      · show (if k = d.toNat then true else s.pe k) = decide ((k : Int) ∈ R.ps ++ [d])
        rw [S.pe k hk]
        by_cases hkd : k = d.toNat
        · have : (k : Int) = d := by omega
          rw [if_pos hkd, this]
          simp
        · have : (k : Int) ≠ d := by omega
          rw [if_neg hkd]
          simp [this]
      · rcases List.mem_append.1 hp with h3 | h3
        · exact S.pr p h3
        · simp at h3
          omega

theorem Sim.lostC {s : FS} {R : RS} (S : Sim s R) (d : Int) : s.lostCode d = R.lostC d := by
  unfold FS.lostCode RS.lostC
  rw [isDev_mem S d]
  by_cases hm : d ∈ R.ps <;> simp [hm]
theorem Sim.lost {s : FS} {R : RS} (S : Sim s R) (d : Int) : Sim (s.lost d) (R.lost d) := by
  unfold FS.lost RS.lost
  rw [isDev_mem S d]
  by_cases hm : d ∈ R.ps
  · simp only [hm, decide_true, if_true]
    have hb := S.pr d hm
    have hmap : ∀ (i : Nat) (y : RB), (R.bs.map (RB.lost d))[i]? = some y → ∃ x, R.bs[i]? = some x ∧ x.lost d = y := fun i y hy => by
      rw [List.getElem?_map] at hy
      exact Option.map_eq_some_iff.1 hy
    have hn : ∀ x : RB, (x.lost d).n = x.n := fun _ => rfl
    refine ⟨fun i j x y hij hi hj => ?_, fun i y hi => ?_, fun k hk hno => ?_, fun i y n hi hyn => ?_, fun k hk => ?_, fun p hp => S.pr p ((List.mem_filter.1 hp).1)⟩
    · obtain ⟨x', hx', rfl⟩ := hmap i x hi
      obtain ⟨y', hy', rfl⟩ := hmap j y hj
      exact S.inc i j x' y' hij hx' hy'
    · obtain ⟨x', hx', rfl⟩ := hmap i y hi
      exact S.rng i x' hx'
    · have h0 := S.out k hk (fun i x hi => hno i (x.lost d) (by show (R.bs.map (RB.lost d))[i]? = _; rw [List.getElem?_map, hi]; rfl))
      show (if k < 32 ∧ s.is k = 2 ∧ s.of k = d.toNat then 1 else s.is k) = 0
      rw [h0]
      simp
    · obtain ⟨x, hx, rfl⟩ := hmap i y hi
      have hxn : x.n = n := hyn
      have E := S.ent i x n hx hxn
      obtain ⟨n', e1, hlt⟩ := S.rng i x hx
      have hn32 : n < 32 := by omega
      have hdn : ((d.toNat : Nat) : Int) = d := by omega
      refine ⟨?_, fun h => ?_, fun e he => ?_⟩
      · show (if n < 32 ∧ s.is n = 2 ∧ s.of n = d.toNat then 1 else s.is n) = if x.had then 3 else if (if x.of = d then 0 else x.of) = 0 then 1 else 2
        rw [hdn]
        by_cases h0 : x.of = 0
        · have : s.is n ≠ 2 := by rw [E.is]; cases x.had <;> simp [h0]
          rw [if_neg (by omega), E.is, h0]
          simp
        · obtain ⟨o1, o2, o3, o4⟩ := E.of h0
          have e2 : s.is n = 2 := by rw [E.is, o4]; simp [h0]
          rw [e2, o1, o4]
          by_cases hod : x.of = d
          · simp [hod, hn32]
          · simp [hod, h0]
      · have h' : (if x.of = d then 0 else x.of) ≠ 0 := h
        have hod : x.of ≠ d := fun e => by rw [if_pos e] at h'; exact h' rfl
        rw [if_neg hod] at h'
        obtain ⟨o1, o2, o3, o4⟩ := E.of h'
        show s.of n = (if x.of = d then 0 else x.of) ∧ 1 ≤ (if x.of = d then 0 else x.of) ∧ (if x.of = d then 0 else x.of) ≤ 16 ∧ x.had = false
        rw [if_neg hod]
        exact ⟨o1, o2, o3, o4⟩
      · show (if n < 32 ∧ e = d.toNat then false else s.tr n e) = decide ((e : Int) ∈ x.tr.filter (· != d))
        rw [E.tr e he]
        by_cases hed : e = d.toNat
        · have : (e : Int) = d := by omega
          simp [hed, hn32, hdn]
        · have : (e : Int) ≠ d := by omega
          simp [hed, this]
    · show (if k = d.toNat then false else s.pe k) = decide ((k : Int) ∈ R.ps.filter (· != d))
      rw [S.pe k hk]
      by_cases hkd : k = d.toNat
      · have : (k : Int) = d := by omega
        simp [hkd]
        intro _
        omega
      · have : (k : Int) ≠ d := by omega
        simp [hkd, this]
  · simp only [hm, decide_false, if_false]
    exact S

theorem Sim.made {bs ps : List Int} (h1 : rises bs 0 31 = true) (h2 : rises ps 1 16 = true) : Sim (FS.made bs ps) (RS.made bs ps) := by
  have p1 := rises_pairwise bs 0 31 h1
  have m1 := rises_mem bs 0 31 h1
  have m2 := rises_mem ps 1 16 h2
  have hmap : ∀ (i : Nat) (y : RB), (bs.map nblk)[i]? = some y → ∃ x, bs[i]? = some x ∧ nblk x = y := fun i y hy => by
    rw [List.getElem?_map] at hy
    exact Option.map_eq_some_iff.1 hy
  refine ⟨fun i j x y hij hi hj => ?_, fun i y hi => ?_, fun k hk hno => ?_, fun i y n hi hyn => ?_, fun k hk => rfl, fun p hp => m2 p hp⟩
  · obtain ⟨x', hx', rfl⟩ := hmap i x hi
    obtain ⟨y', hy', rfl⟩ := hmap j y hj
    obtain ⟨hi', rfl⟩ := List.getElem?_eq_some_iff.1 hx'
    obtain ⟨hj', rfl⟩ := List.getElem?_eq_some_iff.1 hy'
    exact List.pairwise_iff_getElem.1 p1 i j hi' hj' hij
  · obtain ⟨x', hx', rfl⟩ := hmap i y hi
    have := m1 x' (List.mem_of_getElem? hx')
    exact ⟨x'.toNat, by show x' = _; omega, by omega⟩
  · show (if (k : Int) ∈ bs then (1 : Int) else 0) = 0
    rw [if_neg]
    intro hm
    obtain ⟨i, hi⟩ := List.mem_iff_getElem?.1 hm
    exact hno i (nblk k) (by show (bs.map nblk)[i]? = _; rw [List.getElem?_map, hi]; rfl) rfl
  · obtain ⟨x, hx, rfl⟩ := hmap i y hi
    have hxn : x = n := hyn
    refine ⟨?_, fun h => absurd rfl h, fun d _ => rfl⟩
    show (if (n : Int) ∈ bs then (1 : Int) else 0) = _
    rw [if_pos (by rw [← hxn]; exact List.mem_of_getElem? hx)]
    rfl
end Go.Proofs.Ytcapbfhiiiggdaa
