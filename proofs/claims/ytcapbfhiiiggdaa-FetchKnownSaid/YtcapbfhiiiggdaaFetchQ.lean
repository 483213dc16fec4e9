/- Plain laws of a fetch that is asked, and answered, until it ends. No program, no conditions beyond those that each statement types. -/
import Derived.Test.YtcapbfhiiiggdaaFetchP
namespace Go.Proofs.Ytcapbfhiiiggdaa
open Go.RowKit

def FS.act (s : FS) (n : Nat) : Bool := s.is n == 1 || s.is n == 2
def FS.candN (s : FS) (n : Nat) : Nat := sumTo (fun d => (s.cand n d).toNat) 17
def FS.trN (s : FS) (n : Nat) : Nat := sumTo (fun d => (s.tr n d).toNat) 17
def FS.u (s : FS) (n : Nat) : Nat := if s.act n then s.candN n else 0
def FS.M (s : FS) : Nat := sumTo s.u 32
def FS.T (s : FS) : Nat := sumTo s.trN 32
def FS.hads (s : FS) : Nat := sumTo (fun n => (s.is n == 3).toNat) 32
def FS.wants (s : FS) : Nat := sumTo (fun n => (s.is n == 1).toNat) 32

/-- What holds while a fetch is asked and answered. -/
structure EInv (bs ps : List Int) (s : FS) (op : List (Nat × Nat)) (t done failed : Nat) : Prop where
  blk : ∀ n : Nat, n < 32 → (((n : Int) ∈ bs) ↔ s.is n ≠ 0)
  rng : ∀ n : Nat, n < 32 → s.is n = 0 ∨ s.is n = 1 ∨ s.is n = 2 ∨ s.is n = 3
  pe : ∀ d : Nat, s.pe d = decide ((d : Int) ∈ ps)
  ops : ∀ n d : Nat, (n, d) ∈ op ↔ (n < 32 ∧ s.is n = 2 ∧ s.of n = d)
  nodup : (op.map Prod.fst).Nodup
  askd : ∀ n : Nat, n < 32 → s.is n = 2 → ∃ d : Nat, s.of n = d ∧ 1 ≤ d ∧ d < 17 ∧ s.cand n d = true
  M : s.M + t ≤ bs.length * ps.length
  T : s.T = failed
  done : s.hads = done
  len : op.length + s.wants ≤ 32

theorem FS.wants_le (s : FS) : s.wants ≤ 32 := sumTo_one_le _ _ (fun k _ => by cases (s.is k == 1) <;> simp)

theorem putAsk_is (s : FS) (n : Nat) (dev : Int) (k : Nat) : (s.putAsk n dev).is k = if k = n then 2 else s.is k := rfl
theorem putAsk_of (s : FS) (n : Nat) (dev : Int) (k : Nat) : (s.putAsk n dev).of k = if k = n then dev else s.of k := rfl
theorem putAsk_tr (s : FS) (n : Nat) (dev : Int) : (s.putAsk n dev).tr = s.tr := rfl
theorem putAsk_pe (s : FS) (n : Nat) (dev : Int) : (s.putAsk n dev).pe = s.pe := rfl

theorem EInv.ask {bs ps s op t done failed} (I : EInv bs ps s op t done failed) (n d : Nat) (hn : n < 32) (hd1 : 1 ≤ d) (hd : d < 17) (h1 : s.is n = 1) (hc : s.cand n d = true) :
    EInv bs ps (s.putAsk n d) (op ++ [(n, d)]) t done failed ∧ (s.putAsk n d).wants + 1 = s.wants ∧ ∀ x ∈ op, x.1 ≠ n := by
  have hfresh : ∀ x ∈ op, x.1 ≠ n := fun x hx e => by
    obtain ⟨a, b⟩ := x
    have := ((I.ops a b).1 hx).2.1
    dsimp only at e
    subst e
    omega
  have hwant : (s.putAsk n d).wants + 1 = s.wants := by
    have h := sumTo_upd (f := fun k => ((s.putAsk n d).is k == 1).toNat) (g := fun k => (s.is k == 1).toNat) hn (fun k _ hk => by
      simp only [putAsk_is, hk, if_false])
    simp only [putAsk_is, if_true, h1] at h
    have e1 : ((2 : Int) == 1) = false := rfl
    have e2 : ((1 : Int) == 1) = true := rfl
    rw [e1, e2] at h
    exact h
  refine ⟨⟨fun k hk => ?_, fun k hk => ?_, I.pe, fun a b => ?_, ?_, fun k hk h2 => ?_, ?_, ?_, ?_, ?_⟩, hwant, hfresh⟩
  · rw [putAsk_is, I.blk k hk]
    by_cases e : k = n
    · subst e; simp [h1]
    · simp [e]
  · rw [putAsk_is]
    by_cases e : k = n
    · simp [e]
    · simpa [e] using I.rng k hk
  · rw [List.mem_append, I.ops a b, putAsk_is, putAsk_of]
    by_cases e : a = n
    · subst e
      simp only [h1, List.mem_singleton, Prod.mk.injEq, true_and, if_true]
      constructor
      · rintro (h | rfl)
        · omega
        · exact ⟨hn, rfl⟩
      · rintro ⟨_, h⟩; right; omega
    · simp [e]
  · rw [List.map_append, List.nodup_append]
    refine ⟨I.nodup, by simp, ?_⟩
    intro a ha b hb e
    obtain ⟨x, hx, rfl⟩ := List.mem_map.1 ha
    simp at hb
    exact hfresh x hx (e.trans hb)
  · rw [putAsk_is] at h2
    rw [putAsk_of]
    by_cases e : k = n
    · subst e
      exact ⟨d, by simp, hd1, hd, hc⟩
    · simp only [e, if_false] at h2 ⊢
      exact I.askd k hk h2
  · have : (s.putAsk n d).M = s.M := sumTo_congr (fun k hk => by
      unfold FS.u FS.act
      rw [putAsk_is]
      by_cases e : k = n
      · subst e; simp [h1]; rfl
      · simp [e]; rfl)
    rw [this]; exact I.M
  · exact I.T
  · rw [← I.done]
    exact sumTo_congr (fun k hk => by
      rw [putAsk_is]
      by_cases e : k = n
      · subst e; simp [h1]
      · simp [e])
  · have := I.len
    rw [List.length_append, List.length_singleton]
    omega

theorem candN_pos {s : FS} {n d : Nat} (hd : d < 17) (h : s.cand n d = true) : 1 ≤ s.candN n := by
  rcases Nat.eq_zero_or_pos (s.candN n) with h0 | h0
  · have := sumTo_zero h0 d hd
    rw [h] at this; cases this
  · exact h0

theorem mem_eraseIdx_iff {op : List (Nat × Nat)} (hnd : (op.map Prod.fst).Nodup) {i n d : Nat} (hi : op[i]? = some (n, d)) (a b : Nat) : (a, b) ∈ op.eraseIdx i ↔ (a, b) ∈ op ∧ a ≠ n := by
  induction op generalizing i with
  | nil => simp at hi
  | cons x l ih =>
    obtain ⟨h1, h2⟩ := List.nodup_cons.1 (by rw [List.map_cons] at hnd; exact hnd)
    cases i with
    | zero =>
      simp only [List.getElem?_cons_zero, Option.some.injEq] at hi
      subst hi
      rw [List.eraseIdx_zero, List.tail_cons]
      constructor
      · intro h
        refine ⟨by simp [h], fun e => h1 ?_⟩
        subst e
        exact List.mem_map.2 ⟨_, h, rfl⟩
      · rintro ⟨h, hne⟩
        rcases List.mem_cons.1 h with h | h
        · simp at h; exact absurd h.1 hne
        · exact h
    | succ i =>
      rw [List.getElem?_cons_succ] at hi
      rw [List.eraseIdx_cons_succ, List.mem_cons, List.mem_cons, ih h2 hi]
      constructor
      · rintro (h | ⟨h, hne⟩)
        · refine ⟨.inl h, fun e => h1 ?_⟩
          rw [← h]
          dsimp only
          rw [e]
          exact List.mem_map.2 ⟨_, List.mem_of_getElem? hi, rfl⟩
        · exact ⟨.inr h, hne⟩
      · rintro ⟨h | h, hne⟩
        · exact .inl h
        · exact .inr ⟨h, hne⟩

theorem nodup_eraseIdx {op : List (Nat × Nat)} (hnd : (op.map Prod.fst).Nodup) (i : Nat) : ((op.eraseIdx i).map Prod.fst).Nodup :=
  hnd.sublist ((List.eraseIdx_sublist op i).map _)

theorem putIs_is (s : FS) (n : Nat) (v : Int) (k : Nat) : (s.putIs n v).is k = if k = n then v else s.is k := rfl

theorem EInv.doneStep {bs ps s op t done failed} (I : EInv bs ps s op t done failed) {i n d : Nat} (hi : op[i]? = some (n, d)) :
    s.code n d = 0 ∧ EInv bs ps (s.done n d) (op.eraseIdx i) (t + 1) (done + 1) failed := by
  obtain ⟨hn, h2, ho⟩ := (I.ops n d).1 (List.mem_of_getElem? hi)
  have ha : s.isAsked n d := ⟨by omega, by omega, by simpa using h2, by simpa using ho⟩
  have e2 : s.done n d = s.putIs n 3 := by simp [FS.done, ha]
  obtain ⟨d', hd', hd1, hd17, hc⟩ := I.askd n hn h2
  rw [e2]
  refine ⟨by simp [FS.code, ha], ⟨fun k hk => ?_, fun k hk => ?_, I.pe, fun a b => ?_, nodup_eraseIdx I.nodup i, fun k hk h2 => ?_, ?_, I.T, ?_, ?_⟩⟩
  · rw [putIs_is, I.blk k hk]
    by_cases e : k = n
    · subst e; simp [h2]
    · simp [e]
  · rw [putIs_is]
    by_cases e : k = n
    · simp [e]
    · simpa [e] using I.rng k hk
  · rw [mem_eraseIdx_iff I.nodup hi, I.ops a b, putIs_is]
    by_cases e : a = n
    · simp [e]
    · simp only [e, if_false, ne_eq, not_false_eq_true, and_true]
      exact Iff.rfl
  · rw [putIs_is] at h2
    by_cases e : k = n
    · simp [e] at h2
    · simp only [e, if_false] at h2
      exact I.askd k hk h2
  · have h := sumTo_upd (f := (s.putIs n 3).u) (g := s.u) hn (fun k _ hk => by
      unfold FS.u FS.act
      rw [putIs_is, if_neg hk]; rfl)
    have e1 : (s.putIs n 3).u n = 0 := by simp [FS.u, FS.act, putIs_is]
    have e2 : s.u n = s.candN n := by simp [FS.u, FS.act, h2]
    have e3 := candN_pos hd17 hc
    have e4 := I.M
    unfold FS.M at e4 ⊢
    omega
  · have h := sumTo_upd (f := fun k => ((s.putIs n 3).is k == 3).toNat) (g := fun k => (s.is k == 3).toNat) hn (fun k _ hk => by
      simp only [putIs_is, hk, if_false])
    simp only [putIs_is, if_true, h2] at h
    have e1 : ((2 : Int) == 3) = false := rfl
    have e2 : ((3 : Int) == 3) = true := rfl
    rw [e1, e2] at h
    have e3 := I.done
    unfold FS.hads at e3 ⊢
    simp only [Bool.toNat_false, Bool.toNat_true, putIs_is] at h ⊢
    omega
  · have : (s.putIs n 3).wants = s.wants := sumTo_congr (fun k hk => by
      rw [putIs_is]
      by_cases e : k = n
      · subst e; simp [h2]
      · simp [e])
    rw [this]
    have h3 := List.length_eraseIdx_le op i
    have h4 := I.len
    omega

theorem EInv.failStep {bs ps s op t done failed} (I : EInv bs ps s op t done failed) {i n d : Nat} (hi : op[i]? = some (n, d)) :
    s.code n d = 0 ∧ EInv bs ps (s.failed n d) (op.eraseIdx i) (t + 1) done (failed + 1) := by
  obtain ⟨hn, h2, ho⟩ := (I.ops n d).1 (List.mem_of_getElem? hi)
  have ha : s.isAsked n d := ⟨by omega, by omega, by simpa using h2, by simpa using ho⟩
  obtain ⟨d', hd', hd1, hd17, hc⟩ := I.askd n hn h2
  obtain rfl : d' = d := by omega
  have e2 : s.failed n d' = (s.putIs n 1).putTr n d' true := by simp [FS.failed, ha]
  have hct : s.pe d' = true ∧ s.tr n d' = false := by simpa [FS.cand] using hc
  rw [e2]
  have eis : ∀ k, ((s.putIs n 1).putTr n d' true).is k = if k = n then 1 else s.is k := fun k => rfl
  have eof : ∀ k, ((s.putIs n 1).putTr n d' true).of k = s.of k := fun k => rfl
  have etr : ∀ k e, ((s.putIs n 1).putTr n d' true).tr k e = if k = n ∧ e = d' then true else s.tr k e := fun k e => rfl
  have ecd : ∀ k e, ((s.putIs n 1).putTr n d' true).cand k e = if k = n ∧ e = d' then false else s.cand k e := fun k e => by
    unfold FS.cand
    rw [etr]
    by_cases h : k = n ∧ e = d'
    · simp [h]
    · rw [if_neg h, if_neg h]; rfl
  refine ⟨by simp [FS.code, ha], ⟨fun k hk => ?_, fun k hk => ?_, I.pe, fun a b => ?_, nodup_eraseIdx I.nodup i, fun k hk h2 => ?_, ?_, ?_, ?_, ?_⟩⟩
  · rw [eis, I.blk k hk]
    by_cases e : k = n
    · subst e; simp [h2]
    · simp [e]
  · rw [eis]
    by_cases e : k = n
    · simp [e]
    · simpa [e] using I.rng k hk
  · rw [mem_eraseIdx_iff I.nodup hi, I.ops a b, eis, eof]
    by_cases e : a = n
    · simp [e]
    · simp [e]
  · rw [eis] at h2
    by_cases e : k = n
    · simp [e] at h2
    · simp only [e, if_false] at h2
      obtain ⟨x, y1, y2, y3, y4⟩ := I.askd k hk h2
      exact ⟨x, y1, y2, y3, by rw [ecd, if_neg (fun h => e h.1)]; exact y4⟩
  · have h := sumTo_upd (f := ((s.putIs n 1).putTr n d' true).u) (g := s.u) hn (fun k _ hk => by
      unfold FS.u FS.act FS.candN
      rw [eis, if_neg hk]
      simp only [ecd, hk, false_and, if_false])
    have g := sumTo_upd (f := fun e => (((s.putIs n 1).putTr n d' true).cand n e).toNat) (g := fun e => (s.cand n e).toNat) hd17 (fun k _ hk => by
      simp only [ecd, hk, and_false, if_false])
    have e1 : ((s.putIs n 1).putTr n d' true).u n = ((s.putIs n 1).putTr n d' true).candN n := by simp [FS.u, FS.act, eis]
    have e2 : s.u n = s.candN n := by simp [FS.u, FS.act, h2]
    simp only [ecd, hc, and_self, if_true, Bool.toNat_false, Bool.toNat_true] at g
    have e4 := I.M
    unfold FS.M at e4 ⊢
    unfold FS.candN at e1 e2
    simp only [ecd] at e1
    omega
  · have h := sumTo_upd (f := ((s.putIs n 1).putTr n d' true).trN) (g := s.trN) hn (fun k _ hk => by
      unfold FS.trN
      simp only [etr, hk, false_and, if_false])
    have g := sumTo_upd (f := fun e => (((s.putIs n 1).putTr n d' true).tr n e).toNat) (g := fun e => (s.tr n e).toNat) hd17 (fun k _ hk => by
      simp only [etr, hk, and_false, if_false])
    simp only [etr, hct.2, and_self, if_true, Bool.toNat_false, Bool.toNat_true] at g
    have e4 := I.T
    unfold FS.T at e4 ⊢
    unfold FS.trN at h e4 ⊢
    simp only [etr] at h ⊢
    omega
  · rw [← I.done]
    exact sumTo_congr (fun k hk => by
      rw [eis]
      by_cases e : k = n
      · subst e; simp [h2]
      · simp [e])
  · have h := sumTo_upd (f := fun k => (((s.putIs n 1).putTr n d' true).is k == 1).toNat) (g := fun k => (s.is k == 1).toNat) hn (fun k _ hk => by
      simp only [eis, hk, if_false])
    simp only [eis, if_true, h2] at h
    have e1 : ((2 : Int) == 1) = false := rfl
    have e2 : ((1 : Int) == 1) = true := rfl
    rw [e1, e2] at h
    simp only [Bool.toNat_false, Bool.toNat_true] at h
    have h3 := List.length_eraseIdx_of_lt (List.getElem?_eq_some_iff.1 hi).1
    have h5 := (List.getElem?_eq_some_iff.1 hi).1
    have h4 := I.len
    unfold FS.wants at h4 ⊢
    simp only [eis] at h ⊢
    omega

/-- When nothing is asked and nothing can be asked. -/
theorem EInv.ends {bs ps s t done failed} (I : EInv bs ps s [] t done failed) (hps : ps.Pairwise (· < ·)) (hpb : ∀ x ∈ ps, 1 ≤ x ∧ x ≤ 16) (hbs : bs.Pairwise (· < ·)) (hbb : ∀ x ∈ bs, 0 ≤ x ∧ x ≤ 31)
    (hno : ∀ n, n < 32 → s.is n = 1 → ¬ 0 < s.peer n) : nums s.leftB 32 = nums s.stuckB 32 ∧ done + (nums s.leftB 32).length = bs.length ∧ (nums s.stuckB 32).length * ps.length ≤ failed := by
  have h2 : ∀ n, n < 32 → s.is n ≠ 2 := fun n hn h => by
    obtain ⟨d, hd, _⟩ := I.askd n hn h
    have := (I.ops n d).2 ⟨hn, h, hd⟩
    cases this
  have ha : ∀ d : Int, s.asked d = 0 := fun d => by
    rw [FS.asked_sum]
    rw [sumTo_congr (g := fun _ => 0) (fun k hk => by simp [FS.asks, h2 k hk])]
    rfl
  have h0 : s.pe 0 = false := by
    rw [I.pe 0]
    simp only [decide_eq_false_iff_not]
    intro h
    have := hpb _ h
    omega
  have htr : ∀ n, n < 32 → s.is n = 1 → ∀ d, d < 17 → s.pe d = true → s.tr n d = true := fun n hn h1 d hd hp => by
    cases ht : s.tr n d with
    | true => rfl
    | false =>
      have := FS.peer_not h0 (hno n hn h1) d hd (by simp [FS.cand, hp, ht])
      rw [ha] at this
      omega
  have heq : nums s.leftB 32 = nums s.stuckB 32 := nums_congr (fun k hk => by
    by_cases h1 : s.is k = 1
    · rw [FS.stuck_yes h1 (htr k hk h1)]
      simp [FS.leftB, h1]
    · have e1 : (s.is k == 1) = false := by simpa using h1
      have e2 : (s.is k == 2) = false := by simpa using h2 k hk
      simp only [FS.leftB, FS.stuckB, e1, e2, Bool.false_and, Bool.or_self])
  refine ⟨heq, ?_, ?_⟩
  · rw [← I.done, nums_length, FS.hads, ← sumTo_add, ← count_mem bs 32 hbs (fun x hx => by have := hbb x hx; omega)]
    refine sumTo_congr (fun k hk => ?_)
    have e := I.blk k hk
    rcases I.rng k hk with h | h | h | h
    · have : ¬ ((k : Int) ∈ bs) := fun hm => (e.1 hm) h
      simp [FS.leftB, h, this]
    · have : ((k : Int) ∈ bs) := e.2 (by omega)
      simp [FS.leftB, h, this]
    · exact absurd h (h2 k hk)
    · have : ((k : Int) ∈ bs) := e.2 (by omega)
      simp [FS.leftB, h, this]
  · rw [← I.T, nums_length, ← sumTo_mul, FS.T]
    refine sumTo_le (fun k hk => ?_)
    cases hs : s.stuckB k with
    | false => simp
    | true =>
      have h1 : s.is k = 1 := by
        simp only [FS.stuckB, Bool.and_eq_true, beq_iff_eq] at hs
        exact hs.1
      rw [Bool.toNat_true, Nat.one_mul, ← count_mem ps 17 hps (fun x hx => by have := hpb x hx; omega)]
      refine sumTo_le (fun d hd => ?_)
      rw [← I.pe d]
      cases hp : s.pe d with
      | false => simp
      | true => rw [htr k hk h1 d hd hp]; simp

theorem sumTo_const (c m : Nat) : sumTo (fun _ => c) m = m * c := by
  induction m with
  | zero => simp [sumTo]
  | succ m ih => simp only [sumTo, ih, Nat.add_mul, Nat.one_mul]

theorem EInv.start (bs ps : List Int) (hps : ps.Pairwise (· < ·)) (hpb : ∀ x ∈ ps, 1 ≤ x ∧ x ≤ 16) (hbs : bs.Pairwise (· < ·)) (hbb : ∀ x ∈ bs, 0 ≤ x ∧ x ≤ 31) : EInv bs ps (FS.made bs ps) [] 0 0 0 := by
  have his : ∀ n, (FS.made bs ps).is n = if (n : Int) ∈ bs then 1 else 0 := fun n => rfl
  refine ⟨fun n hn => ?_, fun n hn => ?_, fun d => rfl, fun n d => ?_, by simp, fun n hn h => ?_, ?_, ?_, ?_, by have := (FS.made bs ps).wants_le; simpa using this⟩
  · rw [his]; split <;> simp_all
  · rw [his]; split <;> simp
  · rw [his]
    simp only [List.not_mem_nil, false_iff]
    rintro ⟨_, h, _⟩
    split at h <;> omega
  · rw [his] at h
    split at h <;> omega
  · rw [FS.M, Nat.add_zero, ← count_mem bs 32 hbs (fun x hx => by have := hbb x hx; omega), ← sumTo_mul]
    refine sumTo_le (fun k hk => ?_)
    unfold FS.u FS.act FS.candN
    rw [his]
    by_cases hm : (k : Int) ∈ bs
    · simp only [hm, if_true, decide_true, Bool.toNat_true, Nat.one_mul]
      rw [← count_mem ps 17 hps (fun x hx => by have := hpb x hx; omega)]
      exact sumTo_le (fun d hd => by simp [FS.cand, FS.made])
    · simp [hm]
  · rw [FS.T, sumTo_congr (g := fun _ => 0) (fun k hk => by
      rw [FS.trN, sumTo_congr (g := fun _ => 0) (fun d hd => by simp [FS.made]), sumTo_const]), sumTo_const]
  · rw [FS.hads, sumTo_congr (g := fun _ => 0) (fun k hk => by rw [his]; split <;> rfl), sumTo_const]

end Go.Proofs.Ytcapbfhiiiggdaa
