/- Lists of pairs in memory, as the law FetchEnds keeps them. No conditions beyond those that each statement types. -/
import Derived.Test.YtcapbfhiiiggdaaFetchL
namespace Go.Proofs.Ytcapbfhiiiggdaa
open Go.RowKit

def pvs (op : List (Nat × Nat)) : List Value := op.flatMap fun p => [.int .i64 p.1, .int .i64 p.2]
theorem pvs_cons (p : Nat × Nat) (op : List (Nat × Nat)) : pvs (p :: op) = .int .i64 p.1 :: .int .i64 p.2 :: pvs op := rfl
theorem pvs_length (op : List (Nat × Nat)) : (pvs op).length = op.length * 2 := by
  induction op with
  | nil => rfl
  | cons p op ih => rw [pvs_cons, List.length_cons, List.length_cons, List.length_cons, ih]; omega
theorem pvs_append (a b : List (Nat × Nat)) : pvs (a ++ b) = pvs a ++ pvs b := by simp [pvs]
theorem pvs_take (op : List (Nat × Nat)) (i : Nat) : pvs (op.take i) = (pvs op).take (i * 2) := by
  induction op generalizing i with
  | nil => simp [pvs]
  | cons p op ih =>
    cases i with
    | zero => rfl
    | succ i =>
      rw [List.take_succ_cons, pvs_cons, pvs_cons, ih, show (i + 1) * 2 = i * 2 + 1 + 1 by omega]
      rfl
theorem pvs_drop (op : List (Nat × Nat)) (i : Nat) : pvs (op.drop i) = (pvs op).drop (i * 2) := by
  induction op generalizing i with
  | nil => simp [pvs]
  | cons p op ih =>
    cases i with
    | zero => rfl
    | succ i =>
      rw [List.drop_succ_cons, pvs_cons, ih, show (i + 1) * 2 = i * 2 + 1 + 1 by omega]
      rfl
theorem pvs_at {op : List (Nat × Nat)} {i n d : Nat} (h : op[i]? = some (n, d)) : (pvs op)[i * 2]? = some (.int .i64 n) ∧ (pvs op)[i * 2 + 1]? = some (.int .i64 d) := by
  induction op generalizing i with
  | nil => simp at h
  | cons p op ih =>
    cases i with
    | zero =>
      simp only [List.getElem?_cons_zero, Option.some.injEq] at h
      subst h
      exact ⟨rfl, rfl⟩
    | succ i =>
      rw [List.getElem?_cons_succ] at h
      have := ih h
      rw [pvs_cons, show (i + 1) * 2 = i * 2 + 1 + 1 by omega]
      exact this
theorem pvs_one (op : List (Nat × Nat)) : ∀ u ∈ pvs op, u.oneCell' = true := by
  intro u hu
  obtain ⟨p, _, h⟩ := List.mem_flatMap.1 hu
  simp at h
  rcases h with rfl | rfl <;> rfl

theorem ownsRow_srcG {w : World} {B : Nat} {e : TypeId} {size : Nat} {ao : Option Addr} {n c : Nat} {xs : List Value} (h : w.ownsRow B e size (.slice ao n c) n xs) : Src w ao xs := by
  refine ⟨fun ha => ?_, fun a ha j u hu => ?_⟩
  · subst ha
    rcases h.2 with ⟨hv, hn⟩ | ⟨g, cap, cur, hv, _⟩
    · exact List.eq_nil_of_length_eq_zero (by rw [h.1, hn]; simp)
    · simp at hv
  · subst ha
    rcases h.2 with ⟨hv, hn⟩ | ⟨g, cap, cur, hv, _⟩
    · simp at hv
    · simp only [Value.slice.injEq, Option.some.injEq] at hv
      obtain ⟨rfl, _, _⟩ := hv
      exact h.cells (g := g) rfl j u hu

theorem Try.infoPair : (Try.prog.info? 38).map (fun i => (i.zero, i.size, i.bytes)) = some (some (.agg #[.int .i64 0, .int .i64 0]), 2, 16) := by kernel_rfl

/-- The list of what is asked, in memory of the call's own from base on. -/
structure Open (base : Nat) (wr : World) (a : Option Addr) (n c : Nat) (op : List (Nat × Nat)) : Prop where
  len : op.length = n
  own : wr.ownsRow 0 38 2 (.slice a n c) n (pvs op)
  new : ∀ q, (Value.slice a n c).ownBlock = some q → base ≤ q

theorem Open.nil (base : Nat) (wr : World) : Open base wr none 0 0 [] := ⟨rfl, World.ownsRow_nil _ _ _ _, fun q hq => by cases hq⟩
theorem Open.some {base : Nat} {wr : World} {a : Option Addr} {n c : Nat} {op : List (Nat × Nat)} (h : Open base wr a n c op) (hn : 0 < n) : ∃ g, a = some ⟨g, 0, none⟩ ∧ base ≤ g ∧ n ≤ c ∧ g < wr.heap.size := by
  have hl := h.own.lt
  rcases h.own.2 with ⟨hv, h0⟩ | ⟨g, cap, cur, hv, _, _, hc, _⟩
  · omega
  · simp only [Value.slice.injEq] at hv
    obtain ⟨rfl, _, rfl⟩ := hv
    exact ⟨g, rfl, h.new g rfl, hc, (hl g rfl).2⟩
theorem Open.chg {base : Nat} {wr w' : World} {S : List Nat} {a : Option Addr} {n c : Nat} {op : List (Nat × Nat)} (h : Open base wr a n c op) (hc : Chg S wr w') (hn : ∀ q, (Value.slice a n c).ownBlock = Option.some q → q ∉ S) : Open base w' a n c op :=
  ⟨h.len, ownsRow_chg h.own hc hn, h.new⟩
theorem Open.ne {base : Nat} {wr : World} {a : Option Addr} {n c b : Nat} {op : List (Nat × Nat)} {s : FS} (h : Open base wr a n c op) (hF : FetchAt wr b s) : ∀ q, (Value.slice a n c).ownBlock = Option.some q → q ∉ [b] := fun q hq hm => by
  simp at hm
  subst hm
  exact ownsRow_ne h.own hF (by decide) hq

end Go.Proofs.Ytcapbfhiiiggdaa
