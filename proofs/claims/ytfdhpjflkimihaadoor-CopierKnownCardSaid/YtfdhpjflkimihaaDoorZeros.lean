/- General lemmas, of no program: append of so many zeros (append(s, make([]T, n)...)). No conditions beyond those that each statement types. -/
import Derived.Test.YtfdhpjflkimihaaDoorRow
namespace Go.Proofs.YtfdhpjflkimihaaDoor
open Go.RowKit

section
variable {P : Program} (w : World)

theorem run_append_zeros0 (t u ty e : TypeId) (i : TypeInfo) (ht : P.underlying t = some (.slice e)) (hu : P.underlying u = some (.int .i64)) (hi : P.info? e = some i)
    (b : Option Addr) (sLen sCap : Nat) (hc : sLen ≤ sCap) :
    (Builtin.append_ #[t, u] ty #[.slice b sLen sCap, .int .i64 0]).run P w = .ok (.slice b sLen sCap) w := by
  have h0 : IntKind.i64.wrap 0 = 0 := rfl
  cases b <;> simp [Builtin.append_, run_underlying ht, run_underlying hu, sizeOf, typeInfo, hi, asInt, asIntOf, h0, hc, storeCells]

theorem run_append_zeros (t u ty e : TypeId) (i : TypeInfo) (z : Value) (ht : P.underlying t = some (.slice e)) (hu : P.underlying u = some (.int .i64)) (hi : P.info? e = some i) (hz : i.zero = some z) (hs : i.size = 1) (hb : i.bytes = 1)
    (b : Addr) (sLen sCap : Nat) (olds : List Value) (hlo : olds.length = sLen) (holds : ∀ j v, olds[j]? = some v → w.cell? (b.add j) = some v)
    (n : Nat) (h0 : 0 < n) (hg : sCap < sLen + n) (hsm : sLen + n ≤ 1000) (hcm : sCap ≤ 1000) :
    (Builtin.append_ #[t, u] ty #[.slice (some b) sLen sCap, .int .i64 n]).run P w =
      .ok (.slice (some ⟨w.heap.size, 0, none⟩) (sLen + n) (grownCap w (sLen + n) sCap e))
        (w.drew.alloc (.cells (olds.toArray ++ Builtin.zeroCells z.cells n ++ Builtin.zeroCells z.cells (grownCap w (sLen + n) sCap e - (sLen + n))) e)) := by
  have hn : ¬ (sLen + n ≤ sCap) := by omega
  have h63' : ¬ (9223372036854775807 < ((sLen : Int) + (n : Int))) := by omega
  have hw : IntKind.i64.wrap (n : Int) = n := IntWalk.i64_in _ (by omega)
  have hnn : ¬ (n : Int) < 0 := by omega
  have hn48 : ¬ (281474976710656 < (n : Int)) := by omega
  have hne : n ≠ 0 := by omega
  have hnx : Builtin.nextslicecap (sLen + n) sCap ≤ 4000 := by
    unfold Builtin.nextslicecap
    split
    · omega
    · split
      · omega
      · simp only [Builtin.growBy]
        repeat' split
        all_goals omega
  have h48' : ¬ (281474976710656 < Builtin.nextslicecap (sLen + n) sCap) := by omega
  have hfo := run_firstCells_some (P := P) w.drew 1 sLen b sLen sCap olds (by omega) (by simpa using holds)
  simp [Builtin.append_, run_underlying ht, run_underlying hu, sizeOf, typeInfo, zeroValue, hi, hz, hs, hb, asInt, asIntOf, hw, hnn, hn48, hn, h63', h48', Question.forced, hfo, newRow, grownCap, hne]

theorem zeroCells_one (z : Value) (hz : z.cells = #[z]) (n : Nat) : (Builtin.zeroCells z.cells n).toList = List.replicate n z := by
  rw [hz]
  apply List.ext_getElem?
  intro j
  by_cases hj : j < n
  · simp [Builtin.zeroCells, hj, Nat.mod_one]
  · rw [List.getElem?_eq_none (by simp [Builtin.zeroCells]; omega), List.getElem?_eq_none (by simp; omega)]

/-- append of n zeros to a small row of the call's own: what is there then. -/
theorem run_append_zeros_own (t u ty e : TypeId) (i : TypeInfo) (z : Value) (ht : P.underlying t = some (.slice e)) (hu : P.underlying u = some (.int .i64)) (hi : P.info? e = some i) (hz : i.zero = some z) (hs : i.size = 1) (hb : i.bytes = 1) (hz1 : z.cells = #[z])
    (g sLen sCap : Nat) (xs : List Value) (hown : w.ownsRow 0 e 1 (.slice (some ⟨g, 0, none⟩) sLen sCap) sLen xs) (n : Nat) (hsm : sLen + n ≤ 1000) (hcm : sCap ≤ 1000) (hfull : sCap = sLen) :
    ∃ g' c' w', (Builtin.append_ #[t, u] ty #[.slice (some ⟨g, 0, none⟩) sLen sCap, .int .i64 n]).run P w = .ok (.slice (some ⟨g', 0, none⟩) (sLen + n) c') w' ∧ w'.ownsRow 0 e 1 (.slice (some ⟨g', 0, none⟩) (sLen + n) c') (sLen + n) (xs ++ List.replicate n z) ∧ Chg [] w w' ∧ (g' = g ∨ w.heap.size ≤ g') := by
  rcases Nat.eq_zero_or_pos n with h0 | h0
  · subst h0
    exact ⟨g, sCap, w, run_append_zeros0 w t u ty e i ht hu hi _ sLen sCap (by omega), by simpa using hown, Chg.refl _ _, .inl rfl⟩
  · have hr := run_append_zeros w t u ty e i z ht hu hi hz hs hb ⟨g, 0, none⟩ sLen sCap xs (by have := hown.1; omega) (fun j v hj => hown.cells (g := g) rfl j v hj) n h0 (by omega) hsm hcm
    have hge := grownCap_ge w (sLen + n) sCap e
    have hle := grownCap_le_maxLen w (sLen + n) sCap e (by unfold maxLen; omega)
    refine ⟨_, _, _, hr, ⟨?_, .inr ⟨_, _, _, rfl, Nat.zero_le _, heap_alloc_new w.drew _, hge, hle, ?_, ?_⟩⟩, (Chg.drewN [] w 1).trans (Chg.alloc [] _ _) (by simp), .inr (Nat.le_refl _)⟩
    · rw [List.length_append, List.length_replicate, hown.1]; omega
    · have h1 := hown.1
      have hx : xs.length = sLen := by omega
      rw [hz1]
      simp [Builtin.zeroCells, hx]
      omega
    · have h1 := hown.1
      have hx : xs.length = sLen := by omega
      have e1 : (xs.toArray ++ Builtin.zeroCells z.cells n ++ Builtin.zeroCells z.cells (grownCap w (sLen + n) sCap e - (sLen + n))).toList = (xs ++ List.replicate n z) ++ (Builtin.zeroCells z.cells (grownCap w (sLen + n) sCap e - (sLen + n))).toList := by
        rw [Array.toList_append, Array.toList_append, zeroCells_one z hz1 n]
      rw [e1, List.take_append_of_le_length (by simp [hx]), List.take_of_length_le (by simp [hx])]

theorem wpList_zeros_x {ops : Array Oper} {rest : List Oper} {o : Oper} {a : Act} {Q : Exit → Act → World → Prop} (hgd : Region.wanted o (yielded ops a.tmps) = true) (s x : Operand) (t u : TypeId)
    (ho : o.op = .call { callee := .builtin .append, args := #[s, x], argTypes := #[t, u] })
    (e : TypeId) (i : TypeInfo) (z : Value) (ht : P.underlying t = some (.slice e)) (hu : P.underlying u = some (.int .i64)) (hi : P.info? e = some i) (hz : i.zero = some z) (hs : i.size = 1) (hb : i.bytes = 1) (hz1 : z.cells = #[z])
    (g sLen sCap : Nat) (xs : List Value) (hes : a.eval s = .slice (some ⟨g, 0, none⟩) sLen sCap) (hown : w.ownsRow 0 e 1 (.slice (some ⟨g, 0, none⟩) sLen sCap) sLen xs) (n : Nat) (hex : a.eval x = .int .i64 n) (hsm : sLen + n ≤ 1000) (hcm : sCap ≤ 1000) (hfull : sCap = sLen)
    (h : ∀ g' c' w', w'.ownsRow 0 e 1 (.slice (some ⟨g', 0, none⟩) (sLen + n) c') (sLen + n) (xs ++ List.replicate n z) → Chg [] w w' → (g' = g ∨ w.heap.size ≤ g') → wpList P ops Q rest (a.put o.dst (.slice (some ⟨g', 0, none⟩) (sLen + n) c')) w') : wpList P ops Q (o :: rest) a w := by
  refine wpList_of hgd fun K hK => ?_
  obtain ⟨g', c', w', hr, h2, h3, h4⟩ := run_append_zeros_own (P := P) w t u o.type e i z ht hu hi hz hs hb hz1 g sLen sCap xs hown n hsm hcm hfull
  unfold Oper.wp execOp
  simp only [ho, resolve, invoke, builtin, Sem.run_bind, Sem.run_pure, Result.andThen_ok, List.map_toArray, List.map_cons, List.map_nil, hes, hex, hr]
  exact hK _ _ (h g' c' w' h2 h3 h4)
end
end Go.Proofs.YtfdhpjflkimihaaDoor
