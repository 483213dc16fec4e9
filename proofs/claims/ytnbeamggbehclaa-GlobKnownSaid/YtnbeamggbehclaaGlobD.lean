/- The functions that elements hold: of one byte, of parts, of all. No conditions beyond those that each statement types. -/
import Derived.Test.YtnbeamggbehclaaGlobC
import Derived.Test.YtnbeamggbehclaaRow
import Derived.Shelf.Abstract
import Derived.BigQuiet
import Derived.Deep.QuietTactic
namespace Go.Proofs.Ytnbeamggbehclaa
open Go.RowKit

/-- A function value that holds of bytes as h says, as long as the pattern in block b is folded or not as it is; of memory it reads the blocks from lo on, up to hi. -/
def CloAt (w : World) (b lo hi : Nat) (fold : Bool) (v : Value) (h : UInt8 → Bool) : Prop :=
  ∃ (g : Nat) (cap : Array Value), v = .func (.func g) #[] cap ∧ (∀ args w', (callFunc g args).run Try.prog w' = .ok (.enter g args) w') ∧
    ∀ (w' : World) (S : List Nat) (c : UInt8), Chg S w w' → (∀ k ∈ S, k < lo ∨ hi ≤ k) → w'.cell? ⟨b, 3, none⟩ = some (.bool fold) → Calls Try.prog g (#[bv c] ++ cap) w' fun e w'' => e = .returned (.bool (h c)) ∧ Chg [] w' w''
theorem CloAt.chg {w w' : World} {b lo hi : Nat} {fold : Bool} {v : Value} {h : UInt8 → Bool} {S : List Nat} (H : CloAt w b lo hi fold v h) (C : Chg S w w') (hS : ∀ k ∈ S, k < lo ∨ hi ≤ k) : CloAt w' b lo hi fold v h := by
  obtain ⟨g, cap, e, he, hc⟩ := H
  refine ⟨g, cap, e, he, fun w2 T c C2 hT h3 => hc w2 (S ++ T) c ((C.mono (T := S ++ T) (fun k hk => by simp [hk])).trans C2 (fun k hk => .inl (by simp [hk]))) (fun k hk => ?_) h3⟩
  rcases List.mem_append.1 hk with h1 | h1
  · exact hS k h1
  · exact hT k h1
theorem CloAt.wide {w : World} {b lo hi lo' hi' : Nat} {fold : Bool} {v : Value} {h : UInt8 → Bool} (H : CloAt w b lo hi fold v h) (h1 : lo' ≤ lo) (h2 : hi ≤ hi') : CloAt w b lo' hi' fold v h := by
  obtain ⟨g, cap, e, he, hc⟩ := H
  exact ⟨g, cap, e, he, fun w2 T c C2 hT h3 => hc w2 T c C2 (fun k hk => by have := hT k hk; omega) h3⟩
theorem CloAt.one {w : World} {b lo hi : Nat} {fold : Bool} {v : Value} {h : UInt8 → Bool} (H : CloAt w b lo hi fold v h) : v.oneCell' = true := by
  obtain ⟨g, cap, rfl, _⟩ := H; rfl

theorem glob_part (c : UInt8) (w : World) : Calls Try.prog 39 #[bv c] w fun e w' => e = .returned (.bool (c != 47)) ∧ w' = w := by
  have hc : ((c.toNat : Int) != 47) = (c != 47) := by
    rw [Bool.eq_iff_iff, bne_iff_ne, bne_iff_ne, Ne, Ne, u8_eq]
    have : (47 : UInt8).toNat = 47 := rfl
    omega
  rw [← hc]
  unfold bv
  generalize (c.toNat : Int) = x
  go_enter Try.func39, Try.ntmps39
  go_wp2_with fail
  go_ret
  exact ⟨rfl, rfl⟩
theorem glob_all (c : UInt8) (w : World) : Calls Try.prog 40 #[bv c] w fun e w' => e = .returned (.bool true) ∧ w' = w := by
  unfold bv
  go_enter Try.func40, Try.ntmps40
  go_wp2_with fail
  go_ret
  exact ⟨rfl, rfl⟩
theorem clo_part (w : World) (b lo hi : Nat) (fold : Bool) : CloAt w b lo hi fold (.func (.func 39) #[] #[]) fun c => c != 47 :=
  ⟨_, _, rfl, enters_of Try.func39 (by kernel_rfl) rfl, fun w' _ c _ _ _ => (glob_part c w').mono fun e w'' ⟨h, g⟩ => ⟨h, g ▸ Chg.refl _ _⟩⟩
theorem clo_all (w : World) (b lo hi : Nat) (fold : Bool) : CloAt w b lo hi fold (.func (.func 40) #[] #[]) fun _ => true :=
  ⟨_, _, rfl, enters_of Try.func40 (by kernel_rfl) rfl, fun w' _ c _ _ _ => (glob_all c w').mono fun e w'' ⟨h, g⟩ => ⟨h, g ▸ Chg.refl _ _⟩⟩

theorem beq_nat (c d : UInt8) : ((c.toNat : Int) == (d.toNat : Int)) = (c == d) := by
  rw [Bool.eq_iff_iff, beq_iff_eq, beq_iff_eq, u8_eq]
  omega
set_option maxRecDepth 100000 in
set_option maxHeartbeats 4000000 in
theorem glob_is1 (c d : UInt8) (b gw gp : Nat) (fold : Bool) (w : World) (hw : w.cell? ⟨gw, 0, none⟩ = some (bv d)) (hp : w.cell? ⟨gp, 0, none⟩ = some (.pointer (some ⟨b, 0, none⟩))) (hf : w.cell? ⟨b, 3, none⟩ = some (.bool fold)) :
    Calls Try.prog 52 #[bv c, .pointer (some ⟨gw, 0, none⟩), .pointer (some ⟨gp, 0, none⟩)] w fun e w' => e = .returned (.bool ((El.byt d).holds fold c)) ∧ Chg [] w w' := by
  have KL := Lib.hid (fun x w => glob_lower x w)
  have e1 := beq_nat c d
  have e2 := beq_nat (lowerB c) (lowerB d)
  have hE : (El.byt d).holds fold c = (c == d || (fold && (lowerB c == lowerB d))) := rfl
  rw [hE, ← e1, ← e2]
  unfold bv at *
  clear e1 e2 hE
  by_cases hxy : c = d
  · subst hxy
    go_enter Try.func52, Try.ntmps52
    go_wp2_with fail
    go_quiet (fail)
    go_wp2_with fail
    go_ret
    exact ⟨by simp, Chg.drewN _ _ _⟩
  · have hne : ¬ (c.toNat : Int) = d.toNat := fun e => hxy (u8_eq.2 (by omega))
    have h1 : ((c.toNat : Int) == (d.toNat : Int)) = false := beq_eq_false_iff_ne.2 hne
    have h2 : decide ((c.toNat : Int) = d.toNat) = false := decide_eq_false hne
    have h3 : decide (c.toNat = d.toNat) = false := decide_eq_false (by omega)
    clear hne hxy
    cases fold with
    | false =>
      go_enter Try.func52, Try.ntmps52
      go_wp2_with fail
      go_quiet (fail)
      go_wp2_with fail
      go_ret
      exact ⟨by simp [h1], Chg.drewN _ _ _⟩
    | true =>
      go_enter Try.func52, Try.ntmps52
      go_wp2_with fail
      go_quiet ((go_at_call 53; exact Calls.quiet_of_same (KL.out _ _)))
      go_wp2_with fail
      go_ret
      exact ⟨by simp [h1], Chg.drewN _ _ _⟩

theorem clo_is {w : World} {b gw gp lo hi : Nat} {d : UInt8} (fold : Bool) (hw : w.cell? ⟨gw, 0, none⟩ = some (bv d)) (hp : w.cell? ⟨gp, 0, none⟩ = some (.pointer (some ⟨b, 0, none⟩))) (h1 : lo ≤ gw ∧ gw < hi) (h2 : lo ≤ gp ∧ gp < hi) :
    CloAt w b lo hi fold (.func (.func 52) #[] #[.pointer (some ⟨gw, 0, none⟩), .pointer (some ⟨gp, 0, none⟩)]) ((El.byt d).holds fold) :=
  ⟨_, _, rfl, enters_of Try.func52 (by kernel_rfl) rfl, fun w' S c C hS h3 => glob_is1 c d b gw gp fold w' (C.cell_some hw (fun hm => by have := hS _ hm; simp at this; omega)) (C.cell_some hp (fun hm => by have := hS _ hm; simp at this; omega)) h3⟩

/-- An element's value, as the program hands it back, and what it holds of. -/
def ElOut (w : World) (b : Nat) (x : El) (v : Value) (w' : World) : Prop :=
  ∃ u, v = .agg #[u, .bool x.many] ∧ (∀ fold, CloAt w' b w.heap.size w'.heap.size fold u (x.holds fold)) ∧ Chg [] w w'

theorem Try.infoEl : (Try.prog.info? 48).map (·.size) = some 2 := by kernel_rfl
theorem Try.infoU8 : (Try.prog.info? 5).map (fun i => (i.zero, i.size, i.bytes)) = some (some (.int .u8 0), 1, 1) := by kernel_rfl
theorem store_el (w : World) (g : Nat) (a b u v : Value) (h : w.heap[g]? = some (.cells #[a, b] 48 (0, 0))) (hu : u.oneCell' = true) (hv : v.oneCell' = true) :
    (Instr.storeAt 48 (.pointer (some ⟨g, 0, none⟩)) (.agg #[u, v])).run Try.prog w = .ok () (w.setRow g #[u, v]) :=
  run_storeAt_row w g _ _ #[a, b] #[u, v] h Try.infoEl rfl (by simp [hu, hv])
theorem load_el (w : World) (g : Nat) (u v : Value) (h : w.heap[g]? = some (.cells #[u, v] 48 (0, 0))) :
    (Instr.loadAt 48 (.pointer (some ⟨g, 0, none⟩))).run Try.prog w = .ok (.agg #[u, v]) w := by
  simp only [Instr.loadAt, Instr.sureAddr, Sem.run_bind, Sem.run_pure, Result.andThen]
  exact run_loadVar_row w g _ _ #[u, v] (0, 0) _ h Try.underlying48 rfl Try.infoEl
theorem func_one (g : Nat) (cap : Array Value) : (Value.func (.func g) #[] cap).oneCell' = true := rfl

set_option maxRecDepth 100000 in
theorem glob_is (b : Nat) (d : UInt8) (w : World) (_ : b < w.heap.size) : Calls Try.prog 41 #[.pointer (some ⟨b, 0, none⟩), bv d] w fun e w' => ∃ v, e = .returned v ∧ ElOut w b (.byt d) v w' := by
  have hmf : ∀ (fn : Fn) (first cap : Array Value) (w : World), (Instr.makeFunc fn first cap).run Try.prog w = .ok (.func fn first cap) w := fun _ _ _ _ => rfl
  have hA := heap_alloc_new w (.cells #[.pointer (some ⟨b, 0, none⟩)] 23)
  have hB := heap_alloc_new (w.alloc (.cells #[.pointer (some ⟨b, 0, none⟩)] 23)) (.cells #[bv d] 5)
  have hC := heap_alloc_new ((w.alloc (.cells #[.pointer (some ⟨b, 0, none⟩)] 23)).alloc (.cells #[bv d] 5)) (.cells #[Value.nilFunc, .bool false] 48)
  have C1 := Chg.alloc [] w (.cells #[.pointer (some ⟨b, 0, none⟩)] 23)
  have C2 := Chg.alloc [] (w.alloc (.cells #[.pointer (some ⟨b, 0, none⟩)] 23)) (.cells #[bv d] 5)
  have C3 := Chg.alloc [] ((w.alloc (.cells #[.pointer (some ⟨b, 0, none⟩)] 23)).alloc (.cells #[bv d] 5)) (.cells #[Value.nilFunc, .bool false] 48)
  have hA' := (C3.block w.heap.size (by simp; omega) (by simp)).trans ((C2.block w.heap.size (by simp) (by simp)).trans hA)
  have hB' := (C3.block _ (lt_of_block hB) (by simp)).trans hB
  have T3 := (C1.trans C2 (by simp)).trans C3 (by simp)
  simp only [World.size_alloc] at hB' hC
  clear hA hB C1 C2 C3
  unfold bv at *
  go_enter Try.func41, Try.ntmps41
  go_upto_region 1 with (fail)
  generalize ((w.alloc (.cells #[.pointer (some ⟨b, 0, none⟩)] 23)).alloc (.cells #[.int .u8 d.toNat] 5)).alloc (.cells #[Value.nilFunc, .bool false] 48) = w3 at *
  obtain ⟨g, hg⟩ : ∃ g, w.heap.size = g := ⟨_, rfl⟩
  rw [hg] at hA' hB' hC ⊢
  have HG := Lib.hid hg
  clear hg
  go_wp2_with (refine wpList_store_x _ rfl 48 (.tmp 4) (.tmp 6) rfl _ (store_el _ _ _ _ _ _ hC (func_one _ _) rfl) ?_)
  have C4 : Chg [] w (w3.setRow (g + 1 + 1) #[.func (.func 52) #[] #[.pointer (some ⟨g + 1, 0, none⟩), .pointer (some ⟨g, 0, none⟩)], .bool false]) :=
    T3.trans (Chg.setRow (S := [g + 1 + 1]) _ _ _ (.inl (by simp))) (fun k hk => by simp at hk; right; have := HG.out; omega)
  have hr := setRow_heap w3 (g + 1 + 1) _ #[.func (.func 52) #[] #[.pointer (some ⟨g + 1, 0, none⟩), .pointer (some ⟨g, 0, none⟩)], .bool false] _ _ hC
  have hA2 := (setRow_other w3 (g + 1 + 1) g #[.func (.func 52) #[] #[.pointer (some ⟨g + 1, 0, none⟩), .pointer (some ⟨g, 0, none⟩)], .bool false] (by omega)).trans hA'
  have hB2 := (setRow_other w3 (g + 1 + 1) (g + 1) #[.func (.func 52) #[] #[.pointer (some ⟨g + 1, 0, none⟩), .pointer (some ⟨g, 0, none⟩)], .bool false] (by omega)).trans hB'
  exact bodyPost_ret (results_cell_row rfl _ _ _ _ _ _ _ rfl hr Try.underlying48 rfl Try.infoEl) rfl ⟨_, rfl, _, rfl, fun fold => clo_is fold (by rw [cell_of_row _ _ _ _ _ _ hB2]; rfl) (by rw [cell_of_row _ _ _ _ _ _ hA2]; rfl) (by have := HG.out; have := lt_of_block hr; omega) (by have := HG.out; have := lt_of_block hr; omega), C4⟩
end Go.Proofs.Ytnbeamggbehclaa
