/- The reference's holds, walked. No conditions beyond those that each statement types. -/
import Derived.Test.YtnbeamggbehclaaGlobRa
import Derived.BigQuiet
import Derived.Deep.QuietTactic
namespace Go.Proofs.Ytnbeamggbehclaa
open Go.RowKit

def patC (m : Mk) (root : Bool) (a : Option Addr) (n c : Nat) : Array Value := #[.bool m.neg, .bool m.fold, .bool m.del, .bool root, .slice a n c]
theorem patC_one (m : Mk) (root : Bool) (a : Option Addr) (n c : Nat) : (patC m root a n c).all (·.oneCell') = true := by simp [patC, Value.oneCell']

set_option maxRecDepth 100000 in
set_option maxHeartbeats 8000000 in
theorem ref_holds (m : Mk) (root : Bool) (pa : Option Addr) (pn pc : Nat) (x : El) (a : Option Addr) (n c : Nat) (b : UInt8) (w : World) (hr : RgAt 0 w a n c x.rs) (hs : n ≤ 1000000) :
    Calls Try.prog 46 #[.agg (patC m root pa pn pc), .agg (elC x a n c), bv b] w fun e w' => e = .returned (.bool (x.holds' m.fold b)) ∧ Chg [] w w' := by
  have hp := heap_alloc_new w (.cells (patC m root pa pn pc) 29)
  have hx := heap_alloc_new (w.alloc (.cells (patC m root pa pn pc) 29)) (.cells (elC x a n c) 53)
  have C1 := Chg.alloc [] w (.cells (patC m root pa pn pc) 29)
  have C2 := Chg.alloc [] (w.alloc (.cells (patC m root pa pn pc) 29)) (.cells (elC x a n c) 53)
  have hp2 := (C2.block _ (lt_of_block hp) (by simp)).trans hp
  have T2 := C1.trans C2 (by simp)
  simp only [World.size_alloc] at hx
  have hr2 := hr.chg T2 (by simp)
  have HB : (b != 47) = ((b.toNat : Int) != 47) := by
    rw [Bool.eq_iff_iff, bne_iff_ne, bne_iff_ne, Ne, Ne, u8_eq]
    have : (47 : UInt8).toNat = 47 := rfl
    omega
  obtain ⟨fold, hfold⟩ : ∃ f, m.fold = f := ⟨_, rfl⟩
  rw [hfold]
  go_enter Try.func46, Try.ntmps46
  go_upto_region 1 with (fail)
  generalize (w.alloc (.cells (patC m root pa pn pc) 29)).alloc (.cells (elC x a n c) 53) = w2 at *
  obtain ⟨g, hg⟩ : ∃ g, w.heap.size = g := ⟨_, rfl⟩
  rw [hg] at hp2 hx ⊢
  have ck : w2.cell? ⟨g + 1, 0, none⟩ = some (.int .i64 x.kind) := by rw [cell_of_row _ _ _ _ _ _ hx]; rfl
  have cb : w2.cell? ⟨g + 1, 1, none⟩ = some (.int .u8 x.b.toNat) := by rw [cell_of_row _ _ _ _ _ _ hx]; rfl
  have cn : w2.cell? ⟨g + 1, 2, none⟩ = some (.bool x.no) := by rw [cell_of_row _ _ _ _ _ _ hx]; rfl
  have cr : w2.cell? ⟨g + 1, 3, none⟩ = some (.slice a n c) := by rw [cell_of_row _ _ _ _ _ _ hx]; rfl
  have cf : w2.cell? ⟨g, 1, none⟩ = some (.bool m.fold) := by rw [cell_of_row _ _ _ _ _ _ hp2]; rfl
  rw [hfold] at cf
  clear hp hx C1 C2 hp2 hg hfold
  cases x with
  | all =>
    replace ck : w2.cell? ⟨g + 1, 0, none⟩ = some (.int .i64 1) := ck
    go_wp2_with fail
    go_ret
    exact ⟨rfl, T2⟩
  | some =>
    replace ck : w2.cell? ⟨g + 1, 0, none⟩ = some (.int .i64 2) := ck
    have HF : Hid ((El.some).holds' fold b = ((b.toNat : Int) != 47)) := Lib.hid HB
    clear HB
    unfold bv
    go_wp2_with fail
    go_ret
    exact ⟨by rw [HF.out]; rfl, T2⟩
  | any =>
    replace ck : w2.cell? ⟨g + 1, 0, none⟩ = some (.int .i64 3) := ck
    have HF : Hid ((El.any).holds' fold b = ((b.toNat : Int) != 47)) := Lib.hid HB
    clear HB
    unfold bv
    go_wp2_with fail
    go_ret
    exact ⟨by rw [HF.out]; rfl, T2⟩
  | set no rs =>
    replace ck : w2.cell? ⟨g + 1, 0, none⟩ = some (.int .i64 4) := ck
    replace cn : w2.cell? ⟨g + 1, 2, none⟩ = some (.bool no) := cn
    have KW : Hid (∀ k (y : UInt8), Calls Try.prog 57 #[.slice a n c, bv y] (w2.drewN k) fun e w' => e = .returned (.bool (inB rs y)) ∧ w' = w2.drewN k) := Lib.hid (fun k y => ref_within y a n c rs (w2.drewN k) hr.len hr2.own hs)
    have KO := Lib.hid (fun y w => ref_other y w)
    have hE : (El.set no rs).holds' fold b = (((b.toNat : Int) != 47) && ((inB rs b || (fold && inB rs (otherB b))) != no)) := by rw [← HB]; rfl
    clear HB hr hr2 cb
    obtain ⟨B1, hB1⟩ : ∃ B1, inB rs b = B1 := ⟨_, rfl⟩
    obtain ⟨B2, hB2⟩ : ∃ B2, inB rs (otherB b) = B2 := ⟨_, rfl⟩
    rw [hB1, hB2] at hE
    have K1 : Hid (∀ k, Calls Try.prog 57 #[.slice a n c, bv b] (w2.drewN k) fun e w' => e = .returned (.bool B1) ∧ w' = w2.drewN k) := Lib.hid (fun k => by have := KW.out k b; rwa [hB1] at this)
    have K2 : Hid (∀ k, Calls Try.prog 57 #[.slice a n c, bv (otherB b)] (w2.drewN k) fun e w' => e = .returned (.bool B2) ∧ w' = w2.drewN k) := Lib.hid (fun k => by have := KW.out k (otherB b); rwa [hB2] at this)
    have K3 : Hid (∀ w, Calls Try.prog 58 #[bv b] w fun e w' => e = .returned (bv (otherB b)) ∧ w' = w) := Lib.hid (fun w => KO.out b w)
    clear KW KO hB1 hB2
    unfold bv at *
    generalize ((otherB b).toNat : Int) = ob at *
    generalize (b.toNat : Int) = ib at *
    obtain ⟨N, hN⟩ : ∃ N, (ib != 47) = N := ⟨_, rfl⟩
    rw [hN] at hE
    have HE := Lib.hid hE
    have HT2 := Lib.hid T2
    clear T2 hE
    cases B1 with
    | true =>
      go_upto_region 8 with (fail)
      go_quiet ((go_at_call 57; exact Calls.quiet_of_same (K1.out _)))
      cases N with
      | false =>
        go_wp2_with fail
        go_ret
        exact ⟨by rw [HE.out]; cases no <;> cases B2 <;> rfl, HT2.out.trans (Chg.drewN [] _ _) (by simp)⟩
      | true =>
        go_wp2_with fail
        go_ret
        exact ⟨by rw [HE.out]; cases no <;> cases B2 <;> rfl, HT2.out.trans (Chg.drewN [] _ _) (by simp)⟩
    | false =>
      cases fold with
      | false =>
        go_upto_region 8 with (fail)
        go_quiet ((go_at_call 57; exact Calls.quiet_of_same (K1.out _)))
        cases N with
        | false =>
          go_wp2_with fail
          go_ret
          exact ⟨by rw [HE.out]; cases no <;> cases B2 <;> rfl, HT2.out.trans (Chg.drewN [] _ _) (by simp)⟩
        | true =>
          go_wp2_with fail
          go_ret
          exact ⟨by rw [HE.out]; cases no <;> cases B2 <;> rfl, HT2.out.trans (Chg.drewN [] _ _) (by simp)⟩
      | true =>
        go_upto_region 8 with (fail)
        go_quiet (first | (go_at_call 58; exact Calls.quiet_of_same (K3.out _)) | (go_at_call 57; first | (with_reducible exact Calls.quiet_of_same (K1.out _)) | (with_reducible exact Calls.quiet_of_same (K2.out _))))
        cases N with
        | false =>
          go_wp2_with fail
          go_ret
          exact ⟨by rw [HE.out]; cases no <;> cases B2 <;> rfl, HT2.out.trans (Chg.drewN [] _ _) (by simp)⟩
        | true =>
          go_wp2_with fail
          go_ret
          exact ⟨by rw [HE.out]; cases no <;> cases B2 <;> rfl, HT2.out.trans (Chg.drewN [] _ _) (by simp)⟩
  | byt d =>
    replace ck : w2.cell? ⟨g + 1, 0, none⟩ = some (.int .i64 5) := ck
    replace cb : w2.cell? ⟨g + 1, 1, none⟩ = some (.int .u8 d.toNat) := cb
    have e1 := beq_nat b d
    have e2 := beq_nat (otherB b) d
    have hE : (El.byt d).holds' fold b = (((b.toNat : Int) == (d.toNat : Int)) || (fold && (((otherB b).toNat : Int) == (d.toNat : Int)))) := by rw [e1, e2]; rfl
    have K3 : Hid (∀ w, Calls Try.prog 58 #[bv b] w fun e w' => e = .returned (bv (otherB b)) ∧ w' = w) := Lib.hid (fun w => ref_other b w)
    clear HB hr hr2 e1 e2 cn cr
    unfold bv at *
    generalize ((otherB b).toNat : Int) = ob at *
    generalize (b.toNat : Int) = ib at *
    generalize (d.toNat : Int) = id at *
    have HT2 := Lib.hid T2
    have HE := Lib.hid hE
    clear T2 hE
    by_cases h : ib = id
    · have h1 : (ib == id) = true := beq_iff_eq.2 h
      rw [h1] at HE
      clear h
      go_upto_region 10 with (fail)
      go_quiet (fail)
      go_wp2_with fail
      go_ret
      exact ⟨by rw [HE.out]; rfl, HT2.out.trans (Chg.drewN [] _ _) (by simp)⟩
    · have h1 : (ib == id) = false := beq_eq_false_iff_ne.2 h
      have h2 : decide (ib = id) = false := decide_eq_false h
      rw [h1] at HE
      cases fold with
      | false =>
        go_upto_region 10 with (fail)
        go_quiet (fail)
        go_wp2_with fail
        go_ret
        exact ⟨by rw [HE.out]; rfl, HT2.out.trans (Chg.drewN [] _ _) (by simp)⟩
      | true =>
        go_upto_region 10 with (fail)
        go_quiet ((go_at_call 58; exact Calls.quiet_of_same (K3.out _)))
        go_wp2_with fail
        go_ret
        exact ⟨by rw [HE.out]; rfl, HT2.out.trans (Chg.drewN [] _ _) (by simp)⟩
end Go.Proofs.Ytnbeamggbehclaa
