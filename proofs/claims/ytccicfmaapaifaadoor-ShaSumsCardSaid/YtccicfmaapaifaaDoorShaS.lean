/- What digit, Text and Of of the reference of sha do to memory. No conditions beyond those that each statement types. -/
import Derived.Test.YtccicfmaapaifaaDoorShaQ
namespace Go.Proofs.YtccicfmaapaifaaDoor
open Go.RowKit

theorem dig_small : ∀ n : Nat, n < 16 → (n < 10 → ((dig n).toNat : Int) = 48 + n) ∧ (¬ n < 10 → ((dig n).toNat : Int) = 87 + n) := by
  have h : ∀ n : Fin 16, (n.val < 10 → ((dig n.val).toNat : Int) = 48 + n.val) ∧ (¬ n.val < 10 → ((dig n.val).toNat : Int) = 87 + n.val) := by decide +kernel
  exact fun n hn => h ⟨n, hn⟩

theorem ref_digit (n : Nat) (hn : n < 16) (w : World) : Calls Tryd.prog 23 #[.int .u8 n] w fun e w' => e = .returned (.int .u8 (dig n).toNat) ∧ w' = w := by
  obtain ⟨h1, h2⟩ := dig_small n hn
  by_cases h : n < 10
  · have h' : (n : Int) < 10 := by omega
    have e := h1 h
    rw [e]
    have w1 : IntKind.u8.wrap (48 + (n : Int)) = 48 + n := by rw [IntKind.wrap_u8]; omega
    clear h1 h2 e
    go_enter Tryd.func23, Tryd.ntmps23
    go_wp2_with fail
    go_ret
    exact ⟨rfl, rfl⟩
  · have h' : ¬ (n : Int) < 10 := by omega
    have e := h2 h
    rw [e]
    have w1 : IntKind.u8.wrap (97 + (n : Int)) = 97 + n := by rw [IntKind.wrap_u8]; omega
    have w2 : IntKind.u8.wrap (97 + (n : Int) - 10) = 87 + n := by rw [IntKind.wrap_u8]; omega
    clear h1 h2 e
    go_enter Tryd.func23, Tryd.ntmps23
    go_wp2_with fail
    go_ret
    exact ⟨rfl, rfl⟩

theorem src_two {wr : World} {a b : Nat} {fr : Nat × Nat} : Src (wr.alloc (Obj.cells #[.int .u8 a, .int .u8 b] 5 fr)) (some ⟨wr.heap.size, 0, none⟩) [.int .u8 a, .int .u8 b] := by
  have hnx := heap_alloc_new wr (Obj.cells #[.int .u8 a, .int .u8 b] 5 fr)
  refine ⟨fun h => by (cases h), fun q hq j u hu => ?_⟩
  cases hq
  rw [addr_add0, cell_of_row _ _ _ _ _ _ hnx]
  simpa using hu

theorem app_chg {w1 w2 : World} {t : Value} {o : Obj} (hgr : (w1.drew.alloc o).grownBy w2 t.ownBlock) : Chg t.ownBlock.toList w1 w2 :=
  ((Chg.drewN t.ownBlock.toList w1 1).trans (Chg.alloc t.ownBlock.toList (w1.drewN 1) o) (fun k hk => .inl hk)).trans (Chg.grown (S := t.ownBlock.toList) hgr (fun k hk => .inl (by simp [hk]))) (fun k hk => .inl hk)

set_option maxRecDepth 100000 in
set_option maxHeartbeats 4000000 in
theorem ref_text (f : Nat → UInt8) (w : World) :
    Calls Tryd.prog 12 #[hashV f] w fun e w' => e = .returned (.string ⟨(textTo f 32).toArray⟩) ∧ Chg [] w w' := by
  obtain ⟨iu, hiu, hiuz, hius, hiub⟩ := info_parts Tryd.infoU8
  unfold hashV
  have hnx := heap_alloc_new w (.cells (hashC f) 23)
  have CA := Chg.alloc [] w (.cells (hashC f) 23)
  have hcells : Hid (∀ wr, Chg [] (w.alloc (.cells (hashC f) 23)) wr → ∀ k, k < 32 → wr.cell? ⟨w.heap.size, k, none⟩ = some (bv (f k))) := Lib.hid (fun wr C k hk => by
    refine C.cell_some ?_ (by simp)
    rw [cell_of_row _ _ _ _ _ _ hnx, hashC_get f k hk])
  generalize hashC f = F at *
  go_enter Tryd.func12, Tryd.ntmps12
  go_wp2_with fail
  generalize w.alloc (.cells F 23) = w0 at *
  obtain ⟨g, hg⟩ : ∃ g, w.heap.size = g := ⟨_, rfl⟩
  rw [hg] at hcells ⊢
  have hg0 : g < w0.heap.size := by rw [hg] at hnx; exact lt_of_block hnx
  have HG := Lib.hid hg
  clear hnx hg
  go_loopw [3, 4] (fun v i wr => ∃ (k n c : Nat) (a : Option Addr), v = .slice a n c ∧ i = .int .i64 k ∧ k ≤ 32 ∧ n = 2 * k ∧ wr.ownsRow 0 5 1 (.slice a n c) n (bvs (textTo f k)) ∧ Chg [] w0 wr ∧ ∀ q, (Value.slice a n c).ownBlock = some q → w0.heap.size ≤ q) (fun _ i _ => 32 - (intOf i).toNat)
  case atStart => exact ⟨0, 0, 0, none, rfl, rfl, by omega, rfl, World.ownsRow_nil _ _ _ _, Chg.refl _ _, fun q hq => by cases hq⟩
  case round =>
    obtain ⟨k, n, c, a, rfl, rfl, hk, hn, ho, C, hnew⟩ := hrel
    have hl := ownsRow_lt ho
    by_cases hlt : k < 32
    · have hlt' : (k : Int) < 32 := by omega
      have hk0 : (0 : Int) ≤ k := by omega
      have h256 := (f k).toNat_lt
      have hq : (f k).toNat / 16 < 16 := by omega
      have hr : (f k).toNat % 16 < 16 := by omega
      have hdv : ((f k).toNat : Int) / 16 = (((f k).toNat / 16 : Nat) : Int) := by simp
      have hmd : ((f k).toNat : Int) % 16 = (((f k).toNat % 16 : Nat) : Int) := by simp
      have hdt : ((f k).toNat : Int).tdiv 16 = (((f k).toNat / 16 : Nat) : Int) := by rw [Int.tdiv_eq_ediv_of_nonneg (by omega)]; exact hdv
      have hmt : ((f k).toNat : Int).tmod 16 = (((f k).toNat % 16 : Nat) : Int) := by rw [Int.tmod_eq_emod_of_nonneg (by omega)]; exact hmd
      have HT := Lib.hid (show textTo f (k + 1) = textTo f k ++ [dig ((f k).toNat / 16)] ++ [dig ((f k).toNat % 16)] from rfl)
      have cr := hcells.out wr C k hlt
      unfold bv at cr
      generalize (f k).toNat / 16 = q at *
      generalize (f k).toNat % 16 = r at *
      have KD : Hid (∀ (n : Nat) (w : World), n < 16 → Calls Tryd.prog 23 #[.int .u8 n] w fun e w' => e = .returned (.int .u8 (dig n).toNat) ∧ w' = w) := Lib.hid (fun n w hn => ref_digit n hn w)
      have hwq : IntKind.u8.wrap (q : Int) = q := by rw [IntKind.wrap_u8]; omega
      have hwr : IntKind.u8.wrap (r : Int) = r := by rw [IntKind.wrap_u8]; omega
      obtain ⟨y, hy⟩ : ∃ y, (f k).toNat = y := ⟨_, rfl⟩
      rw [hy] at cr hdv hmd hdt hmt
      have HB : Hid (bvs (textTo f (k + 1)) = bvs (textTo f k) ++ [.int .u8 (dig q).toNat, .int .u8 (dig r).toNat]) := Lib.hid (by
        rw [HT.out, List.append_assoc, bvs_append]
        rfl)
      have HN := Lib.hid hn
      have hn64 : n ≤ 64 := by omega
      clear HT hn hy
      go_wp2_with fail
      have cd : (wr.drewN 1).cell? ⟨g, k, none⟩ = some (.int .u8 y) := cr
      go_region_held3 (fun w' => w'.cell? ⟨g, k, none⟩ = some (.int .u8 y)) (first | assumption | exact cd | (exact (Chg.alloc [] _ _).cell_some (by assumption) (by simp)))
        (first
          | (go_at_call 23; refine (KD.out _ _ (by assumption)).mono ?_; rintro r w' ⟨rfl, rfl⟩)
          | (refine step_append_x _ rfl _ _ 39 rfl 5 iu _ 1 1 Tryd.underlying39 hiu hiuz hius hiub rfl (by decide) (.slice a n c) n (bvs (textTo f k)) rfl (ownsRow_chg ho ((Chg.drewN [] _ 1).trans (Chg.alloc [] _ _) (by simp)) (by simp)) (some ⟨wr.heap.size, 0, none⟩) 2 2 [.int .u8 (dig q).toNat, .int .u8 (dig r).toNat] rfl rfl (src_two (wr := wr.drewN 1)) (fun h => by cases h) (by simp [Value.oneCell']) (by unfold maxLen; omega) (by omega) ?_; intro ao2 cap2 w2 hown2 hgr2 hblk2; have D2' : Chg (Value.slice a n c).ownBlock.toList wr w2 := app_chg hgr2; have cw2 : w2.cell? ⟨g, k, none⟩ = some (.int .u8 y) := D2'.cell_some cr (fun hm => by have := hnew g (by simpa using hm); omega)))
      go_wp2_with fail
      go_roundw
      case rel => exact ⟨k + 1, n + 2, cap2, ao2, rfl, by go_num, by omega, by rw [HN.out]; omega, by rw [HB.out]; exact hown2, C.trans D2' (fun j hj => .inr (hnew j (by simpa using hj))), fun j hj => by
        rcases hblk2 with e | e
        · rw [e] at hj; exact hnew j hj
        · rw [e] at hj
          have := Option.some.inj hj
          have h2 := C.size
          (try simp at this)
          omega⟩
      case measure => simp [intOf]; omega
    · obtain rfl : k = 32 := by omega
      have hn64 : n ≤ 64 := by omega
      have ht : (textTo f 32).length = n := by rw [textTo_length, hn]
      have hs := ownsRow_src ho
      have HSS := Lib.hid (CA.trans C (by simp))
      obtain ⟨T, hT⟩ : ∃ T, textTo f 32 = T := ⟨_, rfl⟩
      rw [hT] at ht hs ho
      have HT := Lib.hid hT
      clear hT hn ho
      go_wp2_with (refine wpList_str_of_bytes _ rfl 39 9 _ rfl 5 Tryd.underlying39 Tryd.underlying5 Tryd.underlying9 a n c rfl ⟨T.toArray⟩ ht hs ?_)
      go_ret
      exact ⟨by rw [HT.out]; rfl, HSS.out⟩
end Go.Proofs.YtccicfmaapaifaaDoor
