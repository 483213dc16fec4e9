/- The first element of a text, walked. No conditions beyond those that each statement types. -/
import Derived.Test.YtnbeamggbehclaaGlobH
namespace Go.Proofs.Ytnbeamggbehclaa
open Go.RowKit

/-- What taking the first element off a text hands back. -/
def TookE (w : World) (b : Nat) (l : List UInt8) (res : Option (El × List UInt8)) (e : Ending) (w' : World) : Prop :=
  match res with
  | none => ∃ u, e = .returned (.tuple #[.agg #[u, .bool false], .int .i64 0]) ∧ u.oneCell' = true ∧ Chg [] w w'
  | some (x, r) => ∃ v, ∃ n : Nat, e = .returned (.tuple #[v, .int .i64 n]) ∧ 0 < n ∧ n ≤ l.length ∧ l.drop n = r ∧ ElOut w b x v w'

theorem tookE_store {w wx : World} {b g n : Nat} {x : El} {u : Value} {l r : List UInt8} (hg : w.heap.size = g) (C : Chg [] w wx) (hclo : ∀ fold, CloAt wx b (g + 1) wx.heap.size fold u (x.holds fold))
    (h0 : 0 < n) (hn : n ≤ l.length) (hr : l.drop n = r) : TookE w b l (some (x, r)) (.returned (.tuple #[.agg #[u, .bool x.many], .int .i64 n])) (wx.setRow g #[u, .bool x.many]) := by
  have C2 : Chg [g] wx (wx.setRow g #[u, .bool x.many]) := Chg.setRow _ _ _ (.inl (by simp))
  exact ⟨_, n, rfl, h0, hn, hr, u, rfl, fun fold => ((hclo fold).chg C2 (fun k hk => by simp at hk; omega)).wide (by omega) C2.size, C.trans C2 (fun k hk => by simp at hk; right; omega)⟩
theorem tookE_none {w wx : World} {b g : Nat} {u : Value} {l : List UInt8} (hg : w.heap.size = g) (C : Chg [] w wx) (hu : u.oneCell' = true) :
    TookE w b l none (.returned (.tuple #[.agg #[u, .bool false], .int .i64 0])) (wx.setRow g #[u, .bool false]) :=
  ⟨u, rfl, hu, C.trans (Chg.setRow (S := [g]) _ _ _ (.inl (by simp))) (fun k hk => by simp at hk; right; omega)⟩

set_option maxRecDepth 100000 in
set_option maxHeartbeats 8000000 in
theorem glob_element (b : Nat) (s : ByteArray) (w : World) (hb : b < w.heap.size) (h0 : 0 < s.size) (hs : s.size ≤ 1000) :
    Calls Try.prog 26 #[.pointer (some ⟨b, 0, none⟩), .string s] w (TookE w b s.data.toList (elem1 s.data.toList)) := by
  have K1 := Lib.hid (glob_hasPrefixS s ⟨#[42, 42]⟩)
  have e1 : (⟨#[42, 42]⟩ : ByteArray).data.toList = [42, 42] := rfl
  rw [e1] at K1
  clear e1
  obtain ⟨l, hl⟩ : ∃ l, s.data.toList = l := ⟨_, rfl⟩
  obtain ⟨RES, hRES⟩ : ∃ RES, elem1 s.data.toList = RES := ⟨_, rfl⟩
  have hd := data_head h0
  rw [hl] at hd
  have hsz : l.length = s.size := by rw [← hl]; rfl
  have hget : l.getD 0 0 = s[0] := by rw [show l = l.drop 0 from rfl, hd]; rfl
  rw [hRES, hl]
  rw [hl] at K1 hRES
  unfold elem1 at hRES
  rw [hget] at hRES
  have HL := Lib.hid hl
  have HSZ := Lib.hid hsz
  have KC := Lib.hid (fun t w hb hs => glob_class b t w hb hs)
  have KI := Lib.hid (fun d w hb => glob_is b d w hb)
  have KO := Lib.hid (fun t w => glob_one t w)
  obtain ⟨P, hP⟩ : ∃ P, pre [42, 42] l = P := ⟨_, rfl⟩
  have HP := Lib.hid hP
  rw [hP] at K1 hRES
  clear hP hl hd hsz hget
  have h0' : (0 : Int) < s.size := by omega
  have hx := heap_alloc_new w (.cells #[Value.nilFunc, .bool false] 48)
  have C1 := Chg.alloc [] w (.cells #[Value.nilFunc, .bool false] 48)
  have hs1 : (w.alloc (.cells #[Value.nilFunc, .bool false] 48)).heap.size = w.heap.size + 1 := by simp
  have ne : ∀ n : UInt8, s[0] = n ↔ (s[0].toNat : Int) = n.toNat := fun n => by rw [u8_eq]; omega
  have n42 : (42 : UInt8).toNat = 42 := rfl
  have n63 : (63 : UInt8).toNat = 63 := rfl
  have n47 : (47 : UInt8).toNat = 47 := rfl
  have n91 : (91 : UInt8).toNat = 91 := rfl
  go_enter Try.func26, Try.ntmps26
  go_upto_region 2 with (fail)
  generalize w.alloc (.cells #[Value.nilFunc, .bool false] 48) = w1 at *
  obtain ⟨g, hg⟩ : ∃ g, w.heap.size = g := ⟨_, rfl⟩
  rw [hg] at hx hs1 hb ⊢
  have HG := Lib.hid hg
  clear hg
  have hb1 : b < w1.heap.size := by omega
  go_wp2_with fail
  refine (K1.out _).mono ?_
  rintro e w1' ⟨rfl, rfl⟩
  clear K1
  rcases P with _ | _
  case true =>
    rw [if_pos rfl] at hRES
    have hlen := pre_len HP.out
    subst hRES
    have hclo := clo_all w1' b (g + 1) w1'.heap.size
    go_wp2_with (refine wpList_store_y 48 (.tmp 4) (.tmp 14) rfl rfl (.pointer (some ⟨g, 0, none⟩)) (.agg #[(.func (.func 40) #[] #[]), .bool true]) _ (store_el _ _ _ _ _ _ hx rfl rfl) rfl rfl ?_)
    exact bodyPost_ret (results_el_tmp rfl _ _ g _ _ _ _ (.int .i64 2) rfl rfl (setRow_heap w1' g _ _ _ _ hx)) rfl (tookE_store (x := .all) (n := 2) HG.out C1 hclo (by omega) hlen rfl)
  case false =>
  rw [if_neg (by simp)] at hRES
  by_cases h42 : s[0] = 42
  · rw [if_pos h42] at hRES
    have b42 : ((s[0].toNat : Int) == 42) = true := beq_iff_eq.2 (by have := (ne 42).1 h42; omega)
    subst hRES
    have hclo := clo_part w1' b (g + 1) w1'.heap.size
    clear h42 ne
    go_wp2_with (refine wpList_store_y 48 (.tmp 4) (.tmp 20) rfl rfl (.pointer (some ⟨g, 0, none⟩)) (.agg #[(.func (.func 39) #[] #[]), .bool true]) _ (store_el _ _ _ _ _ _ hx rfl rfl) rfl rfl ?_)
    exact bodyPost_ret (results_el_tmp rfl _ _ g _ _ _ _ (.int .i64 1) rfl rfl (setRow_heap w1' g _ _ _ _ hx)) rfl (tookE_store (x := .some) (n := 1) HG.out C1 hclo (by omega) (by rw [HSZ.out]; exact h0) rfl)
  rw [if_neg h42] at hRES
  have b42 : ((s[0].toNat : Int) == 42) = false := beq_eq_false_iff_ne.2 (fun h => h42 ((ne 42).2 (by omega)))
  by_cases h63 : s[0] = 63
  · rw [if_pos h63] at hRES
    have b63 : ((s[0].toNat : Int) == 63) = true := beq_iff_eq.2 (by have := (ne 63).1 h63; omega)
    subst hRES
    have hclo := clo_part w1' b (g + 1) w1'.heap.size
    clear h42 h63 ne
    go_wp2_with (refine wpList_store_y 48 (.tmp 4) (.tmp 26) rfl rfl (.pointer (some ⟨g, 0, none⟩)) (.agg #[(.func (.func 39) #[] #[]), .bool false]) _ (store_el _ _ _ _ _ _ hx rfl rfl) rfl rfl ?_)
    exact bodyPost_ret (results_el_tmp rfl _ _ g _ _ _ _ (.int .i64 1) rfl rfl (setRow_heap w1' g _ _ _ _ hx)) rfl (tookE_store (x := .any) (n := 1) HG.out C1 hclo (by omega) (by rw [HSZ.out]; exact h0) rfl)
  rw [if_neg h63] at hRES
  have b63 : ((s[0].toNat : Int) == 63) = false := beq_eq_false_iff_ne.2 (fun h => h63 ((ne 63).2 (by omega)))
  by_cases h47 : s[0] = 47
  · rw [if_pos h47] at hRES
    have b47 : ((s[0].toNat : Int) == 47) = true := beq_iff_eq.2 (by have := (ne 47).1 h47; omega)
    subst hRES
    clear h42 h63 h47 ne
    go_wp2_with fail
    refine (KI.out 47 _ hb1).mono ?_
    rintro e w2 ⟨v, rfl, u, rfl, hclo, C2⟩
    have hx2 := (C2.block _ (lt_of_block hx) (by simp)).trans hx
    rw [hs1] at hclo
    have hu := (hclo false).one
    go_wp2_with (refine wpList_store_y 48 (.tmp 4) (.tmp 32) rfl rfl (.pointer (some ⟨g, 0, none⟩)) (.agg #[u, .bool false]) _ (store_el _ _ _ _ _ _ hx2 hu rfl) rfl rfl ?_)
    exact bodyPost_ret (results_el_tmp rfl _ _ g _ _ _ _ (.int .i64 1) rfl rfl (setRow_heap w2 g _ _ _ _ hx2)) rfl (tookE_store (x := .byt 47) (n := 1) HG.out (C1.trans C2 (by simp)) hclo (by omega) (by rw [HSZ.out]; exact h0) rfl)
  rw [if_neg h47] at hRES
  have b47 : ((s[0].toNat : Int) == 47) = false := beq_eq_false_iff_ne.2 (fun h => h47 ((ne 47).2 (by omega)))
  by_cases h91 : s[0] = 91
  · rw [if_pos h91] at hRES
    have b91 : ((s[0].toNat : Int) == 91) = true := beq_iff_eq.2 (by have := (ne 91).1 h91; omega)
    clear h42 h63 h47 h91 ne
    have hcut : s.extract 1 s.size = cutB s 1 := rfl
    have hcd : (cutB s 1).data.toList = l.drop 1 := by rw [cutB_data, HL.out]
    have K2 := KC.out (cutB s 1) w1' hb1 (by rw [cutB_size]; omega)
    rw [hcd] at K2
    have h1s : (1 : Int) ≤ s.size := by omega
    generalize cutB s 1 = u1 at *
    clear hcd
    have HK := Lib.hid K2
    obtain ⟨o, ho⟩ : ∃ o, class1 (l.drop 1) = o := ⟨_, rfl⟩
    rw [ho] at HK hRES
    subst hRES
    clear K2 ho
    cases o with
    | none =>
      go_wp2_with fail
      refine HK.out.mono ?_
      rintro e w2 ⟨rfl, C2⟩
      have hnf : Value.nilFunc.oneCell' = true := rfl
      have hbf : (Value.bool false).oneCell' = true := rfl
      have hx2 := (C2.block _ (lt_of_block hx) (by simp)).trans hx
      have C3 := Chg.alloc [] w2 (.cells #[Value.nilFunc, .bool false] 48)
      have hx3 := (C3.block _ (lt_of_block hx2) (by simp)).trans hx2
      go_upto_region 12 with (refine wpList_store_y 48 (.tmp 7) (.tmp 42) rfl rfl (.pointer (some ⟨w2.heap.size, 0, none⟩)) (.agg #[Value.nilFunc, .bool false]) _ (run_storeAt_new w2 _ #[Value.nilFunc, .bool false] #[Value.nilFunc, .bool false] Try.infoEl rfl (by simp [hnf, hbf])) rfl rfl ?_)
      generalize w2.alloc (.cells #[Value.nilFunc, .bool false] 48) = w3 at *
      go_wp2_with (refine wpList_store_y 48 (.tmp 4) (.tmp 46) rfl rfl (.pointer (some ⟨g, 0, none⟩)) (.agg #[Value.nilFunc, .bool false]) _ (store_el _ _ _ _ _ _ hx3 rfl rfl) rfl rfl ?_)
      exact bodyPost_ret (results_el_tmp rfl _ _ g _ _ _ _ (.int .i64 0) rfl rfl (setRow_heap w3 g _ _ _ _ hx3)) rfl (tookE_none (u := Value.nilFunc) HG.out ((C1.trans C2 (by simp)).trans C3 (by simp)) rfl)
    | some o =>
      obtain ⟨x, r⟩ := o
      go_wp2_with fail
      refine HK.out.mono ?_
      rintro e w2 ⟨v, n, rfl, hn0, hnl, hnr, u, rfl, hclo, C2⟩
      have hx2 := (C2.block _ (lt_of_block hx) (by simp)).trans hx
      have C3 := Chg.alloc [] w2 (.cells #[u, .bool x.many] 48)
      have hx3 := (C3.block _ (lt_of_block hx2) (by simp)).trans hx2
      have hq3 := heap_alloc_new w2 (.cells #[u, .bool x.many] 48)
      have hu := (hclo false).one
      have hm1 : (Value.bool x.many).oneCell' = true := rfl
      rw [hs1] at hclo
      rw [List.length_drop, HSZ.out] at hnl
      have hn1 : ((n : Int) == 0) = false := beq_eq_false_iff_ne.2 (by omega)
      have hwn : IntKind.i64.wrap ((n : Int) + 1) = n + 1 := by rw [IntKind.wrap_i64]; omega
      have HF := Lib.hid (show 0 < n + 1 ∧ n + 1 ≤ l.length ∧ l.drop (n + 1) = r from ⟨by omega, by rw [HSZ.out]; omega, by rw [← hnr, List.drop_drop, Nat.add_comm]⟩)
      clear hn0 hnl hnr
      go_upto_region 12 with (refine wpList_store_y 48 (.tmp 7) (.tmp 42) rfl rfl (.pointer (some ⟨w2.heap.size, 0, none⟩)) (.agg #[u, .bool x.many]) _ (run_storeAt_new w2 _ #[Value.nilFunc, .bool false] #[u, .bool x.many] Try.infoEl rfl (by simp [hu, hm1])) rfl rfl ?_)
      have hclo3 := fun fold => ((hclo fold).chg C3 (by simp)).wide (Nat.le_refl _) C3.size
      clear hclo
      obtain ⟨q, hq⟩ : ∃ q, w2.heap.size = q := ⟨_, rfl⟩
      rw [hq] at hq3
      generalize w2.alloc (.cells #[u, .bool x.many] 48) = w3 at *
      (try rw [hq])
      clear hq
      go_wp2_with (first
        | refine wpList_load_y 48 (.tmp 7) rfl rfl (.pointer (some ⟨q, 0, none⟩)) (.agg #[u, .bool x.many]) (load_el _ _ _ _ hq3) rfl ?_
        | refine wpList_store_y 48 (.tmp 4) (.tmp 47) rfl rfl (.pointer (some ⟨g, 0, none⟩)) (.agg #[u, .bool x.many]) _ (store_el _ _ _ _ _ _ hx3 hu rfl) rfl rfl ?_)
      exact bodyPost_ret (results_el_tmp rfl _ _ g _ _ _ _ (.int .i64 ((n + 1 : Nat) : Int)) rfl rfl (setRow_heap w3 g _ _ _ _ hx3)) rfl (tookE_store HG.out ((C1.trans C2 (by simp)).trans C3 (by simp)) hclo3 HF.out.1 HF.out.2.1 HF.out.2.2)
  rw [if_neg h91] at hRES
  have b91 : ((s[0].toNat : Int) == 91) = false := beq_eq_false_iff_ne.2 (fun h => h91 ((ne 91).2 (by omega)))
  clear h42 h63 h47 h91 ne
  have K2 := KO.out s w1'
  rw [HL.out, oneV] at K2
  obtain ⟨o, ho⟩ : ∃ o, one1 l = o := ⟨_, rfl⟩
  rw [ho] at hRES K2
  cases o with
  | none =>
    simp only at hRES K2
    have HK := Lib.hid K2
    subst hRES
    clear K2 ho
    go_wp2_with fail
    refine HK.out.mono ?_
    rintro e w2 ⟨rfl, rfl⟩
    go_wp2_with fail
    refine (KI.out 0 _ hb1).mono ?_
    rintro e w3 ⟨v, rfl, u, rfl, hclo, C2⟩
    have hx2 := (C2.block _ (lt_of_block hx) (by simp)).trans hx
    have hu := (hclo false).one
    go_wp2_with (refine wpList_store_y 48 (.tmp 4) (.tmp 57) rfl rfl (.pointer (some ⟨g, 0, none⟩)) (.agg #[u, .bool false]) _ (store_el _ _ _ _ _ _ hx2 hu rfl) rfl rfl ?_)
    exact bodyPost_ret (results_el_tmp rfl _ _ g _ _ _ _ (.int .i64 0) rfl rfl (setRow_heap w3 g _ _ _ _ hx2)) rfl (tookE_none HG.out (C1.trans C2 (by simp)) hu)
  | some o =>
    obtain ⟨c, n⟩ := o
    have hpos := one1_pos ho
    simp only at hRES K2
    have HK := Lib.hid K2
    subst hRES
    clear K2 ho
    go_wp2_with fail
    refine HK.out.mono ?_
    rintro e w2 ⟨rfl, rfl⟩
    go_wp2_with fail
    refine (KI.out c _ hb1).mono ?_
    rintro e w3 ⟨v, rfl, u, rfl, hclo, C2⟩
    have hx2 := (C2.block _ (lt_of_block hx) (by simp)).trans hx
    rw [hs1] at hclo
    have hu := (hclo false).one
    go_wp2_with (refine wpList_store_y 48 (.tmp 4) (.tmp 57) rfl rfl (.pointer (some ⟨g, 0, none⟩)) (.agg #[u, .bool false]) _ (store_el _ _ _ _ _ _ hx2 hu rfl) rfl rfl ?_)
    exact bodyPost_ret (results_el_tmp rfl _ _ g _ _ _ _ (.int .i64 n) rfl rfl (setRow_heap w3 g _ _ _ _ hx2)) rfl (tookE_store (x := .byt c) HG.out (C1.trans C2 (by simp)) hclo hpos.1 hpos.2 rfl)
end Go.Proofs.Ytnbeamggbehclaa
