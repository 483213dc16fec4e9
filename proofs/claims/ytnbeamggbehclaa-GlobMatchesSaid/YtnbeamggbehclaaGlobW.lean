/- The reference's class, walked. No conditions beyond those that each statement types. -/
import Derived.Test.YtnbeamggbehclaaGlobV
namespace Go.Proofs.Ytnbeamggbehclaa
open Go.RowKit

theorem RCls.turn {w wr : World} {g n c : Nat} {a : Option Addr} {acc : List (UInt8 × UInt8)} (H : RCls w wr g false a n c acc) : RCls w (wr.setCell ⟨g + 1, 2, none⟩ (.bool true)) g true a n c acc := by
  have CS : Chg [g + 1] wr (wr.setCell ⟨g + 1, 2, none⟩ (.bool true)) := Chg.setCell _ _ _ (.inl (by simp))
  have hs := H.size
  exact ⟨(heap_setCell_other _ _ _ _ (by simp)).trans H.res, heap_setCell_same _ _ _ _ _ _ H.el, H.rg.chg CS (by simp), H.chg.trans CS (fun k hk => .inr (by simp at hk; omega)), hs⟩
theorem RCls.not {w wr : World} {g n c : Nat} {no : Bool} {a : Option Addr} {acc : List (UInt8 × UInt8)} (H : RCls w wr g no a n c acc) (t : ByteArray) :
    RTook w none (.returned (.tuple #[.agg (elC (.set no acc) a n c), .string t, .bool false])) (wr.setRow g (elC (.set no acc) a n c)) :=
  ⟨H.chg.trans (Chg.setRow (S := [g]) _ _ _ (.inl (by simp))) (fun k hk => by simp at hk; right; have := H.size; omega), _, _, _, _, _, rfl⟩
theorem RCls.yes {w wr w2 : World} {g n c : Nat} {no : Bool} {a : Option Addr} {acc : List (UInt8 × UInt8)} {r : List UInt8} (H : RCls w wr g no a n c acc) (C : Chg [g] wr w2) :
    RTook w (some (.set no acc, r)) (.returned (.tuple #[.agg (elC (.set no acc) a n c), .string (bs r), .bool true])) w2 :=
  ⟨H.chg.trans C (fun k hk => by simp at hk; right; have := H.size; omega), _, _, _, rfl, (H.rg.chg C (fun k hk => by simp at hk; omega)).low (by have := H.size; omega)⟩
theorem RCls.ranges {w wr : World} {g n c : Nat} {no : Bool} {a : Option Addr} {acc : List (UInt8 × UInt8)} (H : RCls w wr g no a n c acc) : wr.cell? ⟨g + 1, 3, none⟩ = some (.slice a n c) := by rw [cell_of_row _ _ _ _ _ _ H.el]; rfl
theorem bs_head {u : List UInt8} {s : ByteArray} (h : bs u = s) {x : UInt8} {r : List UInt8} (hu : u = x :: r) : ∃ h0 : 0 < s.size, s[0] = x := by
  subst h; subst hu
  exact ⟨Nat.succ_pos _, rfl⟩

theorem writV_none : writV none = .tuple #[.int .u8 0, .string ⟨#[]⟩, .bool false] := rfl
theorem writV_some (x : UInt8) (r : List UInt8) : writV (some (x, r)) = .tuple #[.int .u8 x.toNat, .string (bs r), .bool true] := rfl
theorem RCls.cells {w wr : World} {g n c : Nat} {no : Bool} {a : Option Addr} {acc : List (UInt8 × UInt8)} (H : RCls w wr g no a n c acc) :
    wr.cell? ⟨g + 1, 0, none⟩ = some (.int .i64 4) ∧ wr.cell? ⟨g + 1, 1, none⟩ = some (.int .u8 0) ∧ wr.cell? ⟨g + 1, 2, none⟩ = some (.bool no) := by
  refine ⟨?_, ?_, ?_⟩ <;> (rw [cell_of_row _ _ _ _ _ _ H.el]; rfl)
theorem bs_get {r : List UInt8} {s : ByteArray} (h : bs r = s) (k : Nat) (hk : k < s.size) : s[k] = r.getD k 0 := by
  subst h
  have hk' : k < r.length := hk
  show r.toArray[k] = _
  simp [List.getD, hk']

set_option maxRecDepth 100000 in
set_option maxHeartbeats 8000000 in
theorem ref_class (l : List UInt8) (hl : l.length ≤ 1000) (w : World) : Calls Try.prog 44 #[.string (bs l)] w (RTook w (class1 l)) := by
  have K1 := Lib.hid (ref_begins (bs l) ⟨#[33]⟩)
  have e1 : (⟨#[33]⟩ : ByteArray).data.toList = [33] := rfl
  rw [e1, bs_data] at K1
  have KW := Lib.hid (fun t ht w => ref_written t ht w)
  obtain ⟨no, hno⟩ : ∃ no, pre [33] l = no := ⟨_, rfl⟩
  obtain ⟨l0, hl0⟩ : ∃ l0, (if no then l.drop 1 else l) = l0 := ⟨_, rfl⟩
  obtain ⟨R, hR⟩ : ∃ R, rangesOf l0 [] = R := ⟨_, rfl⟩
  obtain ⟨RES, hRES⟩ : ∃ RES, class1 l = RES := ⟨_, rfl⟩
  have hres := hRES
  rw [class1, hno, hl0, hR] at hres
  rw [hRES]
  rw [hno] at K1
  have hl0l : l0.length ≤ l.length := by rw [← hl0]; split <;> simp
  have HR := Lib.hid hR
  have HRES := Lib.hid hres
  have HNO : Hid (no = true → 0 < l.length) := Lib.hid (fun h => by rw [h] at hno; have := pre_len hno; simp at this; omega)
  obtain ⟨s, hs⟩ : ∃ s, bs l = s := ⟨_, rfl⟩
  have HL0 : Hid (Value.string (if no then cutB s 1 else s) = .string (bs l0)) := Lib.hid (by rw [← hs, ← hl0, bs_cut]; cases no <;> rfl)
  rw [hs] at K1 ⊢
  have hsz : s.size = l.length := by rw [← hs]; rfl
  have HSZ := Lib.hid hsz
  clear hs hsz hR hRES hres hno e1 hl0
  have h0 := heap_alloc_new w (.cells #[.int .i64 0, .int .u8 0, .bool false, .slice none 0 0] 53)
  have C1 := Chg.alloc [] w (.cells #[.int .i64 0, .int .u8 0, .bool false, .slice none 0 0] 53)
  have HS1 := Lib.hid (show (w.alloc (.cells #[.int .i64 0, .int .u8 0, .bool false, .slice none 0 0] 53)).heap.size = w.heap.size + 1 by simp)
  go_enter Try.func44, Try.ntmps44
  go_upto_region 1 with (fail)
  generalize w.alloc (.cells #[.int .i64 0, .int .u8 0, .bool false, .slice none 0 0] 53) = w1 at *
  obtain ⟨g, hg⟩ : ∃ g, w.heap.size = g := ⟨_, rfl⟩
  rw [hg] at h0 HS1 ⊢
  have HG := Lib.hid hg
  clear hg
  go_upto_region 2 with (refine wpList_store_y 53 (.tmp 5) (.tmp 10) rfl rfl (.pointer (some ⟨w1.heap.size, 0, none⟩)) (.agg #[.int .i64 4, .int .u8 0, .bool false, .slice none 0 0]) _ (run_storeAt_new w1 _ #[.int .i64 0, .int .u8 0, .bool false, .slice none 0 0] #[.int .i64 4, .int .u8 0, .bool false, .slice none 0 0] Try.infoElR rfl rfl) rfl rfl ?_)
  have h1 := heap_alloc_new w1 (.cells #[.int .i64 4, .int .u8 0, .bool false, .slice none 0 0] 53)
  have C2 := Chg.alloc [] w1 (.cells #[.int .i64 4, .int .u8 0, .bool false, .slice none 0 0] 53)
  generalize w1.alloc (.cells #[.int .i64 4, .int .u8 0, .bool false, .slice none 0 0] 53) = w2 at *
  rw [HS1.out] at h1 ⊢
  have RC : RCls w w2 g false none 0 0 [] := ⟨(C2.block _ (lt_of_block h0) (by simp)).trans h0, h1, RgAt.none _ _, C1.trans C2 (by simp), HG.out⟩
  have HRC := Lib.hid RC
  clear h0 h1 C1 C2 RC HS1
  go_wp2_with fail
  refine (K1.out _).mono ?_
  rintro e w2 ⟨rfl, rfl⟩
  clear K1
  go_upto_if 12 with (fail)
  go_cut [0] (fun v w' => v = .string (bs l0) ∧ Hid (RCls w w' g no none 0 0 []))
  case first =>
    cases no with
    | true =>
      have h1s : (1 : Int) ≤ s.size := by have := HNO.out rfl; have := HSZ.out; omega
      have hcut : s.extract 1 s.size = cutB s 1 := rfl
      have HX : Hid (Value.string (cutB s 1) = .string (bs l0)) := Lib.hid HL0.out
      have HT := Lib.hid HRC.out.turn
      have c2 : w2.cell? ⟨g + 1, 2, none⟩ = some (.bool false) := by rw [cell_of_row _ _ _ _ _ _ HRC.out.el]; rfl
      have f2 := frozen_of_row w2 (g + 1) 2 _ _ HRC.out.el
      generalize cutB s 1 = u1 at *
      go_wp2_with fail
      go_meet
      case rel => exact ⟨HX.out, HT⟩
    | false =>
      have HX : Hid (Value.string s = .string (bs l0)) := Lib.hid HL0.out
      go_wp2_with fail
      go_meet
      case rel => exact ⟨HX.out, HRC⟩
  case rest =>
  obtain ⟨rfl, HC0⟩ := hcut
  clear HRC HL0 HNO HSZ
  go_wp2_with fail
  go_loopw [0] (fun v wr => ∃ (u : List UInt8) (n c : Nat) (a : Option Addr) (acc : List (UInt8 × UInt8)), v = .string (bs u) ∧ n + u.length ≤ 1000 ∧ Hid (rangesOf u acc = R) ∧ Hid (RCls w wr g no a n c acc)) (fun v _ => lenOf v)
  case atStart => exact ⟨l0, 0, 0, none, [], rfl, by omega, HR, HC0⟩
  case round =>
    obtain ⟨u, n, c, a, acc, rfl, hn, hR, hC⟩ := hrel
    clear HC0 HR
    have hE := rangesOf_rng u acc
    obtain ⟨s, hs⟩ : ∃ s, bs u = s := ⟨_, rfl⟩
    have HSZ := Lib.hid (show s.size = u.length by rw [← hs]; rfl)
    have he := hC.out.el
    have hr := hC.out.res
    have hrg := hC.out.ranges
    by_cases hsh : shut u = true
    · rw [if_pos hsh, hR.out] at hE
      subst hE
      rcases Nat.eq_zero_or_pos u.length with hu0 | hu0
      · have HRE : none = RES := by rw [← HRES.out]; simp [hu0]
        have hs0 : s.size = 0 := by rw [HSZ.out, hu0]
        have HS := Lib.hid hs0
        have hlt : ¬ (0 : Int) < s.size := by omega
        have hz : ((s.size : Int) == 0) = true := beq_iff_eq.2 (by omega)
        have HF := Lib.hid (hC.out.not ⟨#[]⟩)
        rw [hs]
        clear hs hsh hu0 hs0
        go_wp2_with (first
          | refine wpList_load_y 53 (.tmp 5) rfl rfl (.pointer (some ⟨g + 1, 0, none⟩)) (.agg (elC (.set no acc) a n c)) (load_elr _ _ _ _ _ _ he) rfl ?_
          | refine wpList_store_y 53 (.tmp 2) (.tmp 80) rfl rfl (.pointer (some ⟨g, 0, none⟩)) (.agg (elC (.set no acc) a n c)) _ (store_elr _ _ _ _ _ _ _ hr rfl) rfl rfl ?_)
        subst HRE
        exact bodyPost_ret (results_elr rfl _ _ g _ _ _ _ _ _ (.string ⟨#[]⟩) (.bool false) rfl rfl rfl (setRow_heap _ g _ _ _ _ hr)) rfl HF.out
      · obtain ⟨x, r, hxr⟩ : ∃ x r, u = x :: r := by
          cases u with
          | nil => simp at hu0
          | cons x r => exact ⟨x, r, rfl⟩
        have hx : x = 93 := by
          subst hxr
          simpa [shut] using hsh
        obtain ⟨h0, hs0⟩ := bs_head hs hxr
        have hb : ((s[0].toNat : Int) != 93) = false := by rw [hs0, hx]; rfl
        have hlt : (0 : Int) < s.size := by omega
        have hz : ((s.size : Int) == 0) = false := beq_eq_false_iff_ne.2 (by omega)
        rw [hs]
        rcases Nat.eq_zero_or_pos n with hn0 | hn0
        · subst hn0
          have HRE : none = RES := by rw [← HRES.out]; simp [hC.out.rg.len]
          have HF := Lib.hid (hC.out.not ⟨#[]⟩)
          rename_i n0
          clear hs hsh hu0 hs0 hx hxr
          go_wp2_with (first
            | refine wpList_load_y 53 (.tmp 5) rfl rfl (.pointer (some ⟨g + 1, 0, none⟩)) (.agg (elC (.set no acc) a 0 c)) (load_elr _ _ _ _ _ _ he) rfl ?_
            | refine wpList_store_y 53 (.tmp 2) (.tmp 80) rfl rfl (.pointer (some ⟨g, 0, none⟩)) (.agg (elC (.set no acc) a 0 c)) _ (store_elr _ _ _ _ _ _ _ hr rfl) rfl rfl ?_)
          subst HRE
          exact bodyPost_ret (results_elr rfl _ _ g _ _ _ _ _ _ (.string ⟨#[]⟩) (.bool false) rfl rfl rfl (setRow_heap _ g _ _ _ _ hr)) rfl HF.out
        · have HRE : some (El.set no acc, r) = RES := by
            rw [← HRES.out, hxr]
            simp [hC.out.rg.len]
            omega
          have hcut : s.extract 1 s.size = bs r := by
            show cutB s 1 = _
            rw [← hs, bs_cut, hxr]; rfl
          have hn1 : ((n : Int) == 0) = false := beq_eq_false_iff_ne.2 (by omega)
          have h1s : (1 : Int) ≤ s.size := by omega
          have HF := Lib.hid (fun w2 (C : Chg [g] wr w2) => hC.out.yes (r := r) C)
          clear hs hsh hu0 hs0 hx hxr
          generalize bs r = t at *
          subst HRE
          go_upto_region 18 with (fail)
          refine wp_region_any (by kernel_rfl) ?_
          try (change wpAny _ _ _ _ _ _ _ (World.drew _))
          refine' wpAny_take (i := 1) (v := _) rfl (by kernel_rfl) (by kernel_rfl) (by kernel_rfl) (fun _ _ _ h => h) (Or.inl ⟨by rfl, ?hyR181⟩) ?restR181
          case hyR181 =>
            intro w
            go_simp
            try with_reducible rfl
          (try simp only [Act.put, List.getElem_toArray, List.getElem_cons_succ, List.getElem_cons_zero, List.setIfInBounds_toArray, List.set_cons_zero, List.set_cons_succ])
          refine' wpAny_take (i := 2) (v := _) rfl (by kernel_rfl) (by kernel_rfl) (by kernel_rfl) (fun _ _ _ h => h) (Or.inl ⟨by rfl, ?hyR182⟩) ?restR182
          case hyR182 =>
            intro w
            go_simp
            try with_reducible rfl
          (try simp only [Act.put, List.getElem_toArray, List.getElem_cons_succ, List.getElem_cons_zero, List.setIfInBounds_toArray, List.set_cons_zero, List.set_cons_succ])
          refine wpAny_ready (rs := [0]) (by kernel_rfl) (by simp) (AllReady.cons rfl (fun K hK => ?_) AllReady.nil)
          refine step_load_x _ rfl 53 (.tmp 5) rfl (.agg (elC (.set no acc) a n c)) (load_elr _ (g + 1) _ _ _ _ he) ?_
          refine hK _ _ ?_
          clear hK K
          refine wpAny_ready (rs := [3]) (by kernel_rfl) (by simp) (AllReady.cons rfl (fun K hK => ?_) AllReady.nil)
          refine step_store_x _ rfl 53 (.tmp 2) (.tmp 81) rfl _ (store_elr _ g _ (.set no acc) a n c hr rfl) ?_
          refine hK _ _ ?_
          clear hK K
          refine' wpAny_take (i := 4) (v := _) rfl (by kernel_rfl) (by kernel_rfl) (by kernel_rfl) (fun _ _ _ h => h) (Or.inl ⟨by rfl, ?hyR18b4⟩) ?restR18b4
          case hyR18b4 =>
            intro w
            go_simp
            try with_reducible rfl
          (try simp only [Act.put, List.getElem_toArray, List.getElem_cons_succ, List.getElem_cons_zero, List.setIfInBounds_toArray, List.set_cons_zero, List.set_cons_succ])
          refine' wpAny_take (i := 5) (v := _) rfl (by kernel_rfl) (by kernel_rfl) (by kernel_rfl) (fun _ _ _ h => h) (Or.inl ⟨by rfl, ?hyR18b5⟩) ?restR18b5
          case hyR18b5 =>
            intro w
            go_simp
            try with_reducible rfl
          (try simp only [Act.put, List.getElem_toArray, List.getElem_cons_succ, List.getElem_cons_zero, List.setIfInBounds_toArray, List.set_cons_zero, List.set_cons_succ])
          refine wpAny_done (by kernel_rfl) ?_ _
          go_wp2_with fail
          exact bodyPost_ret (results_elr rfl _ _ g _ _ _ _ _ _ (.string t) (.bool true) rfl rfl rfl (setRow_heap _ g _ _ _ _ hr)) rfl (HF.out _ ((Chg.drewN [g] wr 1).trans (Chg.setRow (S := [g]) _ _ _ (.inl (by simp))) (fun k hk => .inl hk)))
    · rw [if_neg hsh, hR.out] at hE
      obtain ⟨x0, r0, hxr⟩ : ∃ x r, u = x :: r := by
        cases u with
        | nil => exact absurd rfl hsh
        | cons x r => exact ⟨x, r, rfl⟩
      obtain ⟨h0, hs0⟩ := bs_head hs hxr
      have h93 : x0 ≠ 93 := fun h => hsh (by rw [hxr, h]; rfl)
      have hb : ((s[0].toNat : Int) != 93) = true := by
        rw [hs0]
        exact bne_iff_ne.2 (fun h => h93 (u8_eq.2 (by rw [show (93 : UInt8).toNat = 93 from rfl]; omega)))
      have hlt : (0 : Int) < s.size := by omega
      have KW1 := KW.out u (by omega) wr
      rw [hs] at KW1 ⊢
      obtain ⟨o, ho⟩ : ∃ o, writ u = o := ⟨_, rfl⟩
      rw [ho] at KW1
      have HE : Hid (R = match rng u with | none => none | some (r, q) => rangesOf q (acc ++ [r])) := Lib.hid hE
      have HNo : Hid (rng u = none → none = RES) := Lib.hid (fun h => by have h2 := HE.out; rw [h] at h2; rw [← HRES.out, h2])
      have HOk : Hid (∀ p q, rng u = some (p, q) → rangesOf q (acc ++ [p]) = R) := Lib.hid (fun p q h => by have h2 := HE.out; rw [h] at h2; exact h2.symm)
      clear hs hE hs0 h93 hxr hsh
      cases o with
      | none =>
        rw [writV_none] at KW1
        have HK := Lib.hid KW1
        have HRE := HNo.out (rng_none ho)
        clear KW1 ho HNo HOk HE
        go_wp2_with fail
        refine HK.out.mono ?_
        rintro e w2 ⟨rfl, C2⟩
        have HC2 := Lib.hid (hC.out.next C2)
        have HF := Lib.hid (HC2.out.not ⟨#[]⟩)
        have he := HC2.out.el
        have hr := HC2.out.res
        clear C2
        go_wp2_with (first
          | refine wpList_load_y 53 (.tmp 5) rfl rfl (.pointer (some ⟨g + 1, 0, none⟩)) (.agg (elC (.set no acc) a n c)) (load_elr _ _ _ _ _ _ he) rfl ?_
          | refine wpList_store_y 53 (.tmp 2) (.tmp 32) rfl rfl (.pointer (some ⟨g, 0, none⟩)) (.agg (elC (.set no acc) a n c)) _ (store_elr _ _ _ _ _ _ _ hr rfl) rfl rfl ?_)
        subst HRE
        exact bodyPost_ret (results_elr rfl _ _ g _ _ _ _ _ _ (.string ⟨#[]⟩) (.bool false) rfl rfl rfl (setRow_heap _ g _ _ _ _ hr)) rfl HF.out
      | some o =>
        obtain ⟨x, r⟩ := o
        have hrl := writ_len ho
        have HO := Lib.hid ho
        obtain ⟨D, hD⟩ : ∃ D, dash r = D := ⟨_, rfl⟩
        have HD := Lib.hid hD
        obtain ⟨t, ht⟩ : ∃ t, bs r = t := ⟨_, rfl⟩
        rw [writV_some, ht] at KW1
        have HK := Lib.hid KW1
        have HT := Lib.hid ht
        have htz : t.size = r.length := by rw [← ht]; rfl
        have HTZ := Lib.hid htz
        clear ho hD KW1 ht htz
        go_wp2_with fail
        refine HK.out.mono ?_
        rintro e w2 ⟨rfl, C2⟩
        have HC2 := Lib.hid (hC.out.next C2)
        clear C2 hC hr he hrg HK
        go_upto_region 10 with (fail)
        go_cut [46] (fun v w3 => v = .bool D ∧ w2 = w3)
        case first =>
          by_cases h1 : 1 < t.size
          · have hp0 : 0 < t.size := by omega
            have g0 := bs_get HT.out 0 hp0
            have g1 := bs_get HT.out 1 h1
            have hdash : dash r = (t[0] == 45 && t[1] != 93) := by
              unfold dash
              rw [decide_eq_true (by have := HTZ.out; omega), g0, g1, Bool.true_and]
            have e1 : (t[0] == 45) = ((t[0].toNat : Int) == 45) := by
              rw [Bool.eq_iff_iff, beq_iff_eq, beq_iff_eq, u8_eq]
              have : (45 : UInt8).toNat = 45 := rfl
              omega
            have e2 : (t[1] != 93) = ((t[1].toNat : Int) != 93) := by
              rw [Bool.eq_iff_iff, bne_iff_ne, bne_iff_ne, Ne, Ne, u8_eq]
              have : (93 : UInt8).toNat = 93 := rfl
              omega
            rw [e1, e2, HD.out] at hdash
            clear e1 e2 g0 g1
            have h1' : (1 : Int) < t.size := by omega
            have hp0' : (0 : Int) < t.size := by omega
            by_cases h45 : ((t[0].toNat : Int) == 45) = true
            · rw [h45, Bool.true_and] at hdash
              have HDD := Lib.hid hdash
              clear hdash
              go_wp2_with fail
              go_meet
              case rel => exact ⟨by rw [HDD.out], rfl⟩
            · have h45' : ((t[0].toNat : Int) == 45) = false := by simpa using h45
              rw [h45', Bool.false_and] at hdash
              have HDD := Lib.hid hdash
              clear hdash h45
              go_wp2_with fail
              go_meet
              case rel => exact ⟨by rw [HDD.out], rfl⟩
          · have hdash : D = false := by
              rw [← HD.out]
              unfold dash
              rw [decide_eq_false (by have := HTZ.out; omega)]
              rfl
            have HDD := Lib.hid hdash
            have h1' : ¬ (1 : Int) < t.size := by omega
            clear hdash
            go_wp2_with fail
            go_meet
            case rel => exact ⟨by rw [HDD.out], rfl⟩
        case rest =>
        rename_i hK0
        obtain ⟨rfl, rfl⟩ := hcut
        refine hK0 _ _ ?_
        clear hK0
        go_upto_if 46 with (fail)
        go_cut [7, 9] (fun v7 v9 w3 => ∃ (y : UInt8) (q : List UInt8), v7 = .string (bs q) ∧ v9 = .int .u8 y.toNat ∧ Hid (rng u = some ((x, y), q)) ∧ Hid (RCls w w3 g no a n c acc))
        case first =>
          cases D with
          | false =>
            have HR2 := Lib.hid (rng_single HO.out HD.out)
            have HTV : Hid (Value.string t = .string (bs r)) := Lib.hid (by rw [HT.out])
            go_wp2_with fail
            go_meet
            case rel => exact ⟨x, r, HTV.out, rfl, HR2, HC2⟩
          | true =>
            have hrd : 1 < r.length := by
              have h2 := HD.out
              unfold dash at h2
              simp only [Bool.and_eq_true, decide_eq_true_eq] at h2
              exact h2.1
            have h1t : (1 : Int) ≤ t.size := by have := HTZ.out; omega
            have hcut : t.extract 1 t.size = bs (r.drop 1) := by show cutB t 1 = _; rw [← HT.out, bs_cut]
            have K3 := KW.out (r.drop 1) (by rw [List.length_drop]; omega) w2
            obtain ⟨o2, ho2⟩ : ∃ o, writ (r.drop 1) = o := ⟨_, rfl⟩
            rw [ho2] at K3
            generalize bs (r.drop 1) = t2 at *
            cases o2 with
            | none =>
              rw [writV_none] at K3
              have HK3 := Lib.hid K3
              clear K3
              have HRE := HNo.out (rng_open HO.out HD.out ho2)
              clear ho2 HNo HOk HE hrd
              go_wp2_with fail
              refine HK3.out.mono ?_
              rintro e w3 ⟨rfl, C3⟩
              have HC3 := Lib.hid (HC2.out.next C3)
              have HF := Lib.hid (HC3.out.not ⟨#[]⟩)
              have he := HC3.out.el
              have hr := HC3.out.res
              clear C3
              go_wp2_with (first
                | refine wpList_load_y 53 (.tmp 5) rfl rfl (.pointer (some ⟨g + 1, 0, none⟩)) (.agg (elC (.set no acc) a n c)) (load_elr _ _ _ _ _ _ he) rfl ?_
                | refine wpList_store_y 53 (.tmp 2) (.tmp 61) rfl rfl (.pointer (some ⟨g, 0, none⟩)) (.agg (elC (.set no acc) a n c)) _ (store_elr _ _ _ _ _ _ _ hr rfl) rfl rfl ?_)
              subst HRE
              exact bodyPost_ret (results_elr rfl _ _ g _ _ _ _ _ _ (.string ⟨#[]⟩) (.bool false) rfl rfl rfl (setRow_heap _ g _ _ _ _ hr)) rfl HF.out
            | some o2 =>
              obtain ⟨y, q⟩ := o2
              rw [writV_some] at K3
              have HK3 := Lib.hid K3
              clear K3
              by_cases hlt2 : y < x
              · have HRE := HNo.out (rng_turned HO.out HD.out ho2 hlt2)
                have hlt3 : y.toNat < x.toNat := UInt8.lt_iff_toNat_lt.1 hlt2
                have hlt4 : (y.toNat : Int) < x.toNat := by omega
                clear ho2 HNo HOk HE hrd hlt2
                go_wp2_with fail
                refine HK3.out.mono ?_
                rintro e w3 ⟨rfl, C3⟩
                have HC3 := Lib.hid (HC2.out.next C3)
                have HF := Lib.hid (HC3.out.not ⟨#[]⟩)
                have he := HC3.out.el
                have hr := HC3.out.res
                clear C3
                go_wp2_with (first
                  | refine wpList_load_y 53 (.tmp 5) rfl rfl (.pointer (some ⟨g + 1, 0, none⟩)) (.agg (elC (.set no acc) a n c)) (load_elr _ _ _ _ _ _ he) rfl ?_
                  | refine wpList_store_y 53 (.tmp 2) (.tmp 61) rfl rfl (.pointer (some ⟨g, 0, none⟩)) (.agg (elC (.set no acc) a n c)) _ (store_elr _ _ _ _ _ _ _ hr rfl) rfl rfl ?_)
                subst HRE
                exact bodyPost_ret (results_elr rfl _ _ g _ _ _ _ _ _ (.string ⟨#[]⟩) (.bool false) rfl rfl rfl (setRow_heap _ g _ _ _ _ hr)) rfl HF.out
              · have HR2 := Lib.hid (rng_pair HO.out HD.out ho2 hlt2)
                have hlt3 : ¬ (y.toNat : Int) < x.toNat := by
                  have : ¬ y.toNat < x.toNat := fun h => hlt2 (UInt8.lt_iff_toNat_lt.2 h)
                  omega
                clear ho2 HNo HOk HE hrd hlt2
                go_wp2_with fail
                refine HK3.out.mono ?_
                rintro e w3 ⟨rfl, C3⟩
                have HC3 := Lib.hid (HC2.out.next C3)
                clear C3
                go_wp2_with fail
                go_meet
                case rel => exact ⟨y, q, rfl, rfl, HR2, HC3⟩
        case rest =>
        obtain ⟨y, q, rfl, rfl, hR2, hC⟩ := hcut
        have hql := rng_len hR2.out
        have HR2 := Lib.hid (HOk.out _ _ hR2.out)
        clear HOk HE HNo HD hR HO HC2 hR2 HTZ HT
        obtain ⟨ip, hip, hipz, hips, hipb⟩ := info_parts Try.infoPairU
        have hown := ownsRow_chg hC.out.rg.own (Chg.alloc [] wc (.cells #[.int .u8 x.toNat, .int .u8 y.toNat] 90)) (by simp)
        have hsrc := src_pair (wr := wc) (x := x) (y := y) (fr := (0, 0))
        have cr := hC.out.ranges
        clear hrl
        go_upto_region 14 with (fail)
        go_wp2_with (at_builtin; refine wpList_append_y (.tmp 63) (.tmp 67) 51 rfl rfl 90 ip _ 2 2 Try.underlying51 hip hipz hips hipb rfl (by decide) (.slice a n c) n (rvs acc) hown (some ⟨wc.heap.size, 0, none⟩) 1 1 (rvs [(x, y)]) rfl hsrc (fun h => by cases h) (rvs_one _) (by unfold maxLen; omega) (by omega) rfl rfl ?_)
        intro ao' c' w5 hown5 hgr hblk
        have HP := Lib.hid (hC.out.push (r := (x, y)) hgr hown5 hblk)
        have cr5 : w5.cell? ⟨g + 1, 3, none⟩ = some (.slice a n c) := by rw [cell_of_row _ _ _ _ _ _ (((hC.out.grown hgr).1 _ (by omega)).trans hC.out.el)]; rfl
        have fr5 := frozen_of_row w5 (g + 1) 3 _ _ (((hC.out.grown hgr).1 _ (by omega)).trans hC.out.el)
        clear hown5 hgr hblk hown hsrc cr hipz hips hipb hip
        go_wp2_with fail
        go_roundw
        case rel => exact ⟨q, n + 1, c', ao', acc ++ [(x, y)], rfl, by omega, HR2, HP⟩
        case measure => simp only [lenOf]; rw [bs_size]; have := HSZ.out; omega
end Go.Proofs.Ytnbeamggbehclaa
