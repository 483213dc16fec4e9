/- Parse, walked. No conditions beyond those that each statement types. -/
import Derived.Test.YtnbeamggbehclaaGlobJ
namespace Go.Proofs.Ytnbeamggbehclaa
open Go.RowKit

set_option maxRecDepth 100000 in
set_option maxHeartbeats 8000000 in
theorem glob_parse (s : ByteArray) (w : World) : Calls Try.prog 9 #[.string s] w (Parsed w s (parse s.data.toList)) := by
  have hlen : s.data.toList.length = s.size := rfl
  obtain ⟨RES, hRES⟩ : ∃ RES, parse s.data.toList = RES := ⟨_, rfl⟩
  rw [hRES]
  unfold parse at hRES
  rw [hlen] at hRES
  by_cases h128 : 128 < s.size
  · rw [if_pos h128] at hRES
    have h' : (128 : Int) < s.size := by omega
    subst hRES
    clear hlen
    go_enter Try.func9, Try.ntmps9
    go_wp2_with fail
    go_ret2
    exact ⟨Chg.refl _ _, rfl⟩
  rw [if_neg h128] at hRES
  have h' : ¬ (128 : Int) < s.size := by omega
  obtain ⟨M, hM⟩ : ∃ M, marksOf s.data.toList ⟨false, false, false⟩ = M := ⟨_, rfl⟩
  rw [hM] at hRES
  have C0 := Chg.alloc [] w (.cells #[.string s, .bool false, .bool false, .bool false, .bool false, .slice none 0 0] 43)
  have hn := heap_alloc_new w (.cells #[.string s, .bool false, .bool false, .bool false, .bool false, .slice none 0 0] 43)
  obtain ⟨b, hb⟩ : ∃ b, w.heap.size = b := ⟨_, rfl⟩
  rw [hb] at hn
  go_enter Try.func9, Try.ntmps9
  go_upto_region 4 with (fail)
  generalize w.alloc (.cells #[.string s, .bool false, .bool false, .bool false, .bool false, .slice none 0 0] 43) = w1 at *
  (try rw [hb])
  have HB := Lib.hid hb
  clear hb
  have KM := glob_marks b ⟨s, false, false, false, false, .slice none 0 0⟩ ⟨false, false, false⟩ s w1 hn
  rw [hM] at KM
  have HK := Lib.hid KM
  have HM := Lib.hid hM
  clear KM hM
  cases M with
  | none =>
    simp only at hRES
    subst hRES
    go_wp2_with fail
    refine HK.out.mono ?_
    rintro e w2 ⟨C2, rfl⟩
    go_wp2_with fail
    go_ret2
    exact ⟨C0.trans C2 (by have := HB.out; simp; omega), rfl⟩
  | some x =>
    obtain ⟨m, l⟩ := x
    simp only at hRES
    obtain ⟨root, hroot⟩ : ∃ root, pre [47] l = root := ⟨_, rfl⟩
    rw [hroot] at hRES
    have HROOT := Lib.hid hroot
    have HLEN : Hid (l.length ≤ s.size) := Lib.hid (marksF_len _ _ _ _ _ HM.out)
    clear hroot hlen
    go_wp2_with fail
    refine HK.out.mono ?_
    rintro e w2 ⟨C2, t, ht, rfl, hP⟩
    rw [HROOT.out] at ht hP
    rw [← ht] at hRES
    have htl : t.data.toList.length = t.size := rfl
    rw [htl] at hRES
    have HT : Hid (t.size ≤ s.size) := Lib.hid (by
      rw [← htl, ht]
      have := HLEN.out
      split
      · rw [List.length_drop]; omega
      · exact this)
    have CW : Chg [] w w2 := C0.trans C2 (by have := HB.out; simp; omega)
    have hPrs : Prs w w2 b ⟨s, m.neg, m.del, m.fold, root, .slice none 0 0⟩ none 0 0 [] := ⟨hP, World.ownsRow_nil _ _ _ _, fun q hq => (by cases hq), rfl, fun p hp => (by cases hp), CW, by have := HB.out; omega⟩
    have HPRS := Lib.hid hPrs
    clear C0 hn C2 hP CW ht htl hPrs HLEN HROOT HK HM
    by_cases ht0 : t.size = 0
    · rw [if_pos ht0] at hRES
      subst hRES
      go_wp2_with fail
      go_ret2
      exact ⟨HPRS.out.chg, rfl⟩
    rw [if_neg ht0] at hRES
    have ht1 : 0 < t.size := by omega
    obtain ⟨R, hR⟩ : ∃ R, elsOf t.data.toList [] = R := ⟨_, rfl⟩
    rw [hR] at hRES
    have HR := Lib.hid hR
    have HRES := Lib.hid hRES
    have KE := Lib.hid (fun t w hb h0 hs => glob_element b t w hb h0 hs)
    have H128 := Lib.hid h128
    clear hR hRES ht0 h128 h'
    go_wp2_with fail
    go_loopw [5] (fun v wr => ∃ (u : ByteArray) (a : Option Addr) (n c : Nat) (us : List (Value × El)), v = .string u ∧ Hid (n + u.size ≤ s.size) ∧ Hid (elsOf u.data.toList (us.map (·.2)) = R) ∧ Hid (Prs w wr b ⟨s, m.neg, m.del, m.fold, root, .slice none 0 0⟩ a n c us)) (fun v _ => lenOf v)
    case atStart => exact ⟨t, none, 0, 0, [], rfl, Lib.hid (by have := HT.out; omega), HR, HPRS⟩
    case round =>
      obtain ⟨u, a, n, c, us, rfl, HN, HR, HP⟩ := hrel
      have hE := elsOf_eq u.data.toList (us.map (·.2))
      have hul : u.data.toList.length = u.size := rfl
      rw [hul, HR.out] at hE
      by_cases hu0 : u.size = 0
      · rw [if_pos hu0] at hE
        have h0 : ¬ (0 : Int) < u.size := by omega
        have hRS : RES = .pat m root (us.map (·.2)) := by rw [← HRES.out, hE]
        clear hE hul hu0
        go_wp2_with fail
        go_ret2
        subst hRS
        exact ⟨HP.out.chg, b, rfl, HP.out.is⟩
      · rw [if_neg hu0] at hE
        have hu1 : 0 < u.size := by omega
        have hu1' : (0 : Int) < u.size := by omega
        obtain ⟨o, ho⟩ : ∃ o, elem1 u.data.toList = o := ⟨_, rfl⟩
        rw [ho] at hE
        have KK := KE.out u wr HP.out.p.lt hu1 (by have := HN.out; have := H128.out; omega)
        rw [ho] at KK
        cases o with
        | none =>
          have hRS : RES = .form := by rw [← HRES.out, hE]
          have HK := Lib.hid KK
          clear hE hul hu0 ho KK hu1
          go_wp2_with fail
          refine HK.out.mono ?_
          rintro e w3 ⟨v, rfl, hv, C3⟩
          have hbf : (Value.bool false).oneCell' = true := rfl
          have C4 := Chg.alloc [] w3 (.cells #[v, .bool false] 48)
          go_upto_region 9 with (refine wpList_store_y 48 (.tmp 7) (.tmp 30) rfl rfl (.pointer (some ⟨w3.heap.size, 0, none⟩)) (.agg #[v, .bool false]) _ (run_storeAt_new w3 _ #[Value.nilFunc, .bool false] #[v, .bool false] Try.infoEl rfl (by simp [hv, hbf])) rfl rfl ?_)
          generalize w3.alloc (.cells #[v, .bool false] 48) = w4 at *
          go_wp2_with fail
          go_ret2
          subst hRS
          exact ⟨(HP.out.chg.trans C3 (by simp)).trans C4 (by simp), rfl⟩
        | some o =>
          obtain ⟨x, r⟩ := o
          have HE := Lib.hid hE
          have HK := Lib.hid KK
          have HXL := Lib.hid (elem1_len (by rw [hul]; exact hu1) ho)
          clear hE hul hu0 ho KK hu1
          go_wp2_with fail
          refine HK.out.mono ?_
          rintro e w3 ⟨v, k, rfl, hk0, hkl, hkr, f, rfl, hclo, C3⟩
          have hbf : (Value.bool x.many).oneCell' = true := rfl
          have hf1 := (hclo false).one
          have HCLO := Lib.hid hclo
          clear hclo
          have C4 := Chg.alloc [] w3 (.cells #[f, .bool x.many] 48)
          have hq := heap_alloc_new w3 (.cells #[f, .bool x.many] 48)
          go_upto_region 9 with (refine wpList_store_y 48 (.tmp 7) (.tmp 30) rfl rfl (.pointer (some ⟨w3.heap.size, 0, none⟩)) (.agg #[f, .bool x.many]) _ (run_storeAt_new w3 _ #[Value.nilFunc, .bool false] #[f, .bool x.many] Try.infoEl rfl (by simp [hf1, hbf])) rfl rfl ?_)
          obtain ⟨q, hqq⟩ : ∃ q, w3.heap.size = q := ⟨_, rfl⟩
          rw [hqq] at hq
          have hqs : (w3.alloc (.cells #[f, .bool x.many] 48)).heap.size = q + 1 := by rw [← hqq]; simp
          generalize w3.alloc (.cells #[f, .bool x.many] 48) = w4 at *
          (try rw [hqq])
          have hk00 : ((k : Int) == 0) = false := beq_eq_false_iff_ne.2 (by omega)
          have hkl' : k ≤ u.size := hkl
          have hcut : u.extract k u.size = cutB u k := rfl
          have HU : Hid ((cutB u k).data.toList = r ∧ (cutB u k).size = u.size - k) := Lib.hid ⟨by rw [cutB_data, hkr], cutB_size _ _⟩
          generalize cutB u k = u2 at *
          have HK0 := Lib.hid hk0
          have hki : (k : Int) ≤ u.size := by omega
          have hki0 : (0 : Int) ≤ k := by omega
          have P4 := (HP.out.chg0 C3).chg0 C4
          have c5 := P4.p.ev
          have ho := P4.own
          have HP4 := Lib.hid P4
          clear P4 hkr hkl hk0 HK hqq
          have y0 : w4.cell? ⟨q, 0, none⟩ = some f := by rw [cell_of_row _ _ 0 _ _ _ hq]; rfl
          have y1 : w4.cell? ⟨q, 1, none⟩ = some (.bool x.many) := by rw [cell_of_row _ _ 1 _ _ _ hq]; rfl
          have n1 := World.cell?_alloc_lt w4 (.cells #[f, .bool x.many] 48) ⟨b, 5, none⟩ HP4.out.p.lt
          obtain ⟨ip, hip, hipz, hips, hipb⟩ := info_parts Try.infoEl3
          have hone : ∀ z ∈ evs [(f, x)], z.oneCell' = true := by
            intro z hz
            have e : evs [(f, x)] = [f, .bool x.many] := rfl
            rw [e] at hz
            simp only [List.mem_cons, List.not_mem_nil, or_false] at hz
            rcases hz with rfl | rfl
            · exact hf1
            · exact hbf
          have hn128 : n ≤ 128 := by have := HN.out; have := H128.out; omega
          have hn1 : n + 1 ≤ 129 := by omega
          have HPUSH : Hid (∀ (W w5 : World) (ao2 : Option Addr) (c2 : Nat), W.grownBy w5 (Value.slice a n c).ownBlock → Chg [] w4 W → W.heap.size = q + 1 + 1 → w5.ownsRow 0 48 2 (.slice ao2 (n + 1) c2) (n + 1) (evs us ++ evs [(f, x)]) →
              ((Value.slice ao2 (n + 1) c2).ownBlock = (Value.slice a n c).ownBlock ∨ (Value.slice ao2 (n + 1) c2).ownBlock = some (q + 1 + 1)) →
              PatAt w5 b ⟨s, m.neg, m.del, m.fold, root, .slice a n c⟩ ∧ Prs w (w5.setCell ⟨b, 5, none⟩ (.slice ao2 (n + 1) c2)) b ⟨s, m.neg, m.del, m.fold, root, .slice none 0 0⟩ ao2 (n + 1) c2 (us ++ [(f, x)])) :=
            Lib.hid (fun W w5 ao2 c2 hgr CW hW hown hblk => ⟨(HP4.out.row5 CW hgr).1, HP.out.push C3 (C4.trans CW (by simp)) HCLO.out hgr hown (by rw [hW]; exact hblk)⟩)
          have HOW : ∀ W, Chg [] w4 W → W.ownsRow 0 48 2 (.slice a n c) n (evs us) := fun W CW => ownsRow_chg ho CW (by simp)
          have HSR : ∀ W : World, W.heap = (w4.alloc (.cells #[f, .bool x.many] 48)).heap → Src W (some ⟨q + 1, 0, none⟩) (evs [(f, x)]) := fun W hW => by
            have := src_one_el (wr := w4) (f := f) (x := x)
            rw [hqs] at this
            exact ⟨this.1, fun ad ha j u hu => (show W.cell? (ad.add j) = _ by rw [← this.2 ad ha j u hu]; unfold World.cell?; rw [hW])⟩
          have HSZ : ∀ W : World, W.heap = (w4.alloc (.cells #[f, .bool x.many] 48)).heap → W.heap.size = q + 1 + 1 := fun W hW => by rw [hW, ← hqs]; simp
          have HEND : Hid (elsOf u2.data.toList ((us ++ [(f, x)]).map (·.2)) = R ∧ n + 1 + u2.size ≤ s.size ∧ u2.size < u.size) := Lib.hid (by
            rw [List.map_append, HU.out.1]
            have h1 := HN.out
            have h2 := HU.out.2
            have h3 := HK0.out
            exact ⟨HE.out.symm, by omega, by omega⟩)
          clear hf1 hbf hq ho hn128 hu1'
          go_upto_region 11 with (fail)
          go_region_law (refine step_append_x _ rfl _ _ 41 rfl 48 ip _ 2 16 Try.underlying41 hip hipz hips hipb rfl (by decide) (.slice a n c) n (evs us) rfl (HOW _ ⟨rfl, rfl, rfl, by simp, fun k hk _ => Below.heap_alloc w4 _ k hk⟩) (some ⟨q + 1, 0, none⟩) 1 1 (evs [(f, x)]) rfl rfl (HSR _ rfl) (fun h => by cases h) hone (by unfold maxLen; omega) (by omega) ?_; intro ao2 cap2 w5 hown2 hgr2 hblk2; obtain ⟨p5, HF⟩ := HPUSH.out _ w5 ao2 cap2 hgr2 ⟨rfl, rfl, rfl, by simp, fun k hk _ => Below.heap_alloc w4 _ k hk⟩ (HSZ _ rfl) hown2 (by simpa [hqs] using hblk2); have HFF := Lib.hid HF; have p1 := p5.ev; have p2 := p5.frozen 5; clear hown2 hgr2 hblk2 HF)
          all_goals
            go_wp2_with fail
            go_roundw
            case rel => exact ⟨u2, ao2, n + 1, cap2, us ++ [(f, x)], rfl, Lib.hid HEND.out.2.1, Lib.hid HEND.out.1, HFF⟩
            case measure => simp [lenOf]; exact HEND.out.2.2
end Go.Proofs.Ytnbeamggbehclaa
