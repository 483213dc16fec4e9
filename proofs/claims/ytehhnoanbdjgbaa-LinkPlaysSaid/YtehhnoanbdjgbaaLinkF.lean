/- The law LinkApart. No conditions beyond those that each statement types. -/
import Derived.Test.YtehhnoanbdjgbaaLinkE
import Derived.Test.YtehhnoanbdjgbaaLinkOpen
namespace Go.Proofs.Ytehhnoanbdjgbaa
open Go.RowKit

/-- At most 2000 bytes of a string. -/
def cut2000 (s : ByteArray) : ByteArray := s.extract 0 2000
theorem cut2000_size (s : ByteArray) : (cut2000 s).size ≤ 2000 := by simp [cut2000, ByteArray.size_extract]; omega
theorem cut2000_short {s : ByteArray} (h : s.size ≤ 2000) : cut2000 s = s := by
  unfold cut2000
  apply ByteArray.ext
  simp [ByteArray.data_extract]
  have : s.size = s.data.size := rfl
  omega

/-- What the other way keeps. -/
theorem apart_send (d b s2 : List UInt8) (e : Int) (h : s2.length ≤ 262144) : ∃ (c : Int) (s2' : List UInt8), LinkS.send ⟨b, s2, e⟩ 1 d = (c, ⟨b, s2', e⟩) ∧ s2'.length ≤ 262144 := by
  unfold LinkS.send
  rw [if_pos rfl]
  by_cases hf : s2.length + d.length ≤ 262144
  · exact ⟨0, s2 ++ d, by rw [if_pos hf], by rw [List.length_append]; exact hf⟩
  · exact ⟨7, s2, by rw [if_neg hf], h⟩
theorem apart_deliver (b s2 : List UInt8) (e : Int) (h : s2.length ≤ 262144) (n : Int) : ∃ (d : List UInt8) (c : Int) (s2' : List UInt8), LinkS.deliver ⟨b, s2, e⟩ 2 n = ((d, c), ⟨b, s2', e⟩) ∧ s2'.length ≤ 262144 := by
  unfold LinkS.deliver
  rw [if_neg (by simp)]
  by_cases hf : 0 ≤ n
  · exact ⟨_, _, _, by rw [if_pos ⟨rfl, hf⟩], by simp; omega⟩
  · exact ⟨_, _, _, by rw [if_neg (fun h => hf h.2)], h⟩

set_option maxHeartbeats 2000000 in
theorem link_apart (s : ByteArray) (hs : s.size ≤ 9223372036854775807) (ao : Option Addr) (c : Nat) (l : List ActL) (_hlen : l.length ≤ 9223372036854775807) (w : World) (hA : ActsAt w ao l) :
    Calls Try.prog 3 #[.string s, .slice ao l.length c] w (Holds w) := by
  go_enter Try.func3, Try.ntmps3
  go_upto_region 1 with (fail)
  go_cut [0] (fun v wr => v = .string (cut2000 s) ∧ wr = w)
  case first =>
    go_wp2_with fail
    all_goals go_meet
    case rel => exact ⟨rfl, rfl⟩
    case rel => exact ⟨by rw [cut2000_short (by omega)], rfl⟩
  case rest =>
  obtain ⟨rfl, rfl⟩ := hcut
  have ht := cut2000_size s
  generalize cut2000 s = t at *
  go_wp2_with fail
  refine (link_made _).mono ?_
  rintro r w1 ⟨rfl, L1, S1⟩
  go_wp2_with (refine wpList_bytes_of_str _ rfl 9 27 _ rfl 5 Try.underlying9 Try.underlying27 Try.underlying5 t rfl t.size rfl t.data.toList rfl ?_)
  intro g2 c2 w2 hc2 M2
  have L2 := L1.stay M2.chg
  go_wp2_with fail
  refine (link_send_x _ _ _ 2 t.data.toList (0, ⟨t.data.toList, [], 0⟩) (by simp [LinkS.send]; omega) _ c2 t.size _ L2.1 (by simp [LinkS.ok]) M2.src (by simp) rfl).mono ?_
  rintro r w3 ⟨rfl, F3, L3, S3⟩
  go_wp2_with fail
  have T3 := (S1.trans L2.2).trans S3
  go_loopw [6] (fun i wr => ∃ (k : Nat) (F : List Nat) (s2 : List UInt8), i = .int .i64 k ∧ k ≤ l.length ∧ k ≤ 100 ∧ LinkAt wr wc.heap.size ⟨t.data.toList, s2, 0⟩ F ∧ Step [] F wc wr ∧ s2.length ≤ 262144) (fun i _ => 100 - (intOf i).toNat)
  case atStart => exact ⟨0, F3, [], rfl, Nat.zero_le _, Nat.zero_le _, L3, T3, by simp⟩
  case round =>
    obtain ⟨k, F, s2, rfl, hk, hk2, LR, TR, hs2⟩ := hrel
    clear L3 T3 S3
    by_cases hlt : k < l.length ∧ k < 100
    · obtain ⟨hlt1, hlt2⟩ := hlt
      obtain ⟨x, hx⟩ : ∃ x, l[k]? = some x := ⟨l[k], by simp [hlt1]⟩
      obtain ⟨b0, o0, rfl, hcx⟩ := hA k x hx
      have hcx' := hcx.chg TR.chg
      obtain ⟨q1, q2, q3, q4, b1, b2, b3, b4⟩ := hcx'
      by_cases hw : x.what.tmod 2 = 0
      · go_wp2_with fail
        by_cases hd : x.data.size ≤ 2000
        · have hdi : (x.data.size : Int) ≤ 2000 := by omega
          have hdn : ¬ (2000 < (x.data.size : Int)) := by omega
          have hcv := run_bytes_of_string (P := Try.prog) wr.drew 9 27 5 (x.data) Try.underlying9 Try.underlying27 Try.underlying5
          have MB := madeBytes_row wr.drew 5 (x.data)
          obtain ⟨cde, s2', hse, hle⟩ := apart_send (x.data).data.toList t.data.toList s2 0 hs2
          have HSE := Lib.hid hse
          clear hse
          have LR2 := (LR.stay (Chg.drewN [] wr 1)).1.stay MB.chg
          have TR2 := (TR.trans (LR.stay (Chg.drewN [] wr 1)).2).trans LR2.2
          go_region_law (go_simp; go_at_call 10; refine (link_send_x _ _ _ 1 (x.data).data.toList (cde, ⟨t.data.toList, s2', 0⟩) HSE.out _ _ _ _ LR2.1 (by simp [LinkS.ok]; omega) MB.src (by simp) (by first | rfl | simp)).mono ?_; rintro r w4 ⟨rfl, F4, L4, S4⟩)
          all_goals
            go_wp2_with fail
            go_roundw
            case rel => exact ⟨k + 1, F4, s2', by go_num, by omega, by omega, L4, TR2.trans S4, hle⟩
            case measure => simp [intOf]; omega
        · have hdi : 2000 < (x.data.size : Int) := by omega
          have hdn : 2000 ≤ (x.data.size : Int) := by omega
          obtain ⟨D, hDe⟩ : ∃ D, x.data.extract 0 2000 = D := ⟨_, rfl⟩
          have hcv := run_bytes_of_string (P := Try.prog) wr.drew 9 27 5 D Try.underlying9 Try.underlying27 Try.underlying5
          have MB := madeBytes_row wr.drew 5 D
          obtain ⟨cde, s2', hse, hle⟩ := apart_send D.data.toList t.data.toList s2 0 hs2
          have HSE := Lib.hid hse
          clear hse
          have LR2 := (LR.stay (Chg.drewN [] wr 1)).1.stay MB.chg
          have TR2 := (TR.trans (LR.stay (Chg.drewN [] wr 1)).2).trans LR2.2
          go_region_law (go_simp; go_at_call 10; refine (link_send_x _ _ _ 1 D.data.toList (cde, ⟨t.data.toList, s2', 0⟩) HSE.out _ _ _ _ LR2.1 (by simp [LinkS.ok]; omega) MB.src (by simp) (by first | rfl | simp)).mono ?_; rintro r w4 ⟨rfl, F4, L4, S4⟩)
          all_goals
            go_wp2_with fail
            go_roundw
            case rel => exact ⟨k + 1, F4, s2', by go_num, by omega, by omega, L4, TR2.trans S4, hle⟩
            case measure => simp [intOf]; omega

      · obtain ⟨dd, cde, s2', hse, hle⟩ := apart_deliver t.data.toList s2 0 hs2 x.n
        have HSE := Lib.hid hse
        clear hse
        go_wp2_with fail
        refine (link_deliver_x _ _ _ 2 x.n ((dd, cde), ⟨t.data.toList, s2', 0⟩) HSE.out (by omega) _ LR (by simp [LinkS.ok]; omega)).mono ?_
        rintro r w4 ⟨a1, n1, c1, F4, rfl, rfl, hc1, own1, L4, S4, new1⟩
        go_wp2_with fail
        go_roundw
        case rel => exact ⟨k + 1, F4, s2', by go_num, by omega, by omega, L4, TR.trans S4, hle⟩
        case measure => simp [intOf]; omega
    · go_wp2_with fail
      all_goals
        refine (link_deliver_x _ _ _ 1 t.size ((t.data.toList, 0), ⟨[], s2, 0⟩) (by simp [LinkS.deliver]; exact List.take_of_length_le (Nat.le_refl _)) (by omega) _ LR (by simp [LinkS.ok]; omega)).mono ?_
        rintro r w4 ⟨a1, n1, c1, F4, rfl, rfl, hc1, own1, L4, S4, new1⟩
        go_wp2_with (refine wpList_str_of_bytes _ rfl 27 9 (.tmp 70) rfl 5 Try.underlying27 Try.underlying5 Try.underlying9 _ _ _ rfl t rfl (ownsRow_src own1) ?_)
        refine (link_left _ _ _ 1 _ L4).mono ?_
        rintro r w5 ⟨rfl, rfl⟩
        go_wp2_with fail
        refine (link_works _).mono ?_
        rintro r w6 ⟨rfl, S6⟩
        go_wp2_with fail
        go_ret
        exact ⟨rfl, (TR.trans S4).chg.trans S6 (by simp)⟩
end Go.Proofs.Ytehhnoanbdjgbaa
