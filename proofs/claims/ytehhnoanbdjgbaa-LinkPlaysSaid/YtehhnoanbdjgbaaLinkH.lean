/- The laws LinkCopies and LinkKnown. No conditions beyond those that each statement types. -/
import Derived.Test.YtehhnoanbdjgbaaLinkE
import Derived.Test.YtehhnoanbdjgbaaLinkF
namespace Go.Proofs.Ytehhnoanbdjgbaa
open Go.RowKit

theorem Step.apart {F F' G : List Nat} {w w' : World} (h : Step F F' w w') (hd : ∀ k ∈ G, k ∉ F) (hl : ∀ k ∈ G, k < w.heap.size) : ∀ k ∈ G, k ∉ F' := by
  intro k hk hm
  rcases (h.foot k hm).1 with h1 | h1
  · exact hd k hk h1
  · have := hl k hk; omega
theorem deliver_all1 (a b : List UInt8) (e : Int) (n : Nat) (h : a.length ≤ n) : LinkS.deliver ⟨a, b, e⟩ 1 n = ((a, 0), ⟨[], b, e⟩) := by
  simp [LinkS.deliver, List.take_of_length_le h, List.drop_of_length_le h]
theorem deliver_all2 (a b : List UInt8) (e : Int) (n : Nat) (h : b.length ≤ n) : LinkS.deliver ⟨a, b, e⟩ 2 n = ((b, 0), ⟨a, [], e⟩) := by
  simp [LinkS.deliver, List.take_of_length_le h, List.drop_of_length_le h]
theorem apart_symm {F G : List Nat} (h : ∀ k ∈ G, k ∉ F) : ∀ k ∈ F, k ∉ G := fun k hk hm => h k hm hk

set_option maxRecDepth 100000 in
set_option maxHeartbeats 4000000 in
theorem link_copies (s : ByteArray) (hs : s.size ≤ 9223372036854775807) (t : ByteArray) (ht : t.size ≤ 9223372036854775807) (n : Int) (hn : -9223372036854775808 ≤ n ∧ n ≤ 9223372036854775807) (w : World) :
    Calls Try.prog 7 #[.string s, .string t, .int .i64 n] w (Holds w) := by
  have kc := fun (w : World) (C : Array Value) (n c : Nat) => Lib.run_convert_bytes_const (P := Try.prog) w 27 5 C n c Try.underlying27 Try.underlying5
  obtain ⟨hn1, hn2⟩ := hn
  go_enter Try.func7, Try.ntmps7
  go_upto_region 1 with (fail)
  go_cut [0] (fun v wr => v = .string (cut2000 s) ∧ wr = w)
  case first =>
    go_wp2_with fail
    all_goals go_meet
    case rel => exact ⟨rfl, rfl⟩
    case rel => exact ⟨by rw [cut2000_short (by omega)], rfl⟩
  case rest =>
  obtain ⟨rfl, rfl⟩ := hcut
  have hs2 := cut2000_size s
  generalize cut2000 s = S at *
  go_upto_region 2 with (fail)
  go_cut [1] (fun v wr => v = .string (cut2000 t) ∧ wr = wc)
  case first =>
    go_wp2_with fail
    all_goals go_meet
    case rel => exact ⟨rfl, rfl⟩
    case rel => exact ⟨by rw [cut2000_short (by omega)], rfl⟩
  case rest =>
  obtain ⟨rfl, rfl⟩ := hcut
  have ht2 := cut2000_size t
  generalize cut2000 t = T at *
  go_wp2_with fail
  refine (link_made _).mono ?_
  rintro r w1 ⟨rfl, L1, S1⟩
  go_wp2_with fail
  refine (link_reset _ _ _ _ L1 (by decide) (by decide)).mono ?_
  rintro r w2 ⟨rfl, L2, S2⟩
  have T2 := S1.trans S2
  go_wp2_with (refine wpList_bytes_of_str _ rfl 9 27 _ rfl 5 Try.underlying9 Try.underlying27 Try.underlying5 S rfl S.size rfl S.data.toList rfl ?_)
  intro g3 c3 w3 hc3 M3
  have L3 := L2.stay M3.chg
  go_wp2_with fail
  refine (link_send_x _ _ _ 1 S.data.toList (0, ⟨[], S.data.toList, 1⟩) (by simp [LinkS.send]; omega) _ c3 S.size _ L3.1 (by simp [LinkS.ok]) M3.src (by simp) rfl).mono ?_
  rintro r w4 ⟨rfl, F4, L4, S4⟩
  have T4 := (T2.trans L3.2).trans S4
  go_wp2_with (refine wpList_bytes_of_str _ rfl 9 27 _ rfl 5 Try.underlying9 Try.underlying27 Try.underlying5 T rfl T.size rfl T.data.toList rfl ?_)
  intro g5 c5 w5 hc5 M5
  have L5 := L4.stay M5.chg
  go_wp2_with fail
  refine (link_send_x _ _ _ 2 T.data.toList (0, ⟨T.data.toList, S.data.toList, 1⟩) (by simp [LinkS.send]; omega) _ c5 T.size _ L5.1 (by simp [LinkS.ok]; omega) M5.src (by simp) rfl).mono ?_
  rintro r w6 ⟨rfl, F6, L6, S6⟩
  have T6 := (T4.trans L5.2).trans S6
  go_wp2_with fail
  refine (link_copy _ _ _ _ L6 (by simp; omega) (by simp; omega)).mono ?_
  rintro r w7 ⟨b7, G7, rfl, C7, D7⟩
  have T7 : Chg [] wc w7 := T6.chg.trans D7.chg (by simp)
  have L7 := L6.stay D7.chg
  have dj7 : ∀ k ∈ G7, k ∉ F6 := fun k hk hm => by
    have h1 := (D7.foot k hk).1
    have h2 := L6.lt k hm
    simp at h1
    omega
  obtain ⟨dd, cde, s2', hse, hle⟩ := apart_deliver T.data.toList S.data.toList 1 (by simp; omega) n
  have HSE := Lib.hid hse
  clear hse
  go_wp2_with fail
  refine (link_deliver_x _ _ _ 2 n ((dd, cde), ⟨T.data.toList, s2', 1⟩) HSE.out hn2 _ L7.1 (by simp [LinkS.ok]; omega)).mono ?_
  rintro r w8 ⟨a8, n8, c8, F8, rfl, rfl, hc8, own8, L8, S8, new8⟩
  have T8 : Chg [] wc w8 := (T6.trans (L7.2.trans S8)).chg
  have C8 := C7.chg S8.chg dj7
  have dj8 := S8.apart dj7 C7.lt
  obtain ⟨cd9, s9, hs9, hl9⟩ := apart_send [109, 111, 114, 101] T.data.toList s2' 1 hle
  have HS9 := Lib.hid hs9
  clear hs9
  go_wp2_with fail
  refine (link_send_x _ _ _ 1 [109, 111, 114, 101] (cd9, ⟨T.data.toList, s9, 1⟩) HS9.out _ _ 4 _ (L8.stay (Chg.alloc [] _ _)).1 (by simp [LinkS.ok]; omega) (src_lit [109, 111, 114, 101] _ _ rfl) (by simp) rfl).mono ?_
  rintro r w9 ⟨rfl, F9, L9, S9⟩
  have S9' := (L8.stay (Chg.alloc [] w8 (Obj.cells (bvs [109, 111, 114, 101]).toArray 5 (4, 5)))).2.trans S9
  have T9 : Step [] F9 wc w9 := ((T6.trans L7.2).trans S8).trans S9'
  have C9 := C8.chg S9'.chg dj8
  have dj9 := S9'.apart dj8 C8.lt
  go_wp2_with fail
  refine (link_reset _ _ _ _ C9 (by simp) (by simp)).mono ?_
  rintro r w10 ⟨rfl, C10, R10⟩
  have L10 := L9.chg R10.chg (apart_symm dj9)
  have dj10 := R10.apart (apart_symm dj9) L9.lt
  have Q10 : Chg [] wc w10 := T9.chg.trans R10.chg (fun k hk => ?g1)
  case g1 =>
    right
    have hkk : ∀ k ∈ G7, wc.heap.size ≤ k := fun k hk => by
      have h1 := (D7.foot k hk).1
      have h2 := T6.chg.size
      simp at h1
      omega
    exact hkk k hk
  go_wp2_with fail
  refine (link_copy _ _ _ _ L10 (by simp; omega) (by simp; omega)).mono ?_
  rintro r w11 ⟨b11, G11, rfl, E11, D11⟩
  have L11 := L10.stay D11.chg
  have C11 := C10.stay D11.chg
  have djE : ∀ k ∈ G11, k ∉ F9 := fun k hk hm => by
    have h1 := (D11.foot k hk).1
    have h2 := L10.lt k hm
    simp at h1
    omega
  go_wp2_with fail
  refine (link_reset _ _ _ _ L11.1 (by simp) (by simp)).mono ?_
  rintro r w12 ⟨rfl, L12, R12⟩
  have C12 := C11.1.chg R12.chg (apart_symm dj10)
  have E12 := E11.chg R12.chg djE
  have djE12 := R12.apart djE E11.lt
  have Q12 : Chg [] wc w12 := (Q10.trans D11.chg (by simp)).trans R12.chg (fun k hk => by
    rcases (T9.foot k hk).1 with h | h
    · simp at h
    · exact .inr h)
  go_wp2_with fail
  refine (link_deliver_x _ _ _ 1 3000 ((T.data.toList, 0), ⟨[], s9, 1⟩) (deliver_all1 _ _ _ 3000 (by simp; omega)) (by decide) _ E12 (by simp [LinkS.ok]; omega)).mono ?_
  rintro r w13 ⟨a13, n13, c13, F13, rfl, rfl, hc13, own13, E13, S13, new13⟩
  have dC : ∀ k ∈ [b7], k ∉ G11 := fun k hk hm => by
    have h1 := (D11.foot k hm).1
    have h2 := C10.lt k hk
    simp at h1
    omega
  have C13 := C12.chg S13.chg dC
  have L13 := L12.chg S13.chg (fun k hk hm => by
    have h1 := (D11.foot k hm).1
    have h2 := L10.lt k (by have h3 := (R12.foot k hk).1; rcases h3 with h3 | h3; exact h3; have h4 := E11.lt k hm; have h5 := D11.chg.size; omega)
    simp at h1
    omega)
  have Q13 : Chg [] wc w13 := Q12.trans S13.chg (fun k hk => by
    have h1 := (D11.foot k hk).1
    have h2 := Q10.size
    simp at h1
    right; omega)
  go_wp2_with (refine wpList_str_of_bytes _ rfl 27 9 (.tmp 63) rfl 5 Try.underlying27 Try.underlying5 Try.underlying9 _ _ _ rfl T rfl (ownsRow_src own13) ?_)
  refine (link_epoch _ _ _ _ C13).mono ?_
  rintro r w' ⟨rfl, rfl⟩
  go_wp2_with fail
  refine (link_left _ _ _ 1 _ C13).mono ?_
  rintro r w' ⟨rfl, rfl⟩
  go_wp2_with fail
  refine (link_epoch _ _ _ _ E13).mono ?_
  rintro r w' ⟨rfl, rfl⟩
  go_wp2_with fail
  refine (link_epoch _ _ _ _ L13).mono ?_
  rintro r w' ⟨rfl, rfl⟩
  go_wp2_with fail
  refine (link_works _).mono ?_
  rintro r w' ⟨rfl, S14⟩
  go_wp2_with fail
  go_ret
  exact ⟨rfl, Q13.trans S14 (by simp)⟩
end Go.Proofs.Ytehhnoanbdjgbaa
