/- One delivery, one reset, and the law LinkPlays. No conditions beyond those that each statement types. -/
import Derived.Test.YtehhnoanbdjgbaaLinkK
namespace Go.Proofs.Ytehhnoanbdjgbaa
open Go.RowKit

theorem Writable.of_own {w : World} {ao : Option Addr} {n c : Nat} {d : List UInt8} (h : w.ownsRow 0 5 1 (.slice ao n c) n (bvs d)) (hn : n = d.length) : n = 0 ∨ ∃ g, ao = some ⟨g, 0, none⟩ ∧ Writable w g n := by
  rcases h.2 with ⟨_, h0⟩ | ⟨g, cap, cur, hv, _, hg, hnc, hcm, hcs, ht⟩
  · exact .inl h0
  · right
    simp only [Value.slice.injEq] at hv
    refine ⟨g, hv.1, fun j hj => ⟨⟨d[j]'(by omega), ?_⟩, frozen_of_row w g j _ _ hg⟩⟩
    have h1 := (ownsRow_src h).cell _ hv.1 j (bv (d[j]'(by omega))) (by simp [bvs, show j < d.length by omega])
    rwa [show (⟨g, 0, none⟩ : Addr).add j = ⟨g, j, none⟩ from by unfold Addr.add; split <;> simp_all] at h1

set_option maxRecDepth 100000 in
set_option maxHeartbeats 4000000 in
theorem one_deliver (b q : Nat) (L : LinkS) (F G : List Nat) (what dev n : Int) (data : ByteArray) (w : World) (P : Pair w b q L F G) (hm : what.tmod 3 = 1)
    (h1 : -9223372036854775808 ≤ what ∧ what ≤ 9223372036854775807) (h3 : n ≤ 9223372036854775807) :
    Calls Try.prog 14 #[.pointer (some ⟨b, 0, none⟩), .pointer (some ⟨q, 0, none⟩), .agg #[.int .i64 what, .int .i64 dev, .int .i64 n, .string data]] w (Oned w b q F G L.e) := by
  obtain ⟨h11, h12⟩ := h1
  go_enter Try.func14, Try.ntmps14
  go_upto_region 2 with (fail)
  have hnx := heap_alloc_new w (Obj.cells #[.int .i64 what, .int .i64 dev, .int .i64 n, .string data] 29)
  have xF : w.heap.size ∉ F := fun hm => Nat.lt_irrefl _ (P.link.lt _ hm)
  have xG : w.heap.size ∉ G := fun hm => Nat.lt_irrefl _ (P.ref.lt _ hm)
  have C1 := Chg.alloc [] w (Obj.cells #[.int .i64 what, .int .i64 dev, .int .i64 n, .string data] 29)
  generalize hw1 : w.alloc (Obj.cells #[.int .i64 what, .int .i64 dev, .int .i64 n, .string data] 29) = w1 at *
  clear hw1
  have P1 := P.chg0 C1
  have x1 : w1.cell? ⟨w.heap.size, 1, none⟩ = some (.int .i64 dev) := by rw [cell_of_row _ _ 1 _ _ _ hnx]; rfl
  have x2 : w1.cell? ⟨w.heap.size, 2, none⟩ = some (.int .i64 n) := by rw [cell_of_row _ _ 2 _ _ _ hnx]; rfl
  obtain ⟨x, hx⟩ : ∃ x, L.deliver dev n = x := ⟨_, rfl⟩
  have HX := Lib.hid hx
  have hxok : x.2.ok := hx ▸ P1.ok.deliver dev n
  have hxe : x.2.e = L.e := by
    rw [← hx]
    unfold LinkS.deliver
    split
    · rfl
    · split <;> rfl
  clear hx hnx
  go_wp2_with fail
  refine (link_deliver_x b L F dev n x HX.out h3 _ P1.link P1.ok).mono ?_
  rintro r w4 ⟨a4, n4, c4, F4, rfl, hn4, hc4, own4, L4, S4, new4⟩
  have HN4 := Lib.hid hn4
  clear hn4
  have R4 := P1.ref.chg S4.chg P1.off
  have z1 := S4.chg.cell_some x1 xF
  have z2 := S4.chg.cell_some x2 xF
  have gG4 : ∀ a, a4 = some a → a.block ∉ G := fun a ha hm => by
    have h1 := new4 a ha
    have h2 := P1.ref.lt _ hm
    omega
  go_wp2_with fail
  refine (ref_deliver_x q L G dev n x HX.out _ R4 P1.ok).mono ?_
  rintro r w5 ⟨a5, n5, c5, G5, rfl, hn5, hc5, own5, R5, S5, new5⟩
  have HN5 := Lib.hid hn5
  clear hn5
  obtain ⟨J1, J2⟩ := P1.both S4 L4 S5 R5 hxok
  have o4 := ownsRow_chg own4 S5.chg (fun k hk => by
    cases a4 with
    | none => cases hk
    | some a => exact Option.some.inj hk ▸ gG4 a rfl)
  obtain ⟨R, hR⟩ : ∃ R : ByteArray, R.data.toList = x.1.1 := ⟨⟨x.1.1.toArray⟩, by simp⟩
  have r4 : Src w5 a4 (bvs R.data.toList) := by rw [hR]; exact ownsRow_src o4
  have r5 : Src w5 a5 (bvs R.data.toList) := by rw [hR]; exact ownsRow_src own5
  have l4 : R.data.toList.length = n4 := by rw [hR]; exact HN4.out.symm
  have l5 : R.data.toList.length = n5 := by rw [hR]; exact HN5.out.symm
  have HL4 := Lib.hid l4
  have HL5 := Lib.hid l5
  have hw4 := Writable.of_own o4 HN4.out
  have nsm : n4 ≤ 262144 := by
    have h0 := HN4.out
    rw [← HX.out] at h0
    have := P1.ok
    unfold LinkS.ok at this
    unfold LinkS.deliver at h0
    split at h0
    · simp at h0; omega
    · split at h0
      · simp at h0; omega
      · simp at h0; omega
  have T2 : Step (F ++ G) (F ++ G) w w1 := ⟨C1.mono (by simp), fun k hk => ⟨.inl hk, by
    simp only [List.mem_append] at hk
    rcases hk with hk | hk
    · exact P1.link.lt k hk
    · exact P1.ref.lt k hk⟩⟩
  have hgs := C1.size
  clear l4 l5 own4 own5 o4 hR x1 x2
  go_wp2_with (first | (refine wpList_str_of_bytes _ rfl 27 9 (.tmp 79) rfl 5 Try.underlying27 Try.underlying5 Try.underlying9 _ _ _ rfl R HL4.out r4 ?_) | (refine wpList_str_of_bytes _ rfl 27 9 (.tmp 81) rfl 5 Try.underlying27 Try.underlying5 Try.underlying9 _ _ _ rfl R HL5.out r5 ?_))
  rcases hw4 with h0 | ⟨g, hg, hW⟩
  · subst h0
    have fin : Oned w b q F G L.e (.returned (.bool true)) w5 := ⟨rfl, x.2, F4, G5, J1, T2.trans J2, by omega⟩
    have FIN := Lib.hid fin
    clear fin
    refine wp_loop_rounds 1 ?_
    rw [rounds_succ]
    go_wp2_with fail
    go_ret
    exact FIN.out
  · subst hg
    have gF := (new4 _ rfl).2.1
    have gG : g ∉ G5 := fun hm => by
      have h1 := new4 _ rfl
      rcases (S5.foot _ hm).1 with h | h
      · exact gG4 _ rfl h
      · simp at h1; omega
    have gw : w.heap.size ≤ g := by have := (new4 _ rfl).1; simp at this; omega
    dsimp only at gF
    clear new4 gG4 new5
    go_loopw [16] (fun i wr => ∃ k : Nat, i = .int .i64 k ∧ k ≤ n4 ∧ Chg [g] w5 wr ∧ Writable wr g n4) (fun i _ => n4 - (intOf i).toNat)
    case atStart => exact ⟨0, rfl, Nat.zero_le _, Chg.refl _ _, hW⟩
    case round =>
      obtain ⟨k, rfl, hk, CR, WR⟩ := hrel
      by_cases hlt : k < n4
      · obtain ⟨⟨y, hy⟩, hf⟩ := WR k hlt
        unfold bv at hy
        have hyl : (y.toNat : Int) ≤ 255 := by have := y.toNat_lt; omega
        have hy0 : (0 : Int) ≤ (y.toNat : Int) := by omega
        obtain ⟨z, hz⟩ := flip_byte y
        have WR2 : Writable (wr.setCell ⟨g, k, none⟩ (.int .u8 (255 - (y.toNat : Int)))) g n4 := by
          have := WR.set hlt z
          unfold bv at this
          rwa [hz] at this
        have CR2 : Chg [g] w5 (wr.setCell ⟨g, k, none⟩ (.int .u8 (255 - (y.toNat : Int)))) := CR.trans (Chg.setCell (S := [g]) _ _ _ (.inl (by simp))) (by simp)
        clear hz
        go_wp2_with fail
        go_roundw
        case rel => exact ⟨k + 1, by go_num, by omega, CR2, WR2⟩
        case measure => simp [intOf]; omega
      · have T5 := T2.trans J2
        have fin : Oned w b q F G L.e (.returned (.bool true)) wr := by
          refine ⟨rfl, x.2, F4, G5, ⟨J1.link.chg CR (fun k hk hm => ?_), J1.ref.chg CR (fun k hk hm => ?_), J1.off, J1.ok⟩, ⟨T5.chg.trans CR (fun k hk => ?_), fun k hk => ⟨(T5.foot k hk).1, Nat.lt_of_lt_of_le (T5.foot k hk).2 CR.size⟩⟩, by omega⟩
          · simp at hm; subst hm; exact gF hk
          · simp at hm; subst hm; exact gG hk
          · simp at hk; subst hk; exact .inr gw
        have FIN := Lib.hid fin
        clear fin
        go_wp2_with fail
        go_ret
        exact FIN.out

set_option maxRecDepth 100000 in
theorem one_reset (b q : Nat) (L : LinkS) (F G : List Nat) (what dev n : Int) (data : ByteArray) (w : World) (P : Pair w b q L F G) (hm0 : (what.tmod 3 == 0) = false) (hm1 : (what.tmod 3 == 1) = false)
    (h1 : -9223372036854775808 ≤ what ∧ what ≤ 9223372036854775807) (he : L.e ≤ 1000) :
    Calls Try.prog 14 #[.pointer (some ⟨b, 0, none⟩), .pointer (some ⟨q, 0, none⟩), .agg #[.int .i64 what, .int .i64 dev, .int .i64 n, .string data]] w (Oned w b q F G L.e) := by
  obtain ⟨h11, h12⟩ := h1
  have C1 := Chg.alloc [] w (Obj.cells #[.int .i64 what, .int .i64 dev, .int .i64 n, .string data] 29)
  have P1 := P.chg0 C1
  have T2 : Step (F ++ G) (F ++ G) w (w.alloc (Obj.cells #[.int .i64 what, .int .i64 dev, .int .i64 n, .string data] 29)) := ⟨C1.mono (by simp), fun k hk => ⟨.inl hk, by
    simp only [List.mem_append] at hk
    rcases hk with hk | hk
    · exact P1.link.lt k hk
    · exact P1.ref.lt k hk⟩⟩
  have hok := P.ok
  unfold LinkS.ok at hok
  go_enter Try.func14, Try.ntmps14
  go_wp2_with fail
  refine (ref_reset q L G _ P1.ref hok.2.2.1 hok.2.2.2).mono ?_
  rintro r w4 ⟨rfl, R4, S4⟩
  have L4 := P1.link.chg S4.chg (apart_symm P1.off)
  go_wp2_with fail
  refine (link_reset b L F _ L4 hok.2.2.1 hok.2.2.2).mono ?_
  rintro r w5 ⟨rfl, L5, S5⟩
  go_wp2_with fail
  go_ret
  have d1 := S4.apart (apart_symm P1.off) P1.link.lt
  have d2 := S5.apart (apart_symm d1) R4.lt
  have R5 := R4.chg S5.chg (apart_symm d1)
  have U : Step (F ++ G) ([b] ++ [q]) (w.alloc (Obj.cells #[.int .i64 what, .int .i64 dev, .int .i64 n, .string data] 29)) w5 := by
    refine ⟨(S4.chg.mono (by simp_all)).trans S5.chg (fun k hk => .inl (by simp [hk])), fun k hk => ?_⟩
    simp only [List.mem_append] at hk ⊢
    rcases hk with hk | hk
    · have h1 := S5.foot k hk
      refine ⟨?_, h1.2⟩
      rcases h1.1 with h2 | h2
      · exact .inl (.inl h2)
      · exact .inr (Nat.le_trans S4.chg.size h2)
    · have h1 := S4.foot k hk
      refine ⟨?_, Nat.lt_of_lt_of_le h1.2 S5.chg.size⟩
      rcases h1.1 with h2 | h2
      · exact .inl (.inr h2)
      · exact .inr h2
  exact ⟨rfl, ⟨[], [], L.e + 1⟩, [b], [q], ⟨L5, R5, d2, by simp [LinkS.ok]; omega⟩, T2.trans U, by simp⟩

/-- The law. -/
structure Acted (w : World) (b q : Nat) (L : LinkS) (F G : List Nat) (w' : World) (k : Nat) : Prop where
  pair : Pair w' b q L F G
  chg : Chg [] w w'
  low : ∀ k ∈ F ++ G, w.heap.size ≤ k
  e : L.e ≤ k

theorem link_one (b q : Nat) (L : LinkS) (F G : List Nat) (what dev n : Int) (data : ByteArray) (w : World) (P : Pair w b q L F G)
    (h1 : -9223372036854775808 ≤ what ∧ what ≤ 9223372036854775807) (h2 : -9223372036854775808 ≤ dev ∧ dev ≤ 9223372036854775807) (h3 : n ≤ 9223372036854775807) (h4 : data.size ≤ 9223372036854775807) (he : L.e ≤ 1000) :
    Calls Try.prog 14 #[.pointer (some ⟨b, 0, none⟩), .pointer (some ⟨q, 0, none⟩), .agg #[.int .i64 what, .int .i64 dev, .int .i64 n, .string data]] w (Oned w b q F G L.e) := by
  by_cases m0 : what.tmod 3 = 0
  · exact one_send b q L F G what dev n data w P m0 h1 h2 h4
  by_cases m1 : what.tmod 3 = 1
  · exact one_deliver b q L F G what dev n data w P m1 h1 h3
  · exact one_reset b q L F G what dev n data w P (by simpa using m0) (by simpa using m1) h1 he

set_option maxRecDepth 100000 in
set_option maxHeartbeats 4000000 in
theorem link_plays (ao : Option Addr) (c : Nat) (l : List ActL) (_hlen : l.length ≤ 9223372036854775807) (w : World) (hA : ActsAt w ao l) :
    Calls Try.prog 5 #[.slice ao l.length c] w (Holds w) := by
  go_enter Try.func5, Try.ntmps5
  go_wp2_with fail
  refine (link_made _).mono ?_
  rintro r w1 ⟨rfl, L1, T1⟩
  go_wp2_with fail
  have hsz := T1.chg.size
  have CA := Chg.alloc [] w1 (Obj.cells #[.slice none 0 0, .slice none 0 0, .int .i64 0] 39)
  have hnb := heap_alloc_new w1 (Obj.cells #[.slice none 0 0, .slice none 0 0, .int .i64 0] 39)
  have hl1 := L1.lt w.heap.size (by simp)
  have A0 : Acted w w.heap.size w1.heap.size ⟨[], [], 0⟩ [w.heap.size] [w1.heap.size] (w1.alloc (Obj.cells #[.slice none 0 0, .slice none 0 0, .int .i64 0] 39)) 0 :=
    ⟨⟨(L1.stay CA).1, ⟨.slice none 0 0, .slice none 0 0, ⟨hnb, World.ownsRow_nil _ _ _ _, World.ownsRow_nil _ _ _ _⟩, .inl rfl, rfl⟩, by simp; omega, by simp [LinkS.ok]⟩, T1.chg.trans CA (by simp), by simp; omega, by simp⟩
  clear hnb CA L1 T1 hl1 hsz
  go_loopw [2, 5] (fun v i wr => ∃ (k : Nat) (L : LinkS) (F G : List Nat), v = .bool false ∧ i = .int .i64 k ∧ k ≤ l.length ∧ k ≤ 100 ∧ Acted w w.heap.size w1.heap.size L F G wr k) (fun _ i _ => 100 - (intOf i).toNat)
  case atStart => exact ⟨0, _, _, _, rfl, rfl, Nat.zero_le _, Nat.zero_le _, A0⟩
  case round =>
    obtain ⟨k, L, F, G, rfl, rfl, hk, hk2, I⟩ := hrel
    clear A0
    by_cases hlt : k < l.length ∧ k < 100
    · obtain ⟨hlt1, hlt2⟩ := hlt
      obtain ⟨x, hx⟩ : ∃ x, l[k]? = some x := ⟨l[k], by simp [hlt1]⟩
      obtain ⟨b0, o0, rfl, hcx⟩ := hA k x hx
      obtain ⟨q1, q2, q3, q4, b1, b2, b3, b4⟩ := hcx.chg I.chg
      go_wp2_with fail
      have hIe : L.e ≤ 1000 := by have := I.e; omega
      refine (link_one _ _ L F G x.what x.dev x.n x.data _ I.pair b1 b2 b3.2 b4 hIe).mono ?_
      rintro r w5 ⟨rfl, L', F', G', J, S5, he⟩
      have I5 : Acted w w.heap.size w1.heap.size L' F' G' w5 (k + 1) := ⟨J, I.chg.trans S5.chg (fun k hk => .inr (I.low k hk)), fun k hk => by
        rcases (S5.foot k hk).1 with h | h
        · exact I.low k h
        · have := I.chg.size; omega, by have := I.e; omega⟩
      obtain ⟨p1, p2, p3, p4, _, _, _, _⟩ := hcx.chg I5.chg
      obtain ⟨v0, v1, ⟨hbq, _, _⟩, _, _⟩ := J.ref
      have cq : w5.cell? ⟨w1.heap.size, 2, none⟩ = some (.int .i64 L'.e) := by rw [cell_of_row w5 _ 2 _ _ _ hbq]; rfl
      clear q1 q2 q3 q4 hbq I S5 he hIe p1 p3 p4
      go_wp2_with fail
      go_quiet ((go_at_call 12; exact Calls.quiet_of_same ((link_left _ _ _ _ _ (J.link.stay (Chg.drewN [] _ _)).1).mono (fun r w' ⟨h, g⟩ => ⟨h, g.symm⟩))))
      have I6 : Acted w w.heap.size w1.heap.size L' F' G' (w5.drewN nq) (k + 1) := ⟨J.chg0 (Chg.drewN [] _ _), I5.chg.trans (Chg.drewN [] _ nq) (by simp), I5.low, I5.e⟩
      have p2' : (w5.drewN nq).cell? ⟨b0, o0 + k * 4 + 1, none⟩ = some (.int .i64 x.dev) := p2
      have cq' : (w5.drewN nq).cell? ⟨w1.heap.size, 2, none⟩ = some (.int .i64 L'.e) := cq
      clear J I5 p2 cq
      generalize w5.drewN nq = wq at *
      go_wp2_with fail
      go_quiet (first | (go_at_call 15; exact Calls.quiet_of_same ((ref_left _ _ _ _ _ (I6.pair.ref.stay (Chg.drewN [] _ _)).1).mono (fun r w' ⟨h, g⟩ => ⟨h, g.symm⟩))) | (go_at_call 16; exact Calls.quiet_of_same ((link_epoch _ _ _ _ (I6.pair.link.stay (Chg.drewN [] _ _)).1).mono (fun r w' ⟨h, g⟩ => ⟨h, g.symm⟩))))
      have I7 : Acted w w.heap.size w1.heap.size L' F' G' (wq.drewN nq) (k + 1) := ⟨I6.pair.chg0 (Chg.drewN [] _ _), I6.chg.trans (Chg.drewN [] _ nq) (by simp), I6.low, I6.e⟩
      clear I6 p2' cq'
      go_wp2_with fail
      go_roundw
      case rel => exact ⟨k + 1, L', F', G', rfl, by go_num, by omega, by omega, I7⟩
      case measure => simp [intOf]; omega
    · go_wp2_with fail
      all_goals
        refine (link_works _).mono ?_
        rintro r w6 ⟨rfl, S6⟩
        go_wp2_with fail
        go_ret
        exact ⟨rfl, I.chg.trans S6 (by simp)⟩
end Go.Proofs.Ytehhnoanbdjgbaa
