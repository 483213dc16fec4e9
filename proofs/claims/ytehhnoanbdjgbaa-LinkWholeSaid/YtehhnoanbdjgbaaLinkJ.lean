/- The law LinkWhole. No conditions beyond those that each statement types. -/
import Derived.Test.YtehhnoanbdjgbaaLinkF
import Derived.Test.YtehhnoanbdjgbaaLinkH
import Derived.Test.YtehhnoanbdjgbaaLinkI
namespace Go.Proofs.Ytehhnoanbdjgbaa
open Go.RowKit

def three (a b : ByteArray) : Obj := .cells #[.string ⟨#[]⟩, .string a, .string b] 43 (0, 0)

/-- The loop's memory: the link, and what was sent and came, each a block of three texts. -/
structure WholeMem (w wr : World) (b bs bc : Nat) (L : LinkS) (F : List Nat) (S1 S2 C1 C2 : ByteArray) : Prop where
  link : LinkAt wr b L F
  chg : Chg [] w wr
  sent : wr.heap[bs]? = some (three S1 S2)
  came : wr.heap[bc]? = some (three C1 C2)
  low : ∀ k ∈ F, w.heap.size ≤ k
  lows : w.heap.size ≤ bs ∧ w.heap.size ≤ bc ∧ bs ≠ bc
  off : bs ∉ F ∧ bc ∉ F

/-- What is known of the texts. -/
structure WholeEq (L : LinkS) (S1 S2 C1 C2 : ByteArray) (k : Nat) : Prop where
  eq1 : C1.data.toList ++ L.s1 = S1.data.toList
  eq2 : C2.data.toList ++ L.s2 = S2.data.toList
  ok : L.s1.length ≤ 262144 ∧ L.s2.length ≤ 262144 ∧ 0 ≤ L.e ∧ L.e ≤ k
  len : S1.size ≤ 2000 * k ∧ S2.size ≤ 2000 * k

section
variable {w wr w' : World} {b bs bc : Nat} {L L' : LinkS} {F F' : List Nat} {S1 S2 C1 C2 : ByteArray}

theorem WholeMem.chg0 (h : WholeMem w wr b bs bc L F S1 S2 C1 C2) (c : Chg [] wr w') : WholeMem w w' b bs bc L F S1 S2 C1 C2 :=
  ⟨h.link.chg c (by simp), h.chg.trans c (by simp), (c.block _ (lt_of_block h.sent) (by simp)).trans h.sent, (c.block _ (lt_of_block h.came) (by simp)).trans h.came, h.low, h.lows, h.off⟩
theorem WholeMem.step (h : WholeMem w wr b bs bc L F S1 S2 C1 C2) (c : Step F F' wr w') (hl : LinkAt w' b L' F') : WholeMem w w' b bs bc L' F' S1 S2 C1 C2 := by
  have hs := lt_of_block h.sent
  have hc := lt_of_block h.came
  have hw := h.chg.size
  refine ⟨hl, h.chg.trans c.chg (fun k hk => .inr (h.low k hk)), (c.chg.block _ hs h.off.1).trans h.sent, (c.chg.block _ hc h.off.2).trans h.came, ?_, h.lows, ?_, ?_⟩
  · intro k hk
    rcases (c.foot k hk).1 with h1 | h1
    · exact h.low k h1
    · omega
  · intro hm
    rcases (c.foot _ hm).1 with h1 | h1
    · exact h.off.1 h1
    · omega
  · intro hm
    rcases (c.foot _ hm).1 with h1 | h1
    · exact h.off.2 h1
    · omega
theorem WholeMem.setS (h : WholeMem w wr b bs bc L F S1 S2 C1 C2) (i : Nat) (v : ByteArray) {T1 T2 : ByteArray} (ht : (#[.string ⟨#[]⟩, .string S1, .string S2] : Array Value).setIfInBounds i (.string v) = #[.string ⟨#[]⟩, .string T1, .string T2]) :
    WholeMem w (wr.setCell ⟨bs, i, none⟩ (.string v)) b bs bc L F T1 T2 C1 C2 := by
  have c := Chg.setCell (S := [bs]) wr ⟨bs, i, none⟩ (.string v) (.inl (by simp))
  have e := heap_setCell_same wr bs i _ _ (.string v) h.sent
  rw [ht] at e
  exact ⟨h.link.chg c (fun k hk hm => by simp at hm; subst hm; exact h.off.1 hk), h.chg.trans c (fun k hk => by simp at hk; subst hk; exact .inr h.lows.1), e,
    (c.block _ (lt_of_block h.came) (by simp; exact fun e => h.lows.2.2 e.symm)).trans h.came, h.low, h.lows, h.off⟩
theorem WholeMem.setC (h : WholeMem w wr b bs bc L F S1 S2 C1 C2) (i : Nat) (v : ByteArray) {T1 T2 : ByteArray} (ht : (#[.string ⟨#[]⟩, .string C1, .string C2] : Array Value).setIfInBounds i (.string v) = #[.string ⟨#[]⟩, .string T1, .string T2]) :
    WholeMem w (wr.setCell ⟨bc, i, none⟩ (.string v)) b bs bc L F S1 S2 T1 T2 := by
  have c := Chg.setCell (S := [bc]) wr ⟨bc, i, none⟩ (.string v) (.inl (by simp))
  have e := heap_setCell_same wr bc i _ _ (.string v) h.came
  rw [ht] at e
  exact ⟨h.link.chg c (fun k hk hm => by simp at hm; subst hm; exact h.off.2 hk), h.chg.trans c (fun k hk => by simp at hk; subst hk; exact .inr h.lows.2.1),
    (c.block _ (lt_of_block h.sent) (by simp; exact h.lows.2.2)).trans h.sent, e, h.low, h.lows, h.off⟩
theorem WholeMem.cells (h : WholeMem w wr b bs bc L F S1 S2 C1 C2) :
    wr.cell? ⟨bs, 1, none⟩ = some (.string S1) ∧ wr.cell? ⟨bs, 2, none⟩ = some (.string S2) ∧ wr.cell? ⟨bc, 1, none⟩ = some (.string C1) ∧ wr.cell? ⟨bc, 2, none⟩ = some (.string C2) ∧
    wr.cell? ⟨bs, 0, none⟩ = some (.string ⟨#[]⟩) ∧ wr.cell? ⟨bc, 0, none⟩ = some (.string ⟨#[]⟩) ∧ (∀ i, wr.frozen? ⟨bs, i, none⟩ = false) ∧ (∀ i, wr.frozen? ⟨bc, i, none⟩ = false) := by
  refine ⟨?_, ?_, ?_, ?_, ?_, ?_, fun i => frozen_of_row wr bs i _ _ h.sent, fun i => frozen_of_row wr bc i _ _ h.came⟩
  · rw [cell_of_row wr bs 1 _ _ _ h.sent]; rfl
  · rw [cell_of_row wr bs 2 _ _ _ h.sent]; rfl
  · rw [cell_of_row wr bc 1 _ _ _ h.came]; rfl
  · rw [cell_of_row wr bc 2 _ _ _ h.came]; rfl
  · rw [cell_of_row wr bs 0 _ _ _ h.sent]; rfl
  · rw [cell_of_row wr bc 0 _ _ _ h.came]; rfl
end

theorem bytes_append_list (a b : ByteArray) : (a ++ b).data.toList = a.data.toList ++ b.data.toList := by simp

set_option maxRecDepth 100000 in
set_option maxHeartbeats 8000000 in
theorem link_whole (ao : Option Addr) (c : Nat) (l : List ActL) (_hlen : l.length ≤ 9223372036854775807) (w : World) (hA : ActsAt w ao l) :
    Calls Try.prog 6 #[.slice ao l.length c] w (Holds w) := by
  go_enter Try.func6, Try.ntmps6
  go_wp2_with fail
  refine (link_made _).mono ?_
  rintro r w1 ⟨rfl, L1, T1⟩
  have hsz1 := T1.chg.size
  have hl1 := L1.lt w.heap.size (by simp)
  go_wp2_with fail
  have hAL := (Chg.alloc [] w1 (three ⟨#[]⟩ ⟨#[]⟩)).trans (Chg.alloc [] _ (three ⟨#[]⟩ ⟨#[]⟩)) (by simp)
  go_loopw [2, 6] (fun v i wr => ∃ (k : Nat) (L : LinkS) (F : List Nat) (S1 S2 C1 C2 : ByteArray), v = .bool false ∧ i = .int .i64 k ∧ k ≤ l.length ∧ k ≤ 100 ∧ WholeMem w wr w.heap.size w1.heap.size (w1.heap.size + 1) L F S1 S2 C1 C2 ∧ WholeEq L S1 S2 C1 C2 k) (fun _ i _ => 100 - (intOf i).toNat)
  case atStart =>
    refine ⟨0, ⟨[], [], 0⟩, [w.heap.size], ⟨#[]⟩, ⟨#[]⟩, ⟨#[]⟩, ⟨#[]⟩, rfl, rfl, Nat.zero_le _, Nat.zero_le _, ⟨(L1.stay hAL).1, T1.chg.trans hAL (by simp), ?_, ?_, ?_, ?_, ?_⟩, ⟨rfl, rfl, ?_, ?_⟩⟩
    · exact (Below.heap_alloc _ _ _ (by simp)).trans (heap_alloc_new w1 _)
    · have := heap_alloc_new (w1.alloc (three ⟨#[]⟩ ⟨#[]⟩)) (three ⟨#[]⟩ ⟨#[]⟩)
      rw [World.size_alloc] at this
      exact this
    · intro k hk; simp at hk; omega
    · omega
    · constructor <;> (intro hm; simp at hm; omega)
    · simp
    · simp [ByteArray.size]
  clear hAL L1 T1 hl1
  case round =>
    obtain ⟨k, L, F, S1, S2, C1, C2, rfl, rfl, hk, hk2, I, E⟩ := hrel
    by_cases hlt : k < l.length ∧ k < 100
    · obtain ⟨hlt1, hlt2⟩ := hlt
      obtain ⟨x, hx⟩ : ∃ x, l[k]? = some x := ⟨l[k], by simp [hlt1]⟩
      obtain ⟨b0, o0, rfl, hcx⟩ := hA k x hx
      have hcx' := hcx.chg I.chg
      obtain ⟨what, dev, n, data⟩ := x
      obtain ⟨q1, q2, q3, q4, b1, b2, b3, b4⟩ := hcx'
      clear hcx hx hA
      dsimp only at *
      go_upto_region 7 with (fail)
      clear q1 q2 q3 q4
      have hnx := heap_alloc_new wr (Obj.cells #[.int .i64 what, .int .i64 dev, .int .i64 n, .string data] 29)
      have xf : wr.heap.size ∉ F := fun hm => Nat.lt_irrefl _ (I.link.lt _ hm)
      have hbs := lt_of_block I.sent
      have hbc := lt_of_block I.came
      have IX := I.chg0 (Chg.alloc [] wr (Obj.cells #[.int .i64 what, .int .i64 dev, .int .i64 n, .string data] 29))
      generalize hwx : wr.alloc (Obj.cells #[.int .i64 what, .int .i64 dev, .int .i64 n, .string data] 29) = wx at *
      clear hwx I
      have x0 : wx.cell? ⟨wr.heap.size, 0, none⟩ = some (.int .i64 what) := by rw [cell_of_row _ _ 0 _ _ _ hnx]; rfl
      have x1 : wx.cell? ⟨wr.heap.size, 1, none⟩ = some (.int .i64 dev) := by rw [cell_of_row _ _ 1 _ _ _ hnx]; rfl
      have x2 : wx.cell? ⟨wr.heap.size, 2, none⟩ = some (.int .i64 n) := by rw [cell_of_row _ _ 2 _ _ _ hnx]; rfl
      have x3 : wx.cell? ⟨wr.heap.size, 3, none⟩ = some (.string data) := by rw [cell_of_row _ _ 3 _ _ _ hnx]; rfl
      go_cut [8] (fun v w' => v = .string (cut2000 data) ∧ w' = wx)
      case first =>
        go_wp2_with fail
        all_goals go_meet
        case rel => exact ⟨rfl, rfl⟩
        case rel => exact ⟨by rw [cut2000_short (by omega)], rfl⟩
      case rest =>
      obtain ⟨rfl, rfl⟩ := hcut
      have hd2 := cut2000_size data
      generalize cut2000 data = D at *
      have hm : what.tmod 3 = 0 ∨ what.tmod 3 = 1 ∨ ((what.tmod 3 == 0) = false ∧ (what.tmod 3 == 1) = false) := by
        by_cases h0 : what.tmod 3 = 0
        · exact .inl h0
        · by_cases h1 : what.tmod 3 = 1
          · exact .inr (.inl h1)
          · exact .inr (.inr ⟨by simpa using h0, by simpa using h1⟩)
      rcases hm with hm | hm | ⟨hm0, hm1⟩
      · -- a send
        have hk3 : (dev = 1 ∧ L.s2.length + D.data.toList.length ≤ 262144) ∨ (dev = 2 ∧ L.s1.length + D.data.toList.length ≤ 262144) ∨ ∃ cde, L.send dev D.data.toList = (cde, L) ∧ (cde == 0) = false := by
          unfold LinkS.send
          by_cases h1 : dev = 1
          · by_cases h2 : L.s2.length + D.data.toList.length ≤ 262144
            · exact .inl ⟨h1, h2⟩
            · exact .inr (.inr ⟨7, by rw [if_pos h1, if_neg h2], rfl⟩)
          · by_cases h3 : dev = 2
            · by_cases h2 : L.s1.length + D.data.toList.length ≤ 262144
              · exact .inr (.inl ⟨h3, h2⟩)
              · exact .inr (.inr ⟨7, by rw [if_neg h1, if_pos h3, if_neg h2], rfl⟩)
            · exact .inr (.inr ⟨2, by rw [if_neg h1, if_neg h3], rfl⟩)
        have hdl : D.data.toList.length = D.size := rfl
        obtain ⟨ok1, ok2, ok3, ok4⟩ := E.ok
        rcases hk3 with ⟨hdv, hft⟩ | ⟨hdv, hft⟩ | ⟨cde, hse, hcd⟩
        · subst hdv
          go_wp2_with (refine wpList_bytes_of_str _ rfl 9 27 _ rfl 5 Try.underlying9 Try.underlying27 Try.underlying5 D rfl D.size rfl D.data.toList rfl ?_)
          intro g2 c2 w2 hc2 M2
          have I2 := IX.chg0 M2.chg
          have y1 := M2.chg.cell_some x1 (by simp)
          go_wp2_with fail
          refine (link_send_x _ _ _ 1 D.data.toList (0, ⟨L.s1, L.s2 ++ D.data.toList, L.e⟩) (by simp only [LinkS.send]; simp; omega) _ c2 D.size _ I2.link (by simp [LinkS.ok]; omega) M2.src (by simp) rfl).mono ?_
          rintro r w3 ⟨rfl, F3, L3, S3⟩
          have I3 := I2.step S3 L3
          have z1 := S3.chg.cell_some y1 xf
          obtain ⟨e1, e2, e3, e4, e5, e6, e7, e8⟩ := I3.cells
          have f7 := e7 2
          have hsz := E.len
          have I4 := (I3.chg0 (Chg.drewN [] _ 1)).setS 2 (S2 ++ D) (T1 := S1) (T2 := S2 ++ D) rfl
          have E4 : WholeEq ⟨L.s1, L.s2 ++ D.data.toList, L.e⟩ (S1) (S2 ++ D) C1 C2 (k + 1) := by
            obtain ⟨q1, q2, q3, q4⟩ := E
            refine ⟨?_, ?_, ?_, ?_⟩
            · simp [← q1]
            · simp [← q2]
            · simp; omega
            · simp; omega
          clear e7 e8 I2 I3 L3 S3 x1 y1 x0 x2 x3
          go_wp2_with fail
          go_region
          all_goals
            go_wp2_with fail
            go_roundw
            case rel => exact ⟨k + 1, _, F3, _, _, C1, C2, rfl, by go_num, by omega, by omega, I4, E4⟩
            case measure => simp [intOf]; omega
        · subst hdv
          go_wp2_with (refine wpList_bytes_of_str _ rfl 9 27 _ rfl 5 Try.underlying9 Try.underlying27 Try.underlying5 D rfl D.size rfl D.data.toList rfl ?_)
          intro g2 c2 w2 hc2 M2
          have I2 := IX.chg0 M2.chg
          have y1 := M2.chg.cell_some x1 (by simp)
          go_wp2_with fail
          refine (link_send_x _ _ _ 2 D.data.toList (0, ⟨L.s1 ++ D.data.toList, L.s2, L.e⟩) (by simp only [LinkS.send]; simp; omega) _ c2 D.size _ I2.link (by simp [LinkS.ok]; omega) M2.src (by simp) rfl).mono ?_
          rintro r w3 ⟨rfl, F3, L3, S3⟩
          have I3 := I2.step S3 L3
          have z1 := S3.chg.cell_some y1 xf
          obtain ⟨e1, e2, e3, e4, e5, e6, e7, e8⟩ := I3.cells
          have f7 := e7 1
          have hsz := E.len
          have I4 := (I3.chg0 (Chg.drewN [] _ 1)).setS 1 (S1 ++ D) (T1 := S1 ++ D) (T2 := S2) rfl
          have E4 : WholeEq ⟨L.s1 ++ D.data.toList, L.s2, L.e⟩ (S1 ++ D) (S2) C1 C2 (k + 1) := by
            obtain ⟨q1, q2, q3, q4⟩ := E
            refine ⟨?_, ?_, ?_, ?_⟩
            · simp [← q1]
            · simp [← q2]
            · simp; omega
            · simp; omega
          clear e7 e8 I2 I3 L3 S3 x1 y1 x0 x2 x3
          go_wp2_with fail
          go_region
          all_goals
            go_wp2_with fail
            go_roundw
            case rel => exact ⟨k + 1, _, F3, _, _, C1, C2, rfl, by go_num, by omega, by omega, I4, E4⟩
            case measure => simp [intOf]; omega
        · have HSE := Lib.hid hse
          clear hse
          go_wp2_with (refine wpList_bytes_of_str _ rfl 9 27 _ rfl 5 Try.underlying9 Try.underlying27 Try.underlying5 D rfl D.size rfl D.data.toList rfl ?_)
          intro g2 c2 w2 hc2 M2
          have I2 := IX.chg0 M2.chg
          have y1 := M2.chg.cell_some x1 (by simp)
          go_wp2_with fail
          refine (link_send_x _ _ _ dev D.data.toList (cde, L) HSE.out _ c2 D.size _ I2.link (by simp [LinkS.ok]; omega) M2.src (by simp) rfl).mono ?_
          rintro r w3 ⟨rfl, F3, L3, S3⟩
          have I3 := I2.step S3 L3
          go_wp2_with fail
          go_roundw
          case rel => exact ⟨k + 1, L, F3, S1, S2, C1, C2, rfl, by go_num, by omega, by omega, I3, ⟨E.eq1, E.eq2, by omega, by have := E.len; omega⟩⟩
          case measure => simp [intOf]; omega
      · -- a delivery
        have hk3 : (dev = 1 ∧ 0 ≤ n) ∨ (dev = 2 ∧ 0 ≤ n) ∨ ∃ cde, L.deliver dev n = (([], cde), L) ∧ (cde == 0) = false := by
          unfold LinkS.deliver
          by_cases h0 : 0 ≤ n
          · by_cases h1 : dev = 1
            · exact .inl ⟨h1, h0⟩
            · by_cases h3 : dev = 2
              · exact .inr (.inl ⟨h3, h0⟩)
              · exact .inr (.inr ⟨2, by rw [if_neg (by simp [h1]), if_neg (by simp [h3])], rfl⟩)
          · exact .inr (.inr ⟨2, by rw [if_neg (by simp [h0]), if_neg (by simp [h0])], rfl⟩)
        obtain ⟨ok1, ok2, ok3, ok4⟩ := E.ok
        rcases hk3 with ⟨hdv, hn0⟩ | ⟨hdv, hn0⟩ | ⟨cde, hse, hcd⟩
        · subst hdv
          go_wp2_with fail
          refine (link_deliver_x _ _ _ 1 n ((L.s1.take n.toNat, 0), ⟨L.s1.drop n.toNat, L.s2, L.e⟩) (by simp [LinkS.deliver, hn0]) b3.2 _ IX.link (by simp [LinkS.ok]; omega)).mono ?_
          rintro r w3 ⟨a3, n3, c3, F3, rfl, hn3, hc3, own3, L3, S3, new3⟩
          have HN := Lib.hid hn3
          clear hn3
          have I3 := IX.step S3 L3
          have z1 := S3.chg.cell_some x1 xf
          obtain ⟨e1, e2, e3, e4, e5, e6, e7, e8⟩ := I3.cells
          have f8 := e8 1
          obtain ⟨R, hR⟩ : ∃ R : ByteArray, R.data.toList = L.s1.take n.toNat := ⟨⟨(L.s1.take n.toNat).toArray⟩, by simp⟩
          have hcv := run_str_of_bytes (P := Try.prog) w3.drew 27 9 5 Try.underlying27 Try.underlying5 Try.underlying9 a3 n3 c3 R.data.toList (by rw [hR]; exact HN.out.symm) (by rw [hR]; exact (ownsRow_src own3).chg (Chg.drewN [] _ 1) (by simp))
          have hRa : (⟨R.data.toList.toArray⟩ : ByteArray) = R := by cases R; simp
          rw [hRa] at hcv
          have I4 := (I3.setC 1 (C1 ++ R) (T1 := C1 ++ R) (T2 := C2) rfl).chg0 (Chg.drewN [] _ 1)
          have E4 : WholeEq ⟨L.s1.drop n.toNat, L.s2, L.e⟩ S1 S2 (C1 ++ R) (C2) (k + 1) := by
            obtain ⟨q1, q2, q3, q4⟩ := E
            refine ⟨?_, ?_, ?_, ?_⟩
            · simp [← q1, hR]
            · simp [← q2]
            · simp; omega
            · omega
          have hszc : C1.size ≤ 2000 * k := by
            obtain ⟨q1, q2, q3, q4⟩ := E
            have h1 := congrArg List.length q1
            have h2 : C1.data.toList.length = C1.size := rfl
            have h3 : S1.data.toList.length = S1.size := rfl
            rw [List.length_append] at h1
            omega
          have hszr : R.size ≤ 262144 := by
            have h1 := congrArg List.length hR
            have h2 : R.data.toList.length = R.size := rfl
            simp only [List.length_take] at h1
            omega
          clear e7 e8 I3 L3 S3 x1 x0 x2 x3 hR hRa own3 new3
          go_wp2_with fail
          go_region
          all_goals
            go_wp2_with fail
            go_roundw
            case rel => exact ⟨k + 1, _, F3, S1, S2, _, _, rfl, by go_num, by omega, by omega, I4, E4⟩
            case measure => simp [intOf]; omega
        · subst hdv
          go_wp2_with fail
          refine (link_deliver_x _ _ _ 2 n ((L.s2.take n.toNat, 0), ⟨L.s1, L.s2.drop n.toNat, L.e⟩) (by simp [LinkS.deliver, hn0]) b3.2 _ IX.link (by simp [LinkS.ok]; omega)).mono ?_
          rintro r w3 ⟨a3, n3, c3, F3, rfl, hn3, hc3, own3, L3, S3, new3⟩
          have HN := Lib.hid hn3
          clear hn3
          have I3 := IX.step S3 L3
          have z1 := S3.chg.cell_some x1 xf
          obtain ⟨e1, e2, e3, e4, e5, e6, e7, e8⟩ := I3.cells
          have f8 := e8 2
          obtain ⟨R, hR⟩ : ∃ R : ByteArray, R.data.toList = L.s2.take n.toNat := ⟨⟨(L.s2.take n.toNat).toArray⟩, by simp⟩
          have hcv := run_str_of_bytes (P := Try.prog) w3.drew 27 9 5 Try.underlying27 Try.underlying5 Try.underlying9 a3 n3 c3 R.data.toList (by rw [hR]; exact HN.out.symm) (by rw [hR]; exact (ownsRow_src own3).chg (Chg.drewN [] _ 1) (by simp))
          have hRa : (⟨R.data.toList.toArray⟩ : ByteArray) = R := by cases R; simp
          rw [hRa] at hcv
          have I4 := (I3.setC 2 (C2 ++ R) (T1 := C1) (T2 := C2 ++ R) rfl).chg0 (Chg.drewN [] _ 1)
          have E4 : WholeEq ⟨L.s1, L.s2.drop n.toNat, L.e⟩ S1 S2 (C1) (C2 ++ R) (k + 1) := by
            obtain ⟨q1, q2, q3, q4⟩ := E
            refine ⟨?_, ?_, ?_, ?_⟩
            · simp [← q1]
            · simp [← q2, hR]
            · simp; omega
            · omega
          have hszc : C2.size ≤ 2000 * k := by
            obtain ⟨q1, q2, q3, q4⟩ := E
            have h1 := congrArg List.length q2
            have h2 : C2.data.toList.length = C2.size := rfl
            have h3 : S2.data.toList.length = S2.size := rfl
            rw [List.length_append] at h1
            omega
          have hszr : R.size ≤ 262144 := by
            have h1 := congrArg List.length hR
            have h2 : R.data.toList.length = R.size := rfl
            simp only [List.length_take] at h1
            omega
          clear e7 e8 I3 L3 S3 x1 x0 x2 x3 hR hRa own3 new3
          go_wp2_with fail
          go_region
          all_goals
            go_wp2_with fail
            go_roundw
            case rel => exact ⟨k + 1, _, F3, S1, S2, _, _, rfl, by go_num, by omega, by omega, I4, E4⟩
            case measure => simp [intOf]; omega
        · have HSE := Lib.hid hse
          clear hse
          go_wp2_with fail
          refine (link_deliver_x _ _ _ dev n (([], cde), L) HSE.out b3.2 _ IX.link (by simp [LinkS.ok]; omega)).mono ?_
          rintro r w3 ⟨a3, n3, c3, F3, rfl, hn3, hc3, own3, L3, S3, new3⟩
          have I3 := IX.step S3 L3
          clear hn3
          go_wp2_with fail
          go_roundw
          case rel => exact ⟨k + 1, L, F3, S1, S2, C1, C2, rfl, by go_num, by omega, by omega, I3, ⟨E.eq1, E.eq2, by omega, by have := E.len; omega⟩⟩
          case measure => simp [intOf]; omega
      · -- a reset
        obtain ⟨ok1, ok2, ok3, ok4⟩ := E.ok
        go_wp2_with fail
        refine (link_reset _ _ _ _ IX.link ok3 (by omega)).mono ?_
        rintro r w3 ⟨rfl, L3, S3⟩
        have I3 := IX.step S3 L3
        obtain ⟨e1, e2, e3, e4, e5, e6, e7, e8⟩ := I3.cells
        have f70 := e7 0
        have f71 := e7 1
        have f72 := e7 2
        have f80 := e8 0
        have f81 := e8 1
        have f82 := e8 2
        have J := ((((((I3.setS 0 ⟨#[]⟩ rfl).setS 1 ⟨#[]⟩ rfl).setS 2 ⟨#[]⟩ rfl).setC 0 ⟨#[]⟩ rfl).setC 1 ⟨#[]⟩ rfl).setC 2 ⟨#[]⟩ rfl)
        clear e7 e8 I3 L3 S3 x1 x0 x2 x3
        go_wp2_with fail
        go_roundw
        case rel => exact ⟨k + 1, _, _, _, _, _, _, rfl, by go_num, by omega, by omega, J, ⟨rfl, rfl, by simp; omega, by simp [ByteArray.size]⟩⟩
        case measure => simp [intOf]; omega
    · obtain ⟨ok1, ok2, ok3, ok4⟩ := E.ok
      go_wp2_with fail
      all_goals
        refine (link_copy _ _ _ _ I.link ok1 ok2).mono ?_
        rintro r w7 ⟨b7, G7, rfl, C7, D7⟩
        have T7 := I.chg.trans D7.chg (by simp)
        have hbs7 := (D7.chg.block _ (lt_of_block I.sent) (by simp)).trans I.sent
        have hbc7 := (D7.chg.block _ (lt_of_block I.came) (by simp)).trans I.came
        have L7 := (I.link.stay D7.chg).1
        have W7 := T7
        have low7 := I.low
        have ofs7 := I.off
        have h7 : ∀ k ∈ G7, w7.heap.size = w7.heap.size ∧ wr.heap.size ≤ k := fun k hk => by
          have h1 := (D7.foot k hk).1
          simp at h1
          exact ⟨rfl, h1⟩
        have lowg7 : ∀ k ∈ G7, w.heap.size ≤ k := fun k hk => Nat.le_trans I.chg.size (h7 k hk).2
        have ogs7 : w1.heap.size ∉ G7 ∧ w1.heap.size + 1 ∉ G7 := ⟨fun hm => by have := (h7 _ hm).2; have := lt_of_block I.sent; omega, fun hm => by have := (h7 _ hm).2; have := lt_of_block I.came; omega⟩
        have dj7 : ∀ k ∈ G7, k ∉ F := fun k hk hm => by
          have := (h7 k hk).2
          have := I.link.lt k hm
          omega
        go_wp2_with fail
        refine wp_loop_rounds 3 ?_
        rw [rounds_succ]
        go_wp2_with fail
        refine (link_deliver_x _ _ _ 1 1073741824 ((L.s1, 0), ⟨[], L.s2, L.e⟩) (deliver_all1 _ _ _ 1073741824 (by omega)) (by decide) _ L7 (by simp [LinkS.ok]; omega)).mono ?_
        rintro r w8 ⟨a8, n8, c8, F8, rfl, hn8, hc8, own8, LL8, SS8, new8⟩
        have HN8 := Lib.hid hn8
        clear hn8
        have CC8 := C7.chg SS8.chg dj7
        have dj8 := SS8.apart dj7 C7.lt
        have K8 : Keep w8 G7 a8 (bvs (L.s1)) := ⟨ownsRow_src own8, fun a ha => ⟨fun hm => by
          have h1 := new8 a ha
          have h2 := C7.lt _ hm
          omega, (new8 a ha).2.2⟩⟩
        have hbs8 := (SS8.chg.block _ (lt_of_block hbs7) ofs7.1).trans hbs7
        have hbc8 := (SS8.chg.block _ (lt_of_block hbc7) ofs7.2).trans hbc7
        have ofs8 : w1.heap.size ∉ F8 ∧ w1.heap.size + 1 ∉ F8 := by
          refine ⟨fun hm => ?_, fun hm => ?_⟩
          · rcases (SS8.foot _ hm).1 with h | h
            · exact ofs7.1 h
            · have := lt_of_block hbs7; omega
          · rcases (SS8.foot _ hm).1 with h | h
            · exact ofs7.2 h
            · have := lt_of_block hbc7; omega
        have W8 := W7.trans SS8.chg (fun k hk => .inr (low7 k hk))
        have low8 : ∀ k ∈ F8, w.heap.size ≤ k := fun k hk => by
          rcases (SS8.foot k hk).1 with h | h
          · exact low7 k h
          · have := W7.size; omega
        go_wp2_with fail
        refine (link_deliver_x _ _ _ 1 1073741824 ((L.s1, 0), ⟨[], L.s2, L.e⟩) (deliver_all1 _ _ _ 1073741824 (by omega)) (by decide) _ CC8 (by simp [LinkS.ok]; omega)).mono ?_
        rintro r w9 ⟨a9, n9, c9, G9, rfl, hn9, hc9, own9, CC9, SS9, new9⟩
        have HN9 := Lib.hid hn9
        clear hn9
        have LL9 := LL8.chg SS9.chg (apart_symm dj8)
        have dj9 : ∀ k ∈ G9, k ∉ F8 := apart_symm (SS9.apart (apart_symm dj8) LL8.lt)
        have s9 := (K8.step SS9).src
        have hbs9 := (SS9.chg.block _ (lt_of_block hbs8) ogs7.1).trans hbs8
        have hbc9 := (SS9.chg.block _ (lt_of_block hbc8) ogs7.2).trans hbc8
        have ogs9 : w1.heap.size ∉ G9 ∧ w1.heap.size + 1 ∉ G9 := by
          refine ⟨fun hm => ?_, fun hm => ?_⟩
          · rcases (SS9.foot _ hm).1 with h | h
            · exact ogs7.1 h
            · have := lt_of_block hbs8; omega
          · rcases (SS9.foot _ hm).1 with h | h
            · exact ogs7.2 h
            · have := lt_of_block hbc8; omega
        have ofs9 := ofs8
        have low9 := low8
        have W9 := W8.trans SS9.chg (fun k hk => .inr (lowg7 k hk))
        have lowg9 : ∀ k ∈ G9, w.heap.size ≤ k := fun k hk => by
          rcases (SS9.foot k hk).1 with h | h
          · exact lowg7 k h
          · have := W8.size; omega
        have gs9 : w9.cell? ⟨w1.heap.size, 1, none⟩ = some (.string S1) := by rw [cell_of_row _ _ 1 _ _ _ hbs9]; rfl
        have gc9 : w9.cell? ⟨w1.heap.size + 1, 1, none⟩ = some (.string C1) := by rw [cell_of_row _ _ 1 _ _ _ hbc9]; rfl
        obtain ⟨R9, hR9⟩ : ∃ R : ByteArray, R.data.toList = L.s1 := ⟨⟨(L.s1).toArray⟩, by simp⟩
        have hRa9 : (⟨R9.data.toList.toArray⟩ : ByteArray) = R9 := by cases R9; simp
        have hv1 : ∀ q, (convert 27 9 (.slice a8 n8 c8)).run Try.prog (w9.drewN q) = .ok (.string R9) (w9.drewN q) := fun q => by
          have := run_str_of_bytes (P := Try.prog) (w9.drewN q) 27 9 5 Try.underlying27 Try.underlying5 Try.underlying9 a8 n8 c8 R9.data.toList (by rw [hR9]; exact HN8.out.symm) (by rw [hR9]; exact s9.chg (Chg.drewN [] _ _) (by simp))
          rw [hRa9] at this
          exact this
        have hv2 : ∀ q, (convert 27 9 (.slice a9 n9 c9)).run Try.prog (w9.drewN q) = .ok (.string R9) (w9.drewN q) := fun q => by
          have := run_str_of_bytes (P := Try.prog) (w9.drewN q) 27 9 5 Try.underlying27 Try.underlying5 Try.underlying9 a9 n9 c9 R9.data.toList (by rw [hR9]; exact HN9.out.symm) (by rw [hR9]; exact (ownsRow_src own9).chg (Chg.drewN [] _ _) (by simp))
          rw [hRa9] at this
          exact this
        have hadd : C1 ++ R9 = S1 := by
          apply ByteArray.ext
          apply Array.toList_inj.1
          rw [bytes_append_list, hR9]
          exact E.eq1
        have hz1 : C1.size + R9.size ≤ 9223372036854775807 := by
          have h1 := congrArg ByteArray.size hadd
          rw [ByteArray.size_append] at h1
          have := E.len
          omega
        clear own8 own9 new8 new9 hR9 hRa9
        go_wp2_with fail
        go_quiet ((go_at_call 12; exact Calls.quiet_of_same ((link_left _ _ _ 1 _ (LL9.stay (Chg.drewN [] _ _)).1).mono (fun r w' ⟨h, g⟩ => ⟨h, g.symm⟩))))
        have W9 := W9.trans (Chg.drewN [] _ nq) (by simp)
        have LL9 := (LL9.stay (Chg.drewN [] _ nq)).1
        have CC9 := (CC9.stay (Chg.drewN [] _ nq)).1
        have hbs9 : (w9.drewN nq).heap[w1.heap.size]? = _ := hbs9
        have hbc9 : (w9.drewN nq).heap[w1.heap.size + 1]? = _ := hbc9
        clear hv1 hv2 hadd gs9 gc9
        go_wp2_with fail
        rw [rounds_succ]
        go_wp2_with fail
        refine (link_deliver_x _ _ _ 2 1073741824 ((L.s2, 0), ⟨[], [], L.e⟩) (deliver_all2 _ _ _ 1073741824 (by omega)) (by decide) _ LL9 (by simp [LinkS.ok]; omega)).mono ?_
        rintro r w10 ⟨a10, n10, c10, F10, rfl, hn10, hc10, own10, LL10, SS10, new10⟩
        have HN10 := Lib.hid hn10
        clear hn10
        have CC10 := CC9.chg SS10.chg dj9
        have dj10 := SS10.apart dj9 CC9.lt
        have K10 : Keep w10 G9 a10 (bvs (L.s2)) := ⟨ownsRow_src own10, fun a ha => ⟨fun hm => by
          have h1 := new10 a ha
          have h2 := CC9.lt _ hm
          omega, (new10 a ha).2.2⟩⟩
        have hbs10 := (SS10.chg.block _ (lt_of_block hbs9) ofs9.1).trans hbs9
        have hbc10 := (SS10.chg.block _ (lt_of_block hbc9) ofs9.2).trans hbc9
        have ofs10 : w1.heap.size ∉ F10 ∧ w1.heap.size + 1 ∉ F10 := by
          refine ⟨fun hm => ?_, fun hm => ?_⟩
          · rcases (SS10.foot _ hm).1 with h | h
            · exact ofs9.1 h
            · have := lt_of_block hbs9; omega
          · rcases (SS10.foot _ hm).1 with h | h
            · exact ofs9.2 h
            · have := lt_of_block hbc9; omega
        have W10 := W9.trans SS10.chg (fun k hk => .inr (low9 k hk))
        have low10 : ∀ k ∈ F10, w.heap.size ≤ k := fun k hk => by
          rcases (SS10.foot k hk).1 with h | h
          · exact low9 k h
          · have := W9.size; omega
        go_wp2_with fail
        refine (link_deliver_x _ _ _ 2 1073741824 ((L.s2, 0), ⟨[], [], L.e⟩) (deliver_all2 _ _ _ 1073741824 (by omega)) (by decide) _ CC10 (by simp [LinkS.ok]; omega)).mono ?_
        rintro r w11 ⟨a11, n11, c11, G11, rfl, hn11, hc11, own11, CC11, SS11, new11⟩
        have HN11 := Lib.hid hn11
        clear hn11
        have LL11 := LL10.chg SS11.chg (apart_symm dj10)
        have dj11 : ∀ k ∈ G11, k ∉ F10 := apart_symm (SS11.apart (apart_symm dj10) LL10.lt)
        have s11 := (K10.step SS11).src
        have hbs11 := (SS11.chg.block _ (lt_of_block hbs10) ogs9.1).trans hbs10
        have hbc11 := (SS11.chg.block _ (lt_of_block hbc10) ogs9.2).trans hbc10
        have ogs11 : w1.heap.size ∉ G11 ∧ w1.heap.size + 1 ∉ G11 := by
          refine ⟨fun hm => ?_, fun hm => ?_⟩
          · rcases (SS11.foot _ hm).1 with h | h
            · exact ogs9.1 h
            · have := lt_of_block hbs10; omega
          · rcases (SS11.foot _ hm).1 with h | h
            · exact ogs9.2 h
            · have := lt_of_block hbc10; omega
        have ofs11 := ofs10
        have low11 := low10
        have W11 := W10.trans SS11.chg (fun k hk => .inr (lowg9 k hk))
        have lowg11 : ∀ k ∈ G11, w.heap.size ≤ k := fun k hk => by
          rcases (SS11.foot k hk).1 with h | h
          · exact lowg9 k h
          · have := W10.size; omega
        have gs11 : w11.cell? ⟨w1.heap.size, 2, none⟩ = some (.string S2) := by rw [cell_of_row _ _ 2 _ _ _ hbs11]; rfl
        have gc11 : w11.cell? ⟨w1.heap.size + 1, 2, none⟩ = some (.string C2) := by rw [cell_of_row _ _ 2 _ _ _ hbc11]; rfl
        obtain ⟨R11, hR11⟩ : ∃ R : ByteArray, R.data.toList = L.s2 := ⟨⟨(L.s2).toArray⟩, by simp⟩
        have hRa11 : (⟨R11.data.toList.toArray⟩ : ByteArray) = R11 := by cases R11; simp
        have hv1 : ∀ q, (convert 27 9 (.slice a10 n10 c10)).run Try.prog (w11.drewN q) = .ok (.string R11) (w11.drewN q) := fun q => by
          have := run_str_of_bytes (P := Try.prog) (w11.drewN q) 27 9 5 Try.underlying27 Try.underlying5 Try.underlying9 a10 n10 c10 R11.data.toList (by rw [hR11]; exact HN10.out.symm) (by rw [hR11]; exact s11.chg (Chg.drewN [] _ _) (by simp))
          rw [hRa11] at this
          exact this
        have hv2 : ∀ q, (convert 27 9 (.slice a11 n11 c11)).run Try.prog (w11.drewN q) = .ok (.string R11) (w11.drewN q) := fun q => by
          have := run_str_of_bytes (P := Try.prog) (w11.drewN q) 27 9 5 Try.underlying27 Try.underlying5 Try.underlying9 a11 n11 c11 R11.data.toList (by rw [hR11]; exact HN11.out.symm) (by rw [hR11]; exact (ownsRow_src own11).chg (Chg.drewN [] _ _) (by simp))
          rw [hRa11] at this
          exact this
        have hadd : C2 ++ R11 = S2 := by
          apply ByteArray.ext
          apply Array.toList_inj.1
          rw [bytes_append_list, hR11]
          exact E.eq2
        have hz1 : C2.size + R11.size ≤ 9223372036854775807 := by
          have h1 := congrArg ByteArray.size hadd
          rw [ByteArray.size_append] at h1
          have := E.len
          omega
        clear own10 own11 new10 new11 hR11 hRa11
        go_wp2_with fail
        go_quiet ((go_at_call 12; exact Calls.quiet_of_same ((link_left _ _ _ 2 _ (LL11.stay (Chg.drewN [] _ _)).1).mono (fun r w' ⟨h, g⟩ => ⟨h, g.symm⟩))))
        have W11 := W11.trans (Chg.drewN [] _ nq) (by simp)
        have LL11 := (LL11.stay (Chg.drewN [] _ nq)).1
        have CC11 := (CC11.stay (Chg.drewN [] _ nq)).1
        have hbs11 : (w11.drewN nq).heap[w1.heap.size]? = _ := hbs11
        have hbc11 : (w11.drewN nq).heap[w1.heap.size + 1]? = _ := hbc11
        clear hv1 hv2 hadd gs11 gc11
        go_wp2_with fail
        rw [rounds_succ]
        go_wp2_with fail
        refine (link_works _).mono ?_
        rintro r wz ⟨rfl, Vz⟩
        go_wp2_with fail
        go_ret
        exact ⟨rfl, W11.trans Vz (by simp)⟩
end Go.Proofs.Ytehhnoanbdjgbaa
