/- One call of a link and of its reference, side by side. No conditions beyond those that each statement types. -/
import Derived.Test.YtehhnoanbdjgbaaLinkRef
import Derived.Test.YtehhnoanbdjgbaaLinkH
import Derived.Test.YtehhnoanbdjgbaaLinkI
namespace Go.Proofs.Ytehhnoanbdjgbaa
open Go.RowKit

theorem chg_alloc' {S : List Nat} {a b : World} {o : Obj} (h : Chg S a b) : Chg S a (b.alloc o) := h.trans (Chg.alloc [] _ _) (by simp)
theorem chg_drew' {S : List Nat} {a b : World} (h : Chg S a b) : Chg S a b.drew := h.trans (Chg.drewN [] _ 1) (by simp)
theorem chg_drewN' {S : List Nat} {a b : World} {n : Nat} (h : Chg S a b) : Chg S a (b.drewN n) := h.trans (Chg.drewN [] _ n) (by simp)

/-- A link and its reference, of one state, apart. -/
structure Pair (w : World) (b q : Nat) (L : LinkS) (F G : List Nat) : Prop where
  link : LinkAt w b L F
  ref : RefAt w q L G
  off : ∀ k ∈ G, k ∉ F
  ok : L.ok
theorem Pair.chg0 {w w' : World} {b q : Nat} {L : LinkS} {F G : List Nat} (h : Pair w b q L F G) (c : Chg [] w w') : Pair w' b q L F G := ⟨h.link.chg c (by simp), h.ref.chg c (by simp), h.off, h.ok⟩
/-- A step of the link, then one of the reference. -/
theorem Pair.both {w w1 w2 : World} {b q : Nat} {L L' : LinkS} {F G F' G' : List Nat} (h : Pair w b q L F G) (s : Step F F' w w1) (hl : LinkAt w1 b L' F') (t : Step G G' w1 w2) (hr : RefAt w2 q L' G') (hok : L'.ok) :
    Pair w2 b q L' F' G' ∧ Step (F ++ G) (F' ++ G') w w2 := by
  have d1 := s.apart h.off h.ref.lt
  have d2 := t.apart (apart_symm d1) hl.lt
  refine ⟨⟨hl.chg t.chg (apart_symm d1), hr, apart_symm d2, hok⟩, ⟨(s.chg.mono (by simp_all)).trans t.chg (fun k hk => .inl (by simp [hk])), fun k hk => ?_⟩⟩
  simp only [List.mem_append] at hk ⊢
  rcases hk with hk | hk
  · have h1 := s.foot k hk
    refine ⟨?_, Nat.lt_of_lt_of_le h1.2 t.chg.size⟩
    rcases h1.1 with h2 | h2
    · exact .inl (.inl h2)
    · exact .inr h2
  · have h1 := t.foot k hk
    refine ⟨?_, h1.2⟩
    rcases h1.1 with h2 | h2
    · exact .inl (.inr h2)
    · exact .inr (Nat.le_trans s.chg.size h2)

/-- Bytes that may be written. -/
def Writable (w : World) (g n : Nat) : Prop := ∀ j, j < n → (∃ x : UInt8, w.cell? ⟨g, j, none⟩ = some (bv x)) ∧ w.frozen? ⟨g, j, none⟩ = false

/-- What one call leaves. -/
def Oned (w : World) (b q : Nat) (F G : List Nat) (e : Int) (r : Ending) (w' : World) : Prop :=
  r = .returned (.bool true) ∧ ∃ L' F' G', Pair w' b q L' F' G' ∧ Step (F ++ G) (F' ++ G') w w' ∧ L'.e ≤ e + 1

/-- What stands between the two calls and the writing over what was handed in. -/
def Between (w w' : World) (b q : Nat) (F G : List Nat) (L' : LinkS) (g n : Nat) : Prop :=
  ∃ F' G', Pair w' b q L' F' G' ∧ Step (F ++ G) (F' ++ G') w w' ∧ Writable w' g n ∧ g ∉ F' ∧ g ∉ G'

theorem Writable.of_src {w : World} {g : Nat} {d : List UInt8} (h : Src w (some ⟨g, 0, none⟩) (bvs d)) (hf : ∀ j, j < d.length → w.frozen? ⟨g, j, none⟩ = false) : Writable w g d.length := by
  intro j hj
  refine ⟨⟨d[j], ?_⟩, hf j hj⟩
  have h1 := h.cell _ rfl j (bv d[j]) (by simp [bvs, hj])
  rwa [show (⟨g, 0, none⟩ : Addr).add j = ⟨g, j, none⟩ from by unfold Addr.add; split <;> simp_all] at h1
theorem Writable.set {w : World} {g n j : Nat} (h : Writable w g n) (hj : j < n) (x : UInt8) : Writable (w.setCell ⟨g, j, none⟩ (bv x)) g n := by
  intro i hi
  obtain ⟨⟨y, hy⟩, hf⟩ := h i hi
  refine ⟨?_, by simpa using hf⟩
  by_cases hij : i = j
  · subst hij
    exact ⟨x, World.cell?_setCell_same _ _ _ hy⟩
  · exact ⟨y, by rw [World.cell?_setCell_other _ _ _ _ (fun h => hij (congrArg Addr.off h).symm)]; exact hy⟩

theorem flip_byte (y : UInt8) : ∃ z : UInt8, (z.toNat : Int) = 255 - (y.toNat : Int) :=
  ⟨UInt8.ofNat (255 - y.toNat), by have := y.toNat_lt; rw [UInt8.toNat_ofNat_of_lt' (by show _ < 256; omega)]; omega⟩

set_option maxRecDepth 100000 in
set_option maxHeartbeats 8000000 in
theorem one_send (b q : Nat) (L : LinkS) (F G : List Nat) (what dev n : Int) (data : ByteArray) (w : World) (P : Pair w b q L F G) (hm : what.tmod 3 = 0)
    (h1 : -9223372036854775808 ≤ what ∧ what ≤ 9223372036854775807) (_h2 : -9223372036854775808 ≤ dev ∧ dev ≤ 9223372036854775807) (h4 : data.size ≤ 9223372036854775807) :
    Calls Try.prog 14 #[.pointer (some ⟨b, 0, none⟩), .pointer (some ⟨q, 0, none⟩), .agg #[.int .i64 what, .int .i64 dev, .int .i64 n, .string data]] w (Oned w b q F G L.e) := by
  obtain ⟨h11, h12⟩ := h1
  go_enter Try.func14, Try.ntmps14
  go_upto_region 3 with (fail)
  have hnx := heap_alloc_new w (Obj.cells #[.int .i64 what, .int .i64 dev, .int .i64 n, .string data] 29)
  have xF : w.heap.size ∉ F := fun hm => Nat.lt_irrefl _ (P.link.lt _ hm)
  have xG : w.heap.size ∉ G := fun hm => Nat.lt_irrefl _ (P.ref.lt _ hm)
  have C1 := Chg.alloc [] w (Obj.cells #[.int .i64 what, .int .i64 dev, .int .i64 n, .string data] 29)
  have hs1 : (w.alloc (Obj.cells #[.int .i64 what, .int .i64 dev, .int .i64 n, .string data] 29)).heap.size = w.heap.size + 1 := by simp
  generalize hw1 : w.alloc (Obj.cells #[.int .i64 what, .int .i64 dev, .int .i64 n, .string data] 29) = w1 at *
  have P1 := P.chg0 C1
  have x1 : w1.cell? ⟨w.heap.size, 1, none⟩ = some (.int .i64 dev) := by rw [cell_of_row _ _ 1 _ _ _ hnx]; rfl
  have x3 : w1.cell? ⟨w.heap.size, 3, none⟩ = some (.string data) := by rw [cell_of_row _ _ 3 _ _ _ hnx]; rfl
  go_cut [7] (fun v w' => ∃ g c, v = .slice (some ⟨g, 0, none⟩) (cut2000 data).size c ∧ MadeBytes w1 g (cut2000 data).data.toList w')
  case first =>
    by_cases hd : data.size ≤ 2000
    · have hdi : (data.size : Int) ≤ 2000 := by omega
      have hdn : ¬ (2000 < (data.size : Int)) := by omega
      go_wp2_with (refine wpList_bytes_of_str _ rfl 9 27 _ rfl 5 Try.underlying9 Try.underlying27 Try.underlying5 data rfl data.size rfl data.data.toList rfl ?_)
      intro g2 c2 w2 hc2 M2
      go_wp2_with fail
      go_meet
      case rel => exact ⟨g2, c2, by rw [cut2000_short hd], by rw [cut2000_short hd]; exact M2⟩
    · have hdi : 2000 < (data.size : Int) := by omega
      have hdn : 2000 ≤ (data.size : Int) := by omega
      obtain ⟨D, hDe⟩ : ∃ D, data.extract 0 2000 = D := ⟨_, rfl⟩
      go_wp2_with (refine wpList_bytes_of_str _ rfl 9 27 _ rfl 5 Try.underlying9 Try.underlying27 Try.underlying5 D rfl D.size rfl D.data.toList rfl ?_)
      intro g2 c2 w2 hc2 M2
      go_wp2_with fail
      go_meet
      case rel => exact ⟨g2, c2, by unfold cut2000; rw [hDe], by unfold cut2000; rw [hDe]; exact M2⟩
  case rest =>
  obtain ⟨g, c, rfl, M⟩ := hcut
  clear hw1
  have hD2 := cut2000_size data
  generalize cut2000 data = D at *
  have P2 := P1.chg0 M.chg
  have y1 := M.chg.cell_some x1 (by simp)
  have hsc := M.size
  have hnew := M.new
  have gF : g ∉ F := fun hm => by have := P1.link.lt _ hm; omega
  have gG : g ∉ G := fun hm => by have := P1.ref.lt _ hm; omega
  have nF : wc.heap.size ∉ F := fun hm => Nat.lt_irrefl _ (P2.link.lt _ hm)
  obtain ⟨x, hx⟩ : ∃ x, L.send dev D.data.toList = x := ⟨_, rfl⟩
  have HX := Lib.hid hx
  have hxok : x.2.ok := hx ▸ P2.ok.send dev D.data.toList
  have hxe : x.2.e = L.e := by
    rw [← hx]
    unfold LinkS.send
    split
    · split <;> rfl
    · split
      · split <;> rfl
      · rfl
  clear hx
  have hDa : (⟨D.data.toList.toArray⟩ : ByteArray) = D := by cases D; simp
  have hA := run_str_of_bytes (P := Try.prog) wc.drew 27 9 5 Try.underlying27 Try.underlying5 Try.underlying9 (some ⟨g, 0, none⟩) D.size c D.data.toList rfl (M.src.chg (Chg.drewN [] _ 1) (by simp))
  rw [hDa] at hA
  have hB := run_bytes_of_string (P := Try.prog) wc.drew 9 27 5 D Try.underlying9 Try.underlying27 Try.underlying5
  have MB := madeBytes_row wc.drew 5 D
  have hbx : w.heap.size < wc.heap.size := by omega
  have hlD : D.size ≤ 9223372036854000000 := by omega
  have hwc : w1.heap.size ≤ wc.heap.size := M.chg.size
  have T2 : Step (F ++ G) (F ++ G) w wc := ⟨(C1.trans M.chg (by simp)).mono (by simp), fun k hk => ⟨.inl hk, by
    simp only [List.mem_append] at hk
    rcases hk with hk | hk
    · exact P2.link.lt k hk
    · exact P2.ref.lt k hk⟩⟩
  have hwg : w.heap.size ≤ g := by omega
  clear x1 x3 hnx hs1 hsc
  go_upto_region 4 with (fail)
  go_cut [8, 9] (fun v8 v9 w' => v8 = .int .i64 x.1 ∧ v9 = .int .i64 x.1 ∧ Between wc w' b q F G x.2 g D.size)
  case first =>
    go_region_law (first | (go_simp; go_at_call 10; refine (link_send_x b L F dev D.data.toList x HX.out _ _ _ _ (P2.link.stay (by repeat (first | exact Chg.refl _ _ | assumption | refine chg_alloc' ?_ | refine chg_drew' ?_ | refine chg_drewN' ?_))).1 P2.ok (M.src.chg (S := []) (by repeat (first | exact Chg.refl _ _ | assumption | refine chg_alloc' ?_ | refine chg_drew' ?_ | refine chg_drewN' ?_)) (by simp)) (by simp) rfl).mono ?_; rintro r w4 ⟨rfl, F4, L4, S4⟩; have Q4 : Step F F4 wc w4 := (P2.link.stay (by repeat (first | exact Chg.refl _ _ | assumption | refine chg_alloc' ?_ | refine chg_drew' ?_ | refine chg_drewN' ?_))).2.trans S4; have R4 : RefAt w4 q L G := P2.ref.chg Q4.chg P2.off; have z1 := Q4.chg.cell_some y1 xF; have O4 : Src w4 (some ⟨g, 0, none⟩) (bvs D.data.toList) := M.src.chg Q4.chg (by intro a ha; cases ha; exact gF); have hA4 := run_str_of_bytes (P := Try.prog) w4 27 9 5 Try.underlying27 Try.underlying5 Try.underlying9 (some ⟨g, 0, none⟩) D.size c D.data.toList rfl O4; rw [hDa] at hA4; have hB4 := run_bytes_of_string (P := Try.prog) w4 9 27 5 D Try.underlying9 Try.underlying27 Try.underlying5; have MB4 := madeBytes_row w4 5 D; have hsz4 : w.heap.size < w4.heap.size := (by have := Q4.chg.size; omega); first | (have MBs : Src w4 (some ⟨wc.heap.size, 0, none⟩) (bvs D.data.toList) := MB.src.chg S4.chg (by intro a ha; cases ha; exact nF)) | skip) | (go_simp; go_at_call 22; refine (ref_send_x q L G dev D.data.toList x HX.out _ _ _ _ (R4.stay (by repeat (first | exact Chg.refl _ _ | assumption | refine chg_alloc' ?_ | refine chg_drew' ?_ | refine chg_drewN' ?_))).1 P2.ok (by first | exact MB4.src | exact MBs.chg (S := []) (by repeat (first | exact Chg.refl _ _ | assumption | refine chg_alloc' ?_ | refine chg_drew' ?_ | refine chg_drewN' ?_)) (by simp)) (by simp) rfl hlD).mono ?_; rintro r w5 ⟨rfl, G5, R5, S5⟩; have Q5 : Step G G5 w4 w5 := (R4.stay (by repeat (first | exact Chg.refl _ _ | assumption | refine chg_alloc' ?_ | refine chg_drew' ?_ | refine chg_drewN' ?_))).2.trans S5))
    all_goals
      go_wp2_with fail
      go_meet
      case rel =>
        obtain ⟨J1, J2⟩ := P2.both Q4 L4 Q5 R5 hxok
        have gF4 : g ∉ F4 := fun hm => by
          rcases (Q4.foot _ hm).1 with h | h
          · exact gF h
          · omega
        have gG5 : g ∉ G5 := fun hm => by
          rcases (Q5.foot _ hm).1 with h | h
          · exact gG h
          · have := Q4.chg.size
            omega
        have W5 : Chg (F ++ G) wc w5 := J2.chg
        refine ⟨rfl, rfl, F4, G5, J1, J2, Writable.of_src (d := D.data.toList) (M.src.chg W5 (by intro a ha; cases ha; simp [gF, gG])) (fun j hj => ?_), gF4, gG5⟩
        · have e1 := World.frozen?_of_block (a := ⟨g, j, none⟩) (W5.block g (by omega) (by simp [gF, gG]))
          rw [e1]
          exact M.free j hj
  case rest =>
  obtain ⟨rfl, rfl, F5, G5, J1, J2, W5, gF5, gG5⟩ := hcut
  clear hA hB MB HX
  go_wp2_with fail
  go_loopw [10] (fun i wr => ∃ k : Nat, i = .int .i64 k ∧ k ≤ D.size ∧ Chg [g] wc wr ∧ Writable wr g D.size) (fun i _ => D.size - (intOf i).toNat)
  case atStart => exact ⟨0, rfl, Nat.zero_le _, Chg.refl _ _, W5⟩
  case round =>
    obtain ⟨k, rfl, hk, CR, WR⟩ := hrel
    by_cases hlt : k < D.size
    · obtain ⟨⟨y, hy⟩, hf⟩ := WR k hlt
      unfold bv at hy
      have hyl : (y.toNat : Int) ≤ 255 := by have := y.toNat_lt; omega
      have hy0 : (0 : Int) ≤ (y.toNat : Int) := by omega
      obtain ⟨z, hz⟩ : ∃ z : UInt8, (z.toNat : Int) = 255 - (y.toNat : Int) := flip_byte y
      have WR2 : Writable (wr.setCell ⟨g, k, none⟩ (.int .u8 (255 - (y.toNat : Int)))) g D.size := by
        have := WR.set hlt z
        unfold bv at this
        rwa [hz] at this
      have CR2 : Chg [g] wc (wr.setCell ⟨g, k, none⟩ (.int .u8 (255 - (y.toNat : Int)))) := CR.trans (Chg.setCell (S := [g]) _ _ _ (.inl (by simp))) (by simp)
      clear hz
      go_wp2_with fail
      go_roundw
      case rel => exact ⟨k + 1, by go_num, by omega, CR2, WR2⟩
      case measure => simp [intOf]; omega
    · have T5 := T2.trans J2
      have hgs := J2.chg.size
      have fin : Oned w b q F G L.e (.returned (.bool true)) wr := by
        refine ⟨rfl, x.2, F5, G5, ⟨J1.link.chg CR (fun k hk hm => ?_), J1.ref.chg CR (fun k hk hm => ?_), J1.off, J1.ok⟩, ⟨T5.chg.trans CR (fun k hk => ?_), fun k hk => ⟨(T5.foot k hk).1, Nat.lt_of_lt_of_le (T5.foot k hk).2 CR.size⟩⟩, by omega⟩
        · simp at hm; subst hm; exact gF5 hk
        · simp at hm; subst hm; exact gG5 hk
        · simp at hk; subst hk; exact .inr hwg
      have FIN := Lib.hid fin
      clear fin
      go_wp2_with fail
      go_ret
      exact FIN.out
end Go.Proofs.Ytehhnoanbdjgbaa
