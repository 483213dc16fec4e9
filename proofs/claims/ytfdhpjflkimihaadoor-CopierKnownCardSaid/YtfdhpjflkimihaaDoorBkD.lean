/- What is, New, Len and Write of the package sha do to memory. No conditions beyond those that each statement types. -/
import Derived.Test.YtfdhpjflkimihaaDoorShaB
import Derived.Test.YtfdhpjflkimihaaDoorShaC
namespace Go.Proofs.YtfdhpjflkimihaaDoor
open Go.RowKit

theorem sha_is (b : Nat) (s : SS) (w : World) (h : StateAt w b s) :
    Calls Tryd.prog 103 #[.pointer (some ⟨b, 0, none⟩)] w fun e w' => e = .returned (.bool true) ∧ w = w' := by
  have c := h.madeAt
  go_enter Tryd.func103, Tryd.ntmps103
  go_wp2
  go_ret
  exact ⟨rfl, rfl⟩

theorem sha_is_nil (w : World) :
    Calls Tryd.prog 103 #[.pointer none] w fun e w' => e = .returned (.bool false) ∧ w = w' := by
  go_enter Tryd.func103, Tryd.ntmps103
  go_wp2
  go_ret
  exact ⟨rfl, rfl⟩

theorem sha_is_zero (b : Nat) (w : World) (c : w.cell? ⟨b, 73, none⟩ = some (.bool false)) :
    Calls Tryd.prog 103 #[.pointer (some ⟨b, 0, none⟩)] w fun e w' => e = .returned (.bool false) ∧ w = w' := by
  go_enter Tryd.func103, Tryd.ntmps103
  go_wp2
  go_ret
  exact ⟨rfl, rfl⟩

def ss0 : SS := ⟨fun i => firstL.getD i 0, fun _ => 0, 0⟩
def Newed (w : World) (r : Ending) (w' : World) : Prop := ∃ b, r = .returned (.pointer (some ⟨b, 0, none⟩)) ∧ w.heap.size ≤ b ∧ StateAt w' b ss0 ∧ Chg [] w w'

set_option maxRecDepth 100000 in
theorem sha_new (w : World) (hL : Laid w) : Calls Tryd.prog 76 #[] w (Newed w) := by
  have hld := run_loadAt_cut (P := Tryd.prog) w 115 0 0 8 (fun i => wv (firstL.getD i 0)) _ Tryd.underlying115 rfl (by kernel_rfl) (fun j hj => by rw [Nat.zero_add]; exact hL.first j hj)
  go_enter Tryd.func76, Tryd.ntmps76
  have hbd : ∀ w : World, (Instr.build 170 #[(0, .agg (cut (fun i => wv (firstL.getD i 0)) 0 8)), (3, .bool true)]).run Tryd.prog w = .ok (.agg ss0.cells) w := fun _ => by kernel_rfl
  have hnx := heap_alloc_new w (Obj.cells ss0.cells 170)
  have CA := Chg.alloc [] w (Obj.cells ss0.cells 170)
  obtain ⟨Z, hZ⟩ : ∃ Z, ss0.cells = Z := ⟨_, rfl⟩
  rw [hZ] at hbd hnx CA
  have HZ := Lib.hid hZ
  clear hZ
  generalize cut (fun i => wv (firstL.getD i 0)) 0 8 = F at *
  go_wp2_with (first | (refine wpList_load_x _ rfl 115 _ rfl (.agg F) hld ?_) | (refine wpList_build_x _ rfl 170 #[(0, .tmp 1), (3, .const (.bool true))] rfl (.agg Z) #[(0, .agg F), (3, .bool true)] (by simp [Act.eval, Act.put]) (hbd _) ?_))
  go_ret
  exact ⟨_, rfl, Nat.le_refl _, by unfold StateAt; rw [HZ.out]; exact hnx, CA⟩

theorem sha_write_nil (v : Value) (w : World) :
    Calls Tryd.prog 77 #[.pointer none, v] w fun e w' => e = .returned (.int .i64 1) ∧ w = w' := by
  go_enter Tryd.func77, Tryd.ntmps77
  go_wp2_with fail
  refine (sha_is_nil _).mono ?_
  rintro r w' ⟨rfl, rfl⟩
  go_wp2_with fail
  go_ret
  exact ⟨rfl, rfl⟩

theorem sha_write_zero (b : Nat) (v : Value) (w : World) (c : w.cell? ⟨b, 73, none⟩ = some (.bool false)) :
    Calls Tryd.prog 77 #[.pointer (some ⟨b, 0, none⟩), v] w fun e w' => e = .returned (.int .i64 1) ∧ w = w' := by
  go_enter Tryd.func77, Tryd.ntmps77
  go_wp2_with fail
  refine (sha_is_zero b _ c).mono ?_
  rintro r w' ⟨rfl, rfl⟩
  go_wp2_with fail
  go_ret
  exact ⟨rfl, rfl⟩

theorem slice_from (w : World) (b at_ : Nat) (h : at_ < 64) : (Instr.sliceAt 168 (.pointer (some ⟨b, 8, none⟩)) (some (.int .i64 at_)) none none).run Tryd.prog w = .ok (.slice (some ⟨b, 8 + at_, none⟩) (64 - at_) (64 - at_)) w := by
  have e : Tryd.prog.arrayLen 168 = 64 := by kernel_rfl
  have h1 := run_sliceAt_array_l (P := Tryd.prog) w 168 ⟨b, 8, none⟩ (by kernel_rfl) .i64 at_ (by omega) (by rw [e]; omega)
  have h2 : (sizeOf (Tryd.prog.elem 168)).run Tryd.prog w = .ok 1 w := by kernel_rfl
  have h3 : ¬ 64 = at_ := by omega
  rw [h1, h2, e]
  simp [Result.andThen, slicedAt, h3, addr_add1]

theorem fill_at {w : World} {b : Nat} {s : SS} (h : StateAt w b s) (l : List UInt8) (hl : s.n % 64 + l.length ≤ 64) :
    StateAt ((w.setRow b (s.cells.toList.take (8 + s.n % 64) ++ (bvs l ++ s.cells.toList.drop (8 + s.n % 64 + (bvs l).length))).toArray).setCell ⟨b, 72, none⟩ (.int .i64 ((s.n + l.length : Nat) : Int))) b (s.fill l) := by
  have h1 := setRow_heap w b _ (s.cells.toList.take (8 + s.n % 64) ++ (bvs l ++ s.cells.toList.drop (8 + s.n % 64 + (bvs l).length))).toArray _ _ h
  have h2 := heap_setCell_same _ b 72 _ _ (.int .i64 ((s.n + l.length : Nat) : Int)) h1
  rw [s.fill_cells l hl] at h2
  exact h2

set_option maxRecDepth 100000 in
set_option maxHeartbeats 1000000 in
theorem sha_write (b : Nat) (s : SS) (bo : Option Addr) (c : Nat) (l : List UInt8) (w : World) (h : StateAt w b s) (hL : Laid w) (hb : 1 < b) (hsrc : Src w bo (bvs l)) (hne : ∀ a, bo = some a → a.block ≠ b) (hlc : l.length ≤ c) (hn : s.n + l.length ≤ 4611686018427387904) :
    Calls Tryd.prog 77 #[.pointer (some ⟨b, 0, none⟩), .slice bo l.length c] w fun e w' => e = .returned (.int .i64 0) ∧ StateAt w' b (s.eat l) ∧ Chg [b] w w' := by
  obtain ⟨L, hLl⟩ : ∃ L, l.length = L := ⟨_, rfl⟩
  rw [hLl] at hn hlc ⊢
  have HLL := Lib.hid hLl
  clear hLl
  go_enter Tryd.func77, Tryd.ntmps77
  go_wp2_with fail
  refine (sha_is b s _ h).mono ?_
  rintro r w' ⟨rfl, rfl⟩
  go_wp2_with fail
  go_loopw [1] (fun v wr => ∃ (k m c' : Nat) (ao : Option Addr), v = .slice ao m c' ∧ k + m = L ∧ m ≤ c' ∧ StateAt wr b (s.eat (l.take k)) ∧ Chg [b] w wr ∧ Src wr ao (bvs (l.drop k)) ∧ ∀ a, ao = some a → a.block ≠ b) (fun v _ => match v with | .slice _ m _ => m | _ => 0)
  case atStart => exact ⟨0, L, c, bo, rfl, by omega, hlc, h, Chg.refl _ _, hsrc, hne⟩
  case round =>
    obtain ⟨k, m, c', ao, rfl, hkm, hmc, hS, C, hA, hane⟩ := hrel
    clear h hsrc
    by_cases hm : m = 0
    · subst hm
      have hk : l.take k = l := List.take_of_length_le (by rw [HLL.out]; omega)
      rw [hk] at hS
      go_wp2_with fail
      go_ret
      exact ⟨rfl, hS, C⟩
    · have hmp : 0 < m := by omega
      have hmp' : 0 < (m : Int) := by omega
      have hnk : (s.eat (l.take k)).n = s.n + k := by rw [SS.eat_n, List.length_take, HLL.out]; omega
      have HK := Lib.hid (show s.eat (l.take k) = s.eat (l.take k) from rfl)
      obtain ⟨S, hSS⟩ : ∃ S, s.eat (l.take k) = S := ⟨_, rfl⟩
      rw [hSS] at hS hnk
      have HS := Lib.hid hSS
      obtain ⟨N, hN⟩ : ∃ N, S.n = N := ⟨_, rfl⟩
      have hNb : N ≤ 4611686018427387904 := by omega
      have cn := hS.nAt
      rw [hN] at cn
      obtain ⟨at_, hat⟩ : ∃ at_, N % 64 = at_ := ⟨_, rfl⟩
      have hatl : at_ < 64 := by omega
      have hat' : (N : Int) % 64 = (at_ : Int) := by omega
      obtain ⟨kk, hkk⟩ : ∃ kk, min m (64 - at_) = kk := ⟨_, rfl⟩
      have hk1 : 0 < kk := by omega
      have hk2 : kk ≤ m := by omega
      have hk3 : at_ + kk ≤ 64 := by omega
      have hk4 : kk = m ∨ at_ + kk = 64 := by omega
      have hmin : Nat.min m (64 - at_) = kk := hkk
      obtain ⟨d, hd⟩ : ∃ d, (l.drop k).take kk = d := ⟨_, rfl⟩
      have hdl : d.length = kk := by rw [← hd, List.length_take, List.length_drop, HLL.out]; omega
      have hlen : (bvs d).length = kk := by rw [bvs_length, hdl]
      have hs : Src wr ao (bvs d) := by
        have := hA.take kk
        rw [← bvs_take, hd] at this
        exact this
      have hs2 : Src wr (ao.map (·.add kk)) (bvs (l.drop (k + kk))) := by
        have := hA.drop kk
        rw [← bvs_drop, List.drop_drop] at this
        exact this
      obtain ⟨a, rfl⟩ : ∃ a, ao = some a := by
        cases ao with
        | none =>
          have := hA.nil rfl
          have h2 : (bvs (l.drop k)).length = m := by rw [bvs_length, List.length_drop, HLL.out]; omega
          rw [this] at h2
          simp at h2; omega
        | some a => exact ⟨a, rfl⟩
      have hab := hane a rfl
      have hfill := fill_at hS d (by rw [hN, hat, hdl]; omega)
      have hnext : s.eat (l.take (k + kk)) = if at_ + kk = 64 then (S.fill d).block else S.fill d := by
        have h2 : l.take (k + kk) = l.take k ++ d := by rw [List.take_add, hd]
        rw [h2, SS.eat_append, HS.out]
        have := S.eat_fill d (by rw [hN, hat, hdl]; omega)
        rw [hN, hat, hdl] at this
        exact this
      rw [hN, hat, hdl] at hfill
      have C1 : Chg [b] w ((wr.setRow b (S.cells.toList.take (8 + at_) ++ (bvs d ++ S.cells.toList.drop (8 + at_ + (bvs d).length))).toArray).setCell ⟨b, 72, none⟩ (.int .i64 ((N + kk : Nat) : Int))) :=
        (C.trans (Chg.setRow (S := [b]) wr b _ (.inl (by simp))) (by simp)).trans (Chg.setCell (S := [b]) _ ⟨b, 72, none⟩ _ (.inl (by simp))) (by simp)
      have hrow := setRow_heap wr b _ (S.cells.toList.take (8 + at_) ++ (bvs d ++ S.cells.toList.drop (8 + at_ + (bvs d).length))).toArray _ _ hS
      have cn2 : (wr.setRow b (S.cells.toList.take (8 + at_) ++ (bvs d ++ S.cells.toList.drop (8 + at_ + (bvs d).length))).toArray).cell? ⟨b, 72, none⟩ = some (.int .i64 N) := by
        rw [cell_of_row _ _ 72 _ _ _ hrow, List.getElem?_toArray]
        have hsz : S.cells.toList.length = 74 := by simp [SS.cells, cut_size]
        rw [List.getElem?_append_right (by rw [List.length_take, hsz]; omega), List.getElem?_append_right (by rw [List.length_take, hsz, hlen]; omega), List.getElem?_drop, List.length_take, hsz, hlen, Nat.min_eq_left (by omega), show 8 + at_ + kk + (72 - (8 + at_) - kk) = 72 by omega, Array.getElem?_toList, SS.cells, cut_get _ _ _ _ (by decide), Nat.zero_add]
        show some (S.cell 72) = _
        rw [← hN]; rfl
      have fn2 : (wr.setRow b (S.cells.toList.take (8 + at_) ++ (bvs d ++ S.cells.toList.drop (8 + at_ + (bvs d).length))).toArray).frozen? ⟨b, 72, none⟩ = false := frozen_of_row _ _ _ _ _ hrow
      have hcs : S.cells.size = 74 := by rw [SS.cells, cut_size]
      rw [hlen] at hfill C1 cn2 fn2
      have HC := Lib.hid hcs
      have HD := Lib.hid hlen
      have HM := Lib.hid hmin
      have hsl := slice_from wr b at_ hatl
      rw [Int.natCast_add] at hfill C1
      have hone : ∀ v ∈ bvs d, v.oneCell' = true := bvs_one d
      have HO := Lib.hid hone
      have HSC := Lib.hid hs
      have HH := Lib.hid (show wr.heap[b]? = some (.cells S.cells 170 (0, 0)) from hS)
      have hkkN : (N : Int) + kk ≤ 9223372036854775807 := by omega
      have hkkm : (kk : Int) ≤ m := by omega
      have hkc : (kk : Int) ≤ c' := by omega
      have hkk0 : (0 : Int) ≤ kk := by omega
      have Cw : Chg [b] wr ((wr.setRow b (S.cells.toList.take (8 + at_) ++ (bvs d ++ S.cells.toList.drop (8 + at_ + kk))).toArray).setCell ⟨b, 72, none⟩ (.int .i64 ((N : Int) + kk))) :=
        (Chg.setRow (S := [b]) wr b _ (.inl (by simp))).trans (Chg.setCell (S := [b]) _ ⟨b, 72, none⟩ _ (.inl (by simp))) (by simp)
      have FIN : ∀ (w2 : World), Chg [b] wr w2 → (∃ ao2 : Option Addr, ao2 = (if c' = kk then some a else some (a.add kk)) ∧ Src w2 ao2 (bvs (l.drop (k + kk))) ∧ ∀ a', ao2 = some a' → a'.block ≠ b) := by
        intro w2 hc2
        refine ⟨_, rfl, ?_, ?_⟩
        · by_cases hck : c' = kk
          · rw [if_pos hck, List.drop_of_length_le (by rw [HLL.out]; omega)]
            exact Src.empty _ _
          · rw [if_neg hck]
            exact hs2.chg hc2 (fun a' ha' => by
              cases ha'
              rw [addr_add_block]
              simpa using hab)
        · intro a' ha'
          by_cases hck : c' = kk
          · rw [if_pos hck] at ha'; cases ha'; exact hab
          · rw [if_neg hck] at ha'; cases ha'; rw [addr_add_block]; exact hab
      have HFIN := Lib.hid FIN
      by_cases he : at_ + kk = 64
      · rw [if_pos he] at hnext
        have he' : ((at_ : Int) + kk == 64) = true := by rw [beq_iff_eq]; omega
        have HN := Lib.hid hnext
        have hLw := hL.chg C1 (by simpa using hb)
        clear hat hkk hmin hd hdl hlen hs hs2 hnext hcs hone hSS HK hS C hA hrow hane hN hnk FIN he
        go_wp2_with ((refine wpList_copy_own rfl (.tmp 22) (.tmp 23) 25 25 rfl 5 Tryd.underlying25 (by kernel_rfl) b (8 + at_) (64 - at_) (64 - at_) a m c' rfl rfl S.cells _ HH.out (bvs d) (by rw [HD.out]; exact HM.out.symm) (HSC.out.cell a rfl) (by rw [HD.out, HC.out]; omega) HO.out ?_); rw [HD.out])
        all_goals
          refine (sha_block b (S.fill d) _ hfill hLw).mono ?_
          rintro r w2 ⟨rfl, hS2, C2⟩
          obtain ⟨ao2, e2, s2, n2⟩ := HFIN.out w2 (Cw.trans C2 (by simp))
          have C3 := C1.trans C2 (by simp)
          have E2 := Lib.hid e2
          clear e2 hfill hLw C1 C2 Cw cn cn2 fn2
          go_wp2_with fail
          go_roundw
          case rel => exact ⟨k + kk, m - kk, _, ao2, by rw [E2.out]; first | rw [if_pos ‹_›] | rw [if_neg ‹_›], by omega, by omega, by rw [HN.out]; exact hS2, C3, s2, n2⟩
          case measure => show m - kk < m; omega
      · rw [if_neg he] at hnext
        have he' : ((at_ : Int) + kk == 64) = false := by rw [beq_eq_false_iff_ne]; omega
        have HN := Lib.hid hnext
        obtain ⟨ao2, e2, s2, n2⟩ := FIN _ Cw
        have E2 := Lib.hid e2
        clear hat hkk hmin hd hdl hlen hs hs2 hnext hcs hone hSS HK hS C hA hrow hane hN hnk FIN he e2
        go_wp2_with ((refine wpList_copy_own rfl (.tmp 22) (.tmp 23) 25 25 rfl 5 Tryd.underlying25 (by kernel_rfl) b (8 + at_) (64 - at_) (64 - at_) a m c' rfl rfl S.cells _ HH.out (bvs d) (by rw [HD.out]; exact HM.out.symm) (HSC.out.cell a rfl) (by rw [HD.out, HC.out]; omega) HO.out ?_); rw [HD.out])
        go_roundw
        case rel => exact ⟨k + kk, m - kk, c' - kk, ao2, by rw [E2.out], by omega, by omega, by rw [HN.out]; exact hfill, C1, s2, n2⟩
        case measure => show m - kk < m; omega
end Go.Proofs.YtfdhpjflkimihaaDoor
