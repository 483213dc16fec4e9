/- A slice of the call's own that grows by append; plain, walked. No conditions beyond those that each statement types. -/
import Derived.Test.YtnbeamggbehclaaGlobQ
namespace Go.Proofs.Ytnbeamggbehclaa
open Go.RowKit

/-- A slice that is the call's own. -/
structure Loc (W wr : World) (e : TypeId) (size : Nat) (a : Option Addr) (n c : Nat) (xs : List Value) : Prop where
  own : wr.ownsRow 0 e size (.slice a n c) n xs
  chg : Chg [] W wr
  new : ∀ q, (Value.slice a n c).ownBlock = some q → W.heap.size ≤ q
theorem Loc.nil (W : World) (e : TypeId) (size : Nat) : Loc W W e size none 0 0 [] := ⟨World.ownsRow_nil _ _ _ _, Chg.refl _ _, fun q hq => by cases hq⟩
theorem Loc.next {W wr w2 : World} {e : TypeId} {size n c : Nat} {a : Option Addr} {xs : List Value} (H : Loc W wr e size a n c xs) (C : Chg [] wr w2) : Loc W w2 e size a n c xs :=
  ⟨ownsRow_chg H.own C (by simp), H.chg.trans C (by simp), H.new⟩
theorem Loc.push {W wr w1 : World} {e : TypeId} {size n c m c' : Nat} {a ao' : Option Addr} {xs ys : List Value} (H : Loc W wr e size a n c xs) {o : Obj} (hgr : (wr.alloc o).grownBy w1 (Value.slice a n c).ownBlock)
    (hown : w1.ownsRow 0 e size (.slice ao' m c') m ys) (hblk : (Value.slice ao' m c').ownBlock = (Value.slice a n c).ownBlock ∨ (Value.slice ao' m c').ownBlock = some (wr.heap.size + 1)) : Loc W w1 e size ao' m c' ys := by
  have CA := Chg.alloc (Value.slice a n c).ownBlock.toList wr o
  have CG := Chg.grown hgr (S := (Value.slice a n c).ownBlock.toList) (fun k hk => .inl (by simp [hk]))
  have CT := CA.trans CG (fun k hk => .inl hk)
  refine ⟨hown, H.chg.trans CT (fun k hk => .inr (H.new k (by simpa using hk))), fun k hk => ?_⟩
  have := H.chg.size
  rcases hblk with h1 | h1 <;> rw [h1] at hk
  · exact H.new k hk
  · have := Option.some.inj hk
    omega
theorem src_one {wr : World} {d : UInt8} {fr : Nat × Nat} : Src (wr.alloc (Obj.cells #[bv d] 5 fr)) (some ⟨wr.heap.size, 0, none⟩) (bvs [d]) := by
  have hnx := heap_alloc_new wr (Obj.cells #[bv d] 5 fr)
  refine ⟨fun h => by (cases h), fun q hq j u hu => ?_⟩
  cases hq
  rw [addr_add0, cell_of_row _ _ _ _ _ _ hnx]
  rw [List.getElem?_toArray]
  exact hu
theorem flat_snoc (l : List UInt8) (k : Nat) (c : UInt8) (h : l[k]? = some c) : (l.take (k + 1)).flatMap esc = (l.take k).flatMap esc ++ esc c := by
  rw [List.take_add_one, h, List.flatMap_append]
  simp

set_option maxRecDepth 100000 in
set_option maxHeartbeats 4000000 in
theorem glob_plain (s : ByteArray) (hs : s.size ≤ 60) (w : World) :
    Calls Try.prog 15 #[.string s] w fun e w' => ∃ t : ByteArray, t.data.toList = plainL s.data.toList ∧ e = .returned (.string t) ∧ Chg [] w w' := by
  obtain ⟨iu, hiu, hiuz, hius, hiub⟩ := info_parts Try.infoU8
  go_enter Try.func15, Try.ntmps15
  go_upto_region 2 with (fail)
  go_wp2_with (at_builtin; go_loud (refine wpList_append_x _ rfl _ _ 58 rfl 5 iu _ 1 1 Try.underlying58 hiu hiuz hius hiub rfl (by decide) (.slice none 0 0) 0 (bvs []) rfl (World.ownsRow_nil _ _ _ _) (some ⟨w.heap.size, 0, none⟩) 1 1 (bvs [47]) rfl rfl (src_one (wr := w) (d := 47) (fr := (0, 0))) (fun h => by cases h) (bvs_one _) (by unfold maxLen; omega) (by omega) ?_))
  intro ao1 c1 w1 hown1 hgr1 hblk1
  have HL := Lib.hid ((Loc.nil w 5 1).push hgr1 hown1 hblk1)
  clear hown1 hgr1 hblk1
  go_wp2_with fail
  go_loopw [3, 4] (fun v i wr => ∃ (k n c : Nat) (a : Option Addr) (xs : List UInt8), v = .slice a n c ∧ i = .int .i64 k ∧ k ≤ s.size ∧ Hid (xs = 47 :: (s.data.toList.take k).flatMap esc) ∧ Hid (xs.length = n) ∧ n ≤ 2 * k + 1 ∧ Hid (Loc w wr 5 1 a n c (bvs xs))) (fun _ i _ => s.size - (intOf i).toNat)
  case atStart => exact ⟨0, 1, c1, ao1, [47], rfl, rfl, by omega, Lib.hid (by simp), Lib.hid rfl, by omega, HL⟩
  case round =>
    obtain ⟨k, n, c, a, xs, rfl, rfl, hk, hX, hN, hn, hL⟩ := hrel
    clear HL
    by_cases hlt : k < s.size
    · have hlt' : (k : Int) < s.size := by omega
      have hk0 : (0 : Int) ≤ k := by omega
      have HG := Lib.hid (flat_snoc _ _ _ (data_get hlt))
      by_cases h47 : s[k].toNat = 47
      · have hb47 : ((s[k].toNat : Int) != 47) = false := by rw [h47]; rfl
        have HE : Hid (esc s[k] = [47]) := Lib.hid (by unfold esc; rw [if_pos (show s[k] = 47 from u8_eq.2 h47)])
        go_upto_region 8 with (fail)
        go_wp2_with (at_builtin; go_loud (refine wpList_append_x _ rfl _ _ 58 rfl 5 iu _ 1 1 Try.underlying58 hiu hiuz hius hiub rfl (by decide) (.slice a n c) n (bvs xs) rfl (hL.out.next (Chg.alloc [] wr _)).own (some ⟨wr.heap.size, 0, none⟩) 1 1 (bvs [47]) rfl rfl (src_one (wr := wr) (d := 47) (fr := (0, 0))) (fun h => by cases h) (bvs_one _) (by unfold maxLen; omega) (by omega) ?_))
        intro ao2 c2 w2 hown2 hgr2 hblk2
        have HL1 := Lib.hid (hL.out.push hgr2 hown2 hblk2)
        clear hown2 hgr2 hblk2
        go_wp2_with fail
        go_roundw
        case rel => exact ⟨k + 1, n + 1, c2, ao2, xs ++ [47], rfl, by go_num, by omega, Lib.hid (by rw [HG.out, HE.out, hX.out]; rfl), Lib.hid (by rw [List.length_append, hN.out]; rfl), by omega, Lib.hid (by rw [bvs_append]; exact HL1.out)⟩
        case measure => simp [intOf]; omega
      · have hb47 : ((s[k].toNat : Int) != 47) = true := bne_iff_ne.2 (by omega)
        have HE : Hid (esc s[k] = [92, s[k]]) := Lib.hid (by unfold esc; rw [if_neg (fun e => h47 (u8_eq.1 e))])
        go_upto_region 7 with (fail)
        go_wp2_with (at_builtin; go_loud (refine wpList_append_x _ rfl _ _ 58 rfl 5 iu _ 1 1 Try.underlying58 hiu hiuz hius hiub rfl (by decide) (.slice a n c) n (bvs xs) rfl (hL.out.next (Chg.alloc [] wr _)).own (some ⟨wr.heap.size, 0, none⟩) 1 1 (bvs [92]) rfl rfl (src_one (wr := wr) (d := 92) (fr := (0, 0))) (fun h => by cases h) (bvs_one _) (by unfold maxLen; omega) (by omega) ?_))
        intro ao2 c2 w2 hown2 hgr2 hblk2
        have HL1 := Lib.hid (hL.out.push hgr2 hown2 hblk2)
        rw [← bvs_append] at HL1
        clear hown2 hgr2 hblk2
        go_upto_region 8 with (fail)
        go_wp2_with (at_builtin; go_loud (refine wpList_append_x _ rfl _ _ 58 rfl 5 iu _ 1 1 Try.underlying58 hiu hiuz hius hiub rfl (by decide) (.slice ao2 (n + 1) c2) (n + 1) (bvs (xs ++ [92])) rfl (HL1.out.next (Chg.alloc [] w2 _)).own (some ⟨w2.heap.size, 0, none⟩) 1 1 (bvs [s[k]]) rfl rfl (src_one (wr := w2) (d := s[k]) (fr := (0, 0))) (fun h => by cases h) (bvs_one _) (by unfold maxLen; omega) (by omega) ?_))
        intro ao3 c3 w3 hown3 hgr3 hblk3
        have HL2 := Lib.hid (HL1.out.push hgr3 hown3 hblk3)
        clear hown3 hgr3 hblk3
        go_wp2_with fail
        go_roundw
        case rel => exact ⟨k + 1, n + 2, c3, ao3, xs ++ [92] ++ [s[k]], rfl, by go_num, by omega, Lib.hid (by rw [HG.out, HE.out, hX.out]; simp), Lib.hid (by rw [List.length_append, List.length_append, hN.out]; rfl), by omega, Lib.hid (by rw [bvs_append]; exact HL2.out)⟩
        case measure => simp [intOf]; omega
    · have hlt' : ¬ (k : Int) < s.size := by omega
      have hX2 : Hid (xs = plainL s.data.toList) := Lib.hid (by rw [hX.out, List.take_of_length_le (by rw [size_data]; omega)]; rfl)
      have hsr := ownsRow_src hL.out.own
      have hN2 := hN.out
      go_wp2_with (refine wpList_str_of_bytes _ rfl 58 9 _ rfl 5 Try.underlying58 Try.underlying5 Try.underlying9 a n c rfl ⟨xs.toArray⟩ hN2 hsr ?_)
      go_ret
      exact ⟨⟨xs.toArray⟩, hX2.out, rfl, hL.out.chg⟩
end Go.Proofs.Ytnbeamggbehclaa
