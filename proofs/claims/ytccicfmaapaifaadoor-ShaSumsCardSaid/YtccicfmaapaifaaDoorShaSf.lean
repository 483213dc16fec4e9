/- What the law ShaSums does: true, and it leaves what was there; its argument opened. No conditions beyond those that each statement types. -/
import Derived.Test.YtccicfmaapaifaaDoorShaSe
import Derived.Test.YtccicfmaapaifaaDoorShaV
import Derived.Test.YtccicfmaapaifaaDoorShaOpen
namespace Go.Proofs.YtccicfmaapaifaaDoor
open Go.RowKit Go.ChangeShapes Go.WideShapes Go.ChangeAt Go.Deep

theorem open_bytes {H : Type} {enc : TypeId × Value → H} {w : World} {v : Value} {d : DataW H} {ps : List MemPlace} (hv : ∃ ao n c, v = .slice ao n c)
    (h : DataW.Trod enc Tryd.prog w 0 (fun _ => true) true 39 v d ps) : ∃ ao c l, v = .slice ao (List.length l) c ∧ l.length ≤ 9223372036854775807 ∧ (ao = none → c = 0) ∧ Src w ao (bvs l) := by
  obtain ⟨ao, c, l, h1, h2, h3, h4, _⟩ := open_byte_slice Tryd.underlying39 Tryd.underlying5 Tryd.cellsByte hv h
  exact ⟨ao, c, l, h1, h2, h4, h3⟩

set_option maxRecDepth 100000 in
set_option maxHeartbeats 8000000 in
theorem sha_sums (bo : Option Addr) (bc : Nat) (l : List UInt8) (hl : l.length ≤ 9223372036854775807) (hbn : bo = none → bc = 0) (W : World) (hL : Laid W) (hs : Src W bo (bvs l)) :
    Calls Tryd.prog 7 #[.slice bo l.length bc] W (Holds W) := by
  obtain ⟨iu, hiu, hiuz, hius, hiub⟩ := info_parts Tryd.infoU8
  have HD : Hid (∀ w ao c, Src w ao (bvs l) → Laid w → l.length ≤ c → l.length ≤ 20000 → (∀ a, ao = some a → a.block < w.heap.size) → Calls Tryd.prog 18 #[.slice ao l.length c] w fun e w' => e = .returned (hashV (digest l)) ∧ Chg [] w w') :=
    Lib.hid (fun w ao c h1 h2 h3 h4 h5 => sha_digest l ao c w h2 h1 h3 (by omega) h5)
  have HR : Hid (∀ w, Src w bo (bvs l) → l.length ≤ 20000 → Calls Tryd.prog 19 #[.slice bo l.length bc] w fun e w' => e = .returned (hashV (digest l)) ∧ Chg [] w w') :=
    Lib.hid (fun w h1 h2 => ref_sum l bo bc w h1 hbn (by omega))
  obtain ⟨R, hR⟩ : ∃ R, hashV (digest l) = .agg R := ⟨_, rfl⟩
  have HEQ : Hid (∀ w, (binOp .eql 23 (.agg R) (.agg R)).run Tryd.prog w = .ok (.bool true) w) := Lib.hid (fun w => by
    have h := run_eq_hash (digest l) (digest l) w
    rw [sameHash_self, hR] at h
    exact h)
  rw [hR] at HD HR
  obtain ⟨n, hn⟩ : ∃ n, l.length = n := ⟨_, rfl⟩
  have hT : (⟨l.toArray⟩ : ByteArray).data.toList.length = n := by simpa using hn
  have hbs : bvs (⟨l.toArray⟩ : ByteArray).data.toList = bvs l := by simp
  have HBS := Lib.hid hbs
  have HT := Lib.hid hT
  have HN := Lib.hid hn
  rw [hn] at HD HR hl ⊢
  have hWs := hL.size
  clear hR hbs hT hn
  generalize (⟨l.toArray⟩ : ByteArray) = T at HBS HT
  by_cases hbig : 20000 < (n : Int)
  · go_enter Tryd.func7, Tryd.ntmps7
    go_wp2_with fail
    refine (sha_awake _ hL).mono ?_
    rintro e w1 ⟨rfl, C1⟩
    go_wp2_with fail
    go_ret
    exact ⟨rfl, C1⟩
  · have hsm : n ≤ 20000 := by omega
    go_enter Tryd.func7, Tryd.ntmps7
    go_wp2_with (at_builtin; refine wpList_append_x _ rfl _ _ 39 rfl 5 iu _ 1 1 Tryd.underlying39 hiu hiuz hius hiub rfl (by decide) (.slice (some ⟨W.heap.size, 0, none⟩) 0 0) 0 [] rfl (own_empty rfl) bo n bc (bvs l) rfl (by rw [bvs_length, HN.out]; omega) (hs.chg (Chg.alloc [] _ _) (by simp)) hbn (bvs_one _) (by unfold maxLen; omega) (by omega) ?_)
    intro ao1 c1 w1 hown1 hgr1 hblk1
    go_upto_region 4 with (fail)
    have D1 : Chg [] W w1 := (Chg.alloc [] W (Obj.cells #[] 5)).trans (Chg.grown (S := [W.heap.size]) hgr1 (fun q hq => .inl (by have := Option.some.inj hq; simp at this; simp [this]))) (fun q hq => by simp at hq; right; omega)
    have hown1' : w1.ownsRow 0 5 1 (.slice ao1 n c1) n (bvs l) := by simpa using hown1
    obtain ⟨_, _, hsl, hc1, _⟩ := ownsRow_slice hown1'
    have hc1' : n ≤ c1 := by
      simp only [Value.slice.injEq] at hsl
      omega
    have hlt1 : ∀ a, ao1 = some a → a.block < w1.heap.size := fun x hx => by
      subst hx
      exact ownsRow_lt hown1' x.block (by
        rcases hown1'.2 with ⟨hv, _⟩ | ⟨g', cap, cur, hv, _⟩
        · simp at hv
        · simp only [Value.slice.injEq, Option.some.injEq] at hv
          rw [hv.1]; rfl)
    have hs1 := hs.chg D1 (by simp)
    have HO := Lib.hid hown1'
    clear hsl hown1 hown1' hgr1 hblk1 hs hc1
    go_wp2_with fail
    refine (HD.out w1 ao1 c1 (ownsRow_src HO.out) (hL.chg D1 (by simp)) hc1' hsm hlt1).mono ?_
    rintro e w2 ⟨rfl, D2⟩
    have T2 := D1.trans D2 (by simp)
    have hs2 := Lib.hid (hs1.chg D2 (by simp))
    have HO2 := Lib.hid (ownsRow_chg HO.out D2 (by simp))
    clear hs1 HO D2 D1 hlt1
    go_wp2_with fail
    refine (HR.out w2 hs2.out hsm).mono ?_
    rintro e w3 ⟨rfl, D3⟩
    have T3 := T2.trans D3 (by simp)
    have hs3 : Src w3 bo (bvs T.data.toList) := by rw [HBS.out]; exact hs2.out.chg D3 (by simp)
    have ho3 : Src w3 ao1 (bvs T.data.toList) := by rw [HBS.out]; exact ownsRow_src (ownsRow_chg HO2.out D3 (by simp))
    clear hs2 HO2 D3 T2
    go_wp2_with (first | (refine wpList_eql_x rfl 23 _ _ _ rfl true (.agg R) (.agg R) rfl rfl (hash_guard _ _ _ _ _) (HEQ.out _) ?_) | (refine wpList_str_of_bytes _ rfl 39 9 (.tmp 17) rfl 5 Tryd.underlying39 Tryd.underlying5 Tryd.underlying9 _ _ _ rfl T HT.out ho3 ?_) | (refine wpList_str_of_bytes _ rfl 39 9 (.tmp 19) rfl 5 Tryd.underlying39 Tryd.underlying5 Tryd.underlying9 _ _ _ rfl T HT.out hs3 ?_))
    refine (sha_awake _ (hL.chg T3 (by simp))).mono ?_
    rintro e w4 ⟨rfl, D4⟩
    go_wp2_with fail
    go_ret
    exact ⟨rfl, T3.trans D4 (by simp)⟩
end Go.Proofs.YtccicfmaapaifaaDoor
