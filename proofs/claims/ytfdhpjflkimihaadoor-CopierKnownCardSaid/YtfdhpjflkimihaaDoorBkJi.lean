/- slices.DeleteFunc of the places of a name, walked. No conditions beyond those that each statement types. -/
import Derived.Test.YtfdhpjflkimihaaDoorBkJh
import Derived.Lib.LazyBuf
import Derived.Deep.MidRow
import Derived.Deep.OwnRows
import Derived.Lib.SliceRun
import Derived.Test.YtfdhpjflkimihaaDoorMap
namespace Go.Proofs.YtfdhpjflkimihaaDoor
open Go.RowKit

def wo (nm : ByteArray) (ps : List Pl) : List Pl := ps.filter fun p => p.1.toList != nm.toList
theorem wo_in {nm : ByteArray} {ps : List Pl} {j : Nat} {x : Pl} (h : ps[j]? = some x) (hx : x.1.toList = nm.toList) : wo nm (ps.take (j + 1)) = wo nm (ps.take j) := by
  have hlt := (List.getElem?_eq_some_iff.1 h)
  rw [List.take_add_one, h, wo, List.filter_append]
  simp [wo, hx]
theorem wo_out {nm : ByteArray} {ps : List Pl} {j : Nat} {x : Pl} (h : ps[j]? = some x) (hx : x.1.toList ≠ nm.toList) : wo nm (ps.take (j + 1)) = wo nm (ps.take j) ++ [x] := by
  rw [List.take_add_one, h, wo, List.filter_append]
  simp [wo, hx]
theorem wo_le (nm : ByteArray) (ps : List Pl) : (wo nm ps).length ≤ ps.length := List.length_filter_le _ _
theorem wo_all {nm : ByteArray} {ps : List Pl} (h : ∀ (i : Nat) (x : Pl), ps[i]? = some x → x.1.toList ≠ nm.toList) : wo nm ps = ps := by
  rw [wo, List.filter_eq_self]
  intro a ha
  obtain ⟨i, hi⟩ := List.mem_iff_getElem?.1 ha
  simpa using h i a hi
theorem rowIs_chg {w w' : World} {b : Nat} {t : TypeId} {n : Nat} {f : Nat → Value} {S : List Nat} (h : w.rowIs b t n f) (C : Chg S w w') (hn : b ∉ S) : w'.rowIs b t n f :=
  h.of_block (C.block b h.lt hn)
theorem there_row {w : World} {b : Nat} {t : TypeId} {n : Nat} {f : Nat → Value} (h : w.rowIs b t n f) (o m : Nat) (hm : o + m ≤ n) : w.there b o m := fun j hj =>
  ⟨by rw [h.cell (i := o + j) (by omega)]; rfl, h.frozen _⟩
theorem Chg.setCells {S : List Nat} {b : Nat} (hb : b ∈ S) : ∀ (vs : List Value) (o : Nat) (w : World), Chg S w (w.setCells b o vs)
  | [], _, _ => Chg.refl _ _
  | v :: r, o, w => (Chg.setCell (S := S) w ⟨b, o, none⟩ v (.inl hb)).trans (Chg.setCells hb r (o + 1) _) (fun _ hk => .inl hk)
/-- A place laid into a row. -/
theorem store_mid (w : World) (g i n : Nat) (f : Nat → Value) (p : Pl) (h : w.rowIs g 57 n f) (hi : i * 2 + 2 ≤ n) :
    (Instr.storeAt 57 (.pointer (some ⟨g, i * 2, none⟩)) (.agg (plC p))).run Tryd.prog w = .ok () (w.setCells g (i * 2) [.string p.1, .int .i64 p.2]) :=
  run_storeAt_mid w g (i * 2) _ (plC p) (there_row h _ 2 hi) Tryd.infoPl (plC_one p)
def zPl : Value := .agg #[.string ⟨#[]⟩, .int .i64 0]
theorem zero_pl (w : World) : (zeroValue 57).run Tryd.prog w = .ok zPl w := by kernel_rfl
theorem clear_mid (w : World) (g i m c n : Nat) (f : Nat → Value) (h : w.rowIs g 57 n f) (hi : i * 2 + m * 2 ≤ n) (hm : 0 < m) (ty : TypeId) :
    (Builtin.clear_ #[119] ty #[.slice (some ⟨g, i * 2, none⟩) m c]).run Tryd.prog w = .ok (.tuple #[]) (w.setCells g (i * 2) (Builtin.zeroCells zPl.cells m).toList) := by
  have hl : (Builtin.zeroCells zPl.cells m).toList.length = m * 2 := by simp [Builtin.zeroCells, zPl, Value.cells]
  have hst := run_storeCells_cells (P := Tryd.prog) g (i * 2) (Builtin.zeroCells zPl.cells m).toList 0 w (fun j hj => by rw [hl] at hj; rw [h.cell (i := i * 2 + 0 + j) (by omega)]; rfl) (fun j _ => h.frozen _) (by
    intro v hv
    simp [Builtin.zeroCells, zPl, Value.cells] at hv
    obtain ⟨a, _, rfl⟩ := hv
    rcases Nat.mod_two_eq_zero_or_one a with h | h <;> rw [h] <;> rfl)
  simp only [Nat.add_zero] at hst
  obtain ⟨k, rfl⟩ : ∃ k, m = k + 1 := ⟨m - 1, by omega⟩
  simp [Builtin.clear_, run_underlying Tryd.underlying119, Result.andThen]
  rw [show Value.agg #[.string ⟨#[]⟩, .int .i64 0] = zPl from rfl, hst]
theorem first_named (nm : ByteArray) : ∀ ps : List Pl, (∀ (i : Nat) (x : Pl), ps[i]? = some x → x.1.toList ≠ nm.toList) ∨ ∃ (n : Nat) (x : Pl), ps[n]? = some x ∧ x.1.toList = nm.toList ∧ ∀ (i : Nat) (y : Pl), i < n → ps[i]? = some y → y.1.toList ≠ nm.toList
  | [] => .inl (fun i x h => by simp at h)
  | p :: ps => by
    by_cases hp : p.1.toList = nm.toList
    · exact .inr ⟨0, p, rfl, hp, fun i y hi => by omega⟩
    · rcases first_named nm ps with h | ⟨n, x, hx, hn, hb⟩
      · refine .inl (fun i x hx => ?_)
        cases i with
        | zero => simp at hx; subst hx; exact hp
        | succ i => exact h i x (by simpa using hx)
      · refine .inr ⟨n + 1, x, by simpa using hx, hn, fun i y hi hy => ?_⟩
        cases i with
        | zero => simp at hy; subst hy; exact hp
        | succ i => exact hb i y (by omega) (by simpa using hy)
def DelF (w : World) (ao : Option Addr) (ps : List Pl) (nm : ByteArray) (T : List Nat) (e : Ending) (w' : World) : Prop :=
  ∃ c, e = .returned (.slice ao (wo nm ps).length c) ∧ w'.ownsRow 0 57 2 (.slice ao (wo nm ps).length c) (wo nm ps).length (plvs (wo nm ps)) ∧ Chg T w w'
set_option maxRecDepth 100000 in
set_option maxHeartbeats 4000000 in
theorem blk_delete_none (ps : List Pl) (nm : ByteArray) (ao : Option Addr) (c gb : Nat) (T : List Nat) (w : World) (ho : w.ownsRow 0 57 2 (.slice ao ps.length c) ps.length (plvs ps)) (hn : ps.length ≤ 1000000)
    (hb : w.cell? ⟨gb, 0, none⟩ = some (.string nm)) (hx : ∀ (i : Nat) (x : Pl), ps[i]? = some x → x.1.toList ≠ nm.toList) :
    Calls Tryd.prog 66 #[.slice ao ps.length c, .func (.func 67) #[] #[.pointer (some ⟨gb, 0, none⟩)]] w (DelF w ao ps nm T) := by
  have K := Lib.hid (blk_index ps nm (-1) ao c gb w ho hn hb (fun i x h h2 => absurd h2 (hx i x h)) (.inl rfl))
  have HW := Lib.hid (wo_all hx)
  have HO := Lib.hid ho
  clear ho hx
  go_enter Tryd.func66, Tryd.ntmps66
  go_wp2_with fail
  refine K.out.mono ?_
  rintro e w5 ⟨rfl, C5⟩
  have HC5 := Lib.hid C5
  go_wp2_with fail
  go_ret
  refine ⟨c, ?_, ?_, C5.mono (by simp)⟩
  · rw [HW.out]
    rfl
  · rw [HW.out]
    exact ownsRow_chg HO.out C5 (by simp)
set_option maxRecDepth 100000 in
set_option maxHeartbeats 4000000 in
theorem blk_delete_some (ps : List Pl) (nm : ByteArray) (g c gb : Nat) (T : List Nat) (w : World) (ho : w.ownsRow 0 57 2 (.slice (some ⟨g, 0, none⟩) ps.length c) ps.length (plvs ps)) (hn : ps.length ≤ 1000000)
    (hb : w.cell? ⟨gb, 0, none⟩ = some (.string nm)) (hT : g ∈ T) (hbT : gb ≠ g) (n0 : Nat) (x0 : Pl) (hx0 : ps[n0]? = some x0) (hxn : x0.1.toList = nm.toList) (hbe : ∀ (i : Nat) (y : Pl), i < n0 → ps[i]? = some y → y.1.toList ≠ nm.toList) :
    Calls Tryd.prog 66 #[.slice (some ⟨g, 0, none⟩) ps.length c, .func (.func 67) #[] #[.pointer (some ⟨gb, 0, none⟩)]] w (DelF w (some ⟨g, 0, none⟩) ps nm T) := by
  have K := Lib.hid (blk_index ps nm (n0 : Int) (some ⟨g, 0, none⟩) c gb w ho hn hb (fun i x h h2 => ⟨by omega, by
    by_cases hi : i < n0
    · exact absurd h2 (hbe i x hi h)
    · omega⟩) (.inr ⟨n0, x0, rfl, hx0, hxn⟩))
  have hlt0 := (List.getElem?_eq_some_iff.1 hx0).1
  obtain ⟨f, hrow, hf, hcap, hcap2⟩ : ∃ f : Nat → Value, w.rowIs g 57 (c * 2) f ∧ (∀ x u, (plvs ps)[x]? = some u → f x = u) ∧ ps.length ≤ c ∧ c ≤ maxLen := by
    rcases ho.2 with ⟨h, _⟩ | ⟨g', cap, cur, hv, _, hg, h1, h2, h3, h4⟩
    · cases h
    · cases hv
      refine ⟨fun x => cur[x]?.getD default, ⟨cur, hg, h3, fun i hi => by simp [show i < cur.size by omega]⟩, fun x u hu => ?_, h1, h2⟩
      rw [← h4, List.getElem?_take] at hu
      split at hu
      · show cur[x]?.getD default = u
        rw [← Array.getElem?_toList, hu]
        rfl
      · cases hu
  have hw0 : wo nm (ps.take n0) = ps.take n0 := wo_all (fun i x h => by
    rw [List.getElem?_take] at h
    split at h
    · exact hbe i x (by omega) h
    · cases h)
  have hw1 : wo nm (ps.take (n0 + 1)) = ps.take n0 := by rw [wo_in hx0 hxn, hw0]
  obtain ⟨n, hn1⟩ : ∃ n, ps.length = n := ⟨_, rfl⟩
  have HN := Lib.hid hn1
  have HB := Lib.hid (fun wr (C : Chg [g] w wr) (p : Pl) => blk_named p nm gb wr (C.cell_some hb (by simpa using hbT)))
  have hn2 : n ≤ 1000000 := by omega
  have H1 : Hid (wo nm (ps.take (n0 + 1)) = ps.take n0) := Lib.hid hw1
  have HF : Hid (∀ x u, (plvs ps)[x]? = some u → f x = u) := Lib.hid hf
  have HR : Hid (w.rowIs g 57 (c * 2) f) := Lib.hid hrow
  have HX : Hid (∀ (i : Nat) (y : Pl), ps[i]? = some y → y = y) := Lib.hid (fun _ _ _ => rfl)
  have e0 : ¬ ((n0 : Int) = -1) := by omega
  rw [hn1] at hlt0 hcap ⊢
  rw [hn1] at K
  clear ho hn hn1 hb hx0 hxn hbe hw0 hw1 hf hrow HX
  go_enter Tryd.func66, Tryd.ntmps66
  go_wp2_with fail
  refine K.out.mono ?_
  rintro e w5 ⟨rfl, C5⟩
  have HC5 := Lib.hid C5
  clear K
  have HL : Hid ((wo nm (ps.take (n0 + 1))).length = n0) := Lib.hid (by rw [H1.out, List.length_take]; have := HN.out; omega)
  have HR5 : Hid (w5.rowIs g 57 (c * 2) f) := Lib.hid (rowIs_chg HR.out C5 (by simp))
  have HI : Hid (∀ x u, (plvs (wo nm (ps.take (n0 + 1))))[x]? = some u → f x = u) := Lib.hid (fun x u hu => HF.out x u (by
    rw [H1.out] at hu
    have hxl := (List.getElem?_eq_some_iff.1 hu).1
    rw [← List.take_append_drop n0 ps, plvs_append, List.getElem?_append_left hxl]
    exact hu))
  have HJ : Hid (∀ x u, (n0 + 1) * 2 ≤ x → (plvs ps)[x]? = some u → f x = u) := Lib.hid (fun x u _ hu => HF.out x u hu)
  have HC : Hid (Chg [g] w w5) := Lib.hid (C5.mono (by simp))
  clear C5 HC5 HR
  go_wp2_with fail
  go_loopw [5, 6] (fun v5 v6 wr => ∃ (j i : Nat) (f' : Nat → Value), v6 = .int .i64 (j : Int) ∧ v5 = .int .i64 (i : Int) ∧ i < j ∧ j ≤ n ∧ Hid ((wo nm (ps.take j)).length = i) ∧ Hid (wr.rowIs g 57 (c * 2) f') ∧ Hid (∀ x u, (plvs (wo nm (ps.take j)))[x]? = some u → f' x = u) ∧ Hid (∀ x u, j * 2 ≤ x → (plvs ps)[x]? = some u → f' x = u) ∧ Hid (Chg [g] w wr)) (fun _ v6 _ => n - (intOf v6).toNat)
  case atStart => exact ⟨n0 + 1, n0, f, by rw [Int.natCast_add]; rfl, rfl, by omega, by omega, HL, HR5, HI, HJ, HC⟩
  case round =>
    obtain ⟨j, i, f', rfl, rfl, hij, hjn, HL, HR, HI, HJ, HC⟩ := hrel
    by_cases hlt : j < n
    · have e1 : (j : Int) < n := by omega
      obtain ⟨x, hx⟩ : ∃ x, ps[j]? = some x := ⟨_, List.getElem?_eq_getElem (by have := HN.out; omega)⟩
      obtain ⟨q0, q1⟩ := plvs_at hx
      have y0 : wr.cell? ⟨g, j * 2, none⟩ = some (.string x.1) := by rw [HR.out.cell (by omega), HJ.out _ _ (by omega) q0]
      have y1 : wr.cell? ⟨g, j * 2 + 1, none⟩ = some (.int .i64 x.2) := by rw [HR.out.cell (by omega), HJ.out _ _ (by omega) q1]
      clear q0 q1
      go_upto_region 7 with (fail)
      go_upto_region 8 with (refine wpList_store_y 57 (.tmp 7) (.tmp 25) rfl rfl (.pointer (some ⟨wr.heap.size, 0, none⟩)) (.agg (plC x)) _ (run_storeAt_new wr _ #[.string ⟨#[]⟩, .int .i64 0] (plC x) Tryd.infoPl rfl (plC_one x)) rfl rfl ?_)
      have hq := heap_alloc_new wr (.cells (plC x) 57)
      have C6 := Chg.alloc [] wr (.cells (plC x) 57)
      generalize wr.alloc (.cells (plC x) 57) = w6 at *
      have HC6 := Lib.hid (HC.out.trans C6 (by simp))
      have HR6 := Lib.hid (rowIs_chg HR.out C6 (by simp))
      have hgq : g < wr.heap.size := HR.out.lt
      obtain ⟨q, hq0⟩ : ∃ q, wr.heap.size = q := ⟨_, rfl⟩
      rw [hq0] at hq hgq ⊢
      have z0 : w6.cell? ⟨q, 0, none⟩ = some (.string x.1) := by rw [cell_of_row _ _ _ _ _ _ hq]; rfl
      have z1 : w6.cell? ⟨q, 1, none⟩ = some (.int .i64 x.2) := by rw [cell_of_row _ _ _ _ _ _ hq]; rfl
      have KB := Lib.hid (HB.out w6 HC6.out x)
      clear C6 y0 y1 hq0 HC HR hq
      go_wp2_with fail
      refine KB.out.mono ?_
      rintro e w7 ⟨rfl, C7⟩
      have HC7 := Lib.hid (HC6.out.trans C7 (by simp))
      have HR7 := Lib.hid (rowIs_chg HR6.out C7 (by simp))
      have y0 := C7.cell_some z0 (by simp)
      have y1 := C7.cell_some z1 (by simp)
      clear C7 z0 z1 HC6 HR6 KB
      have HL2 : Hid ((wo nm (ps.take j)).length = i) := HL
      by_cases hB : x.1.toList = nm.toList
      · have hb : (x.1.toList == nm.toList) = true := by simpa using hB
        have hw := wo_in hx hB
        have HLn : Hid ((wo nm (ps.take (j + 1))).length = i) := Lib.hid (by rw [hw]; exact HL.out)
        have HIn : Hid (∀ x u, (plvs (wo nm (ps.take (j + 1))))[x]? = some u → f' x = u) := Lib.hid (by rw [hw]; exact HI.out)
        have HJn : Hid (∀ x u, (j + 1) * 2 ≤ x → (plvs ps)[x]? = some u → f' x = u) := Lib.hid (fun x u h => HJ.out x u (by omega))
        clear hB hx hw
        go_wp2_with fail
        go_roundw
        case rel =>
          refine ⟨_, _, _, _, _, _, _, _, _, _, _, _, _, _, _, _, _, _, _, _, _, _, _, ?_, rfl⟩
          exact ⟨j + 1, i, f', by rw [Int.natCast_add]; rfl, rfl, by omega, by omega, HLn, HR7, HIn, HJn, HC7⟩
        case measure => simp [intOf] <;> omega
      · have hb : (x.1.toList == nm.toList) = false := by simpa using hB
        have hw := wo_out hx hB
        have HLn : Hid ((wo nm (ps.take (j + 1))).length = i + 1) := Lib.hid (by rw [hw, List.length_append, HL.out]; rfl)
        have HR8 := Lib.hid (rowIs_setCells [.string x.1, .int .i64 x.2] (i * 2) w7 _ HR7.out)
        have HC8 : Hid (Chg [g] w (w7.setCells g (i * 2) [.string x.1, .int .i64 x.2])) := Lib.hid (HC7.out.trans (Chg.setCells (S := [g]) (by simp) _ _ _) (fun k hk => .inl hk))
        have HIn : Hid (∀ y u, (plvs (wo nm (ps.take (j + 1))))[y]? = some u → (fun y => if i * 2 ≤ y ∧ y < i * 2 + ([.string x.1, .int .i64 x.2] : List Value).length then ([.string x.1, .int .i64 x.2] : List Value)[y - i * 2]?.getD default else f' y) y = u) := Lib.hid (fun y u hu => by
          have hpl : (plvs (wo nm (ps.take j))).length = i * 2 := by rw [plvs_length, HL.out]
          rw [hw, plvs_append] at hu
          by_cases hy : y < i * 2
          · rw [List.getElem?_append_left (by omega)] at hu
            show (if _ then _ else _) = u
            rw [if_neg (by omega)]
            exact HI.out y u hu
          · rw [List.getElem?_append_right (by omega), hpl] at hu
            have hyl := (List.getElem?_eq_some_iff.1 hu).1
            have hyl2 : y - i * 2 < 2 := by simpa [plvs_length] using hyl
            show (if _ then _ else _) = u
            rw [if_pos ⟨by omega, by simp; omega⟩]
            have : plvs [x] = [.string x.1, .int .i64 x.2] := rfl
            rw [← this, hu]
            rfl)
        have HJn : Hid (∀ y u, (j + 1) * 2 ≤ y → (plvs ps)[y]? = some u → (fun y => if i * 2 ≤ y ∧ y < i * 2 + ([.string x.1, .int .i64 x.2] : List Value).length then ([.string x.1, .int .i64 x.2] : List Value)[y - i * 2]?.getD default else f' y) y = u) := Lib.hid (fun y u h hu => by
          show (if _ then _ else _) = u
          rw [if_neg (by simp; omega)]
          exact HJ.out y u (by omega) hu)
        clear hB hx hw
        go_upto_region 9 with (fail)
        go_upto_region 10 with (refine wpList_store_y 57 (.tmp 33) (.tmp 32) rfl rfl (.pointer (some ⟨g, i * 2, none⟩)) (.agg (plC x)) _ (store_mid w7 g i (c * 2) f' x HR7.out (by omega)) rfl rfl ?_)
        go_wp2_with fail
        go_roundw
        case rel =>
          refine ⟨_, _, _, _, _, _, _, _, _, _, _, _, _, _, _, _, _, _, _, _, _, _, _, ?_, rfl⟩
          exact ⟨j + 1, i + 1, _, by rw [Int.natCast_add]; rfl, by rw [Int.natCast_add]; rfl, by omega, by omega, HLn, HR8, HIn, HJn, HC8⟩
        case measure => simp [intOf] <;> omega
    · have e1 : ¬ ((j : Int) < n) := by omega
      have hjn2 : j = n := by omega
      have e2 : (i : Int) ≤ n := by omega
      have e3 : (0 : Int) ≤ (i : Int) := by omega
      have hclr := fun ty => clear_mid wr g i (n - i) (c - i) (c * 2) f' HR.out (by omega) (by omega) ty
      have hzl : (Builtin.zeroCells zPl.cells (n - i)).toList.length = (n - i) * 2 := by simp [Builtin.zeroCells, zPl, Value.cells]
      obtain ⟨Z, hZ⟩ : ∃ Z, (Builtin.zeroCells zPl.cells (n - i)).toList = Z := ⟨_, rfl⟩
      rw [hZ] at hclr hzl
      have HC8 : Hid (Chg [g] w (wr.setCells g (i * 2) Z)) := Lib.hid (HC.out.trans (Chg.setCells (S := [g]) (by simp) _ _ _) (fun k hk => .inl hk))
      have HR8 := Lib.hid (rowIs_setCells Z (i * 2) wr _ HR.out)
      have HWA : Hid (wo nm (ps.take j) = wo nm ps) := Lib.hid (by rw [hjn2, ← HN.out, List.take_length])
      clear hZ hjn2 hzl
      go_upto_region 11 with (fail)
      go_wp2_with fail
      have hlen : (wo nm ps).length = i := by rw [← HWA.out, HL.out]
      have hpl : (plvs (wo nm ps)).length = i * 2 := by rw [plvs_length, hlen]
      have hI := HI.out
      rw [HWA.out] at hI
      have hC := HC8.out.mono (T := T) (fun k hk => by simp at hk; subst hk; exact hT)
      obtain ⟨cc, hb8, hs8, hv8⟩ := HR8.out
      have hto : cc.toList.take (i * 2) = plvs (wo nm ps) := by
        apply List.ext_getElem?
        intro y
        rw [List.getElem?_take]
        by_cases hy : y < i * 2
        · rw [if_pos hy, Array.getElem?_toList, hv8 y (by omega)]
          show some (if _ then _ else _) = _
          rw [if_neg (by omega)]
          obtain ⟨u, hu⟩ : ∃ u, (plvs (wo nm ps))[y]? = some u := ⟨_, List.getElem?_eq_getElem (by omega)⟩
          rw [hu, hI y u hu]
        · rw [if_neg hy, List.getElem?_eq_none (by omega)]
      have hout : (wr.setCells g (i * 2) Z).ownsRow 0 57 2 (.slice (some ⟨g, 0, none⟩) i c) i (plvs (wo nm ps)) :=
        ⟨hpl, .inr ⟨g, c, cc, rfl, Nat.zero_le _, hb8, by omega, hcap2, hs8, hto⟩⟩
      have HOUT : Hid (DelF w (some ⟨g, 0, none⟩) ps nm T (.returned (.slice (some ⟨g, 0, none⟩) i c)) (wr.setCells g (i * 2) Z)) := Lib.hid ⟨c, by rw [hlen], by rw [hlen]; exact hout, hC⟩
      clear hlen hpl hI hC hb8 hs8 hv8 hto hout
      go_ret
      exact HOUT.out
end Go.Proofs.YtfdhpjflkimihaaDoor
/- Maps as lists: what stands in one behind an update or a delete. Plain; no conditions beyond those that each statement types. -/
namespace Go.Proofs.YtfdhpjflkimihaaDoor
open Go.RowKit

section
variable {κ : Type} [DecidableEq κ] {kvs : List (κ × Value)} {k : κ}
theorem midx_key {i : Nat} (h : midx kvs k = some i) : ∃ v, kvs[i]? = some (k, v) := by
  unfold midx kidx at h
  have := List.of_findIdx?_eq_some h
  rw [List.getElem?_map] at this
  cases hk : kvs[i]? with
  | none => rw [hk] at this; simp at this
  | some p =>
    rw [hk] at this
    simp at this
    obtain ⟨a, b⟩ := p
    simp at this
    exact ⟨b, by rw [this]⟩
theorem midx_none (h : midx kvs k = none) : ∀ p ∈ kvs, p.1 ≠ k := by
  unfold midx kidx at h
  rw [List.findIdx?_eq_none_iff] at h
  intro p hp hk
  have := h p.1 (List.mem_map_of_mem hp)
  simp [hk] at this
theorem mget_mem {v : Value} (h : mget kvs k = some v) : (k, v) ∈ kvs := by
  unfold mget at h
  cases hi : midx kvs k with
  | none => rw [hi] at h; simp at h
  | some i =>
    obtain ⟨u, hu⟩ := midx_key hi
    rw [hi, Option.bind_some, hu] at h
    simp at h
    subst h
    exact List.mem_of_getElem? hu
theorem mget_none (h : mget kvs k = none) : ∀ p ∈ kvs, p.1 ≠ k := by
  unfold mget at h
  cases hi : midx kvs k with
  | none => exact midx_none hi
  | some i =>
    obtain ⟨u, hu⟩ := midx_key hi
    rw [hi, Option.bind_some, hu] at h
    simp at h
omit [DecidableEq κ] in
theorem key_at {i j : Nat} {u v : Value} (hn : (kvs.map (·.1)).Nodup) (h : kvs[i]? = some (k, u)) (g : kvs[j]? = some (k, v)) : i = j := by
  have h1 : (kvs.map (·.1))[i]? = some k := by rw [List.getElem?_map, h]; rfl
  have h2 : (kvs.map (·.1))[j]? = some k := by rw [List.getElem?_map, g]; rfl
  obtain ⟨l1, e1⟩ := List.getElem?_eq_some_iff.1 h1
  obtain ⟨l2, e2⟩ := List.getElem?_eq_some_iff.1 h2
  rcases Nat.lt_trichotomy i j with h | h | h
  · exact absurd (e1.trans e2.symm) (List.pairwise_iff_getElem.1 hn i j l1 l2 h)
  · exact h
  · exact absurd (e2.trans e1.symm) (List.pairwise_iff_getElem.1 hn j i l2 l1 h)
theorem mput_mem (hn : (kvs.map (·.1)).Nodup) {v : Value} {p : κ × Value} (h : p ∈ mput kvs k v) : p = (k, v) ∨ (p ∈ kvs ∧ p.1 ≠ k) := by
  unfold mput at h
  cases hi : midx kvs k with
  | none =>
    rw [hi] at h
    simp at h
    rcases h with h | h
    · exact .inr ⟨h, midx_none hi p h⟩
    · exact .inl h
  | some i =>
    rw [hi] at h
    obtain ⟨u, hu⟩ := midx_key hi
    obtain ⟨j, hj⟩ := List.mem_iff_getElem?.1 h
    simp only [] at hj
    rw [List.getElem?_set] at hj
    split at hj
    · split at hj
      · cases hj; exact .inl rfl
      · cases hj
    · rename_i hij
      refine .inr ⟨List.mem_of_getElem? hj, fun hk => hij ?_⟩
      obtain ⟨a, b⟩ := p
      simp at hk
      subst hk
      exact key_at hn hu hj
theorem mput_self (v : Value) : (k, v) ∈ mput kvs k v := by
  unfold mput
  cases hi : midx kvs k with
  | none => simp
  | some i =>
    have := midx_lt hi
    exact List.mem_iff_getElem?.2 ⟨i, by simp [this]⟩
theorem mput_keys (v : Value) : (mput kvs k v).map (·.1) = if k ∈ kvs.map (·.1) then kvs.map (·.1) else kvs.map (·.1) ++ [k] := by
  unfold mput
  cases hi : midx kvs k with
  | none =>
    have h : k ∉ kvs.map (·.1) := by
      intro hm
      obtain ⟨p, hp, hk⟩ := List.mem_map.1 hm
      exact midx_none hi p hp hk
    rw [if_neg h]
    simp
  | some i =>
    obtain ⟨u, hu⟩ := midx_key hi
    have h : k ∈ kvs.map (·.1) := List.mem_map.2 ⟨_, List.mem_of_getElem? hu, rfl⟩
    rw [if_pos h]
    simp only [List.map_set]
    apply List.ext_getElem?
    intro j
    rw [List.getElem?_set]
    split
    · rename_i e
      subst e
      have hl := midx_lt hi
      rw [if_pos (by simpa using hl), List.getElem?_map, hu]
      rfl
    · rfl
theorem mput_nodup (hn : (kvs.map (·.1)).Nodup) (v : Value) : ((mput kvs k v).map (·.1)).Nodup := by
  rw [mput_keys]
  split
  · exact hn
  · rename_i h
    rw [List.nodup_append]
    exact ⟨hn, by simp, fun a ha b hb e => by simp at hb; subst hb; subst e; exact h ha⟩
theorem mput_has (v : Value) {x : κ} : x ∈ (mput kvs k v).map (·.1) ↔ x = k ∨ x ∈ kvs.map (·.1) := by
  rw [mput_keys]
  split
  · rename_i h
    exact ⟨.inr, fun e => e.elim (fun e => e ▸ h) id⟩
  · rw [List.mem_append, List.mem_singleton, Or.comm]
theorem mdel_mem (hn : (kvs.map (·.1)).Nodup) {p : κ × Value} (h : p ∈ mdel kvs k) : p ∈ kvs ∧ p.1 ≠ k := by
  unfold mdel at h
  cases hi : midx kvs k with
  | none => rw [hi] at h; exact ⟨h, midx_none hi p h⟩
  | some i =>
    rw [hi] at h
    obtain ⟨u, hu⟩ := midx_key hi
    obtain ⟨j, hj⟩ := List.mem_iff_getElem?.1 h
    simp only [] at hj
    rw [List.getElem?_eraseIdx] at hj
    split at hj
    · rename_i hji
      refine ⟨List.mem_of_getElem? hj, fun hk => ?_⟩
      obtain ⟨a, b⟩ := p
      simp at hk
      subst hk
      have := key_at hn hu hj
      omega
    · rename_i hji
      refine ⟨List.mem_of_getElem? hj, fun hk => ?_⟩
      obtain ⟨a, b⟩ := p
      simp at hk
      subst hk
      have := key_at hn hu hj
      omega
theorem mdel_nodup (hn : (kvs.map (·.1)).Nodup) : ((mdel kvs k).map (·.1)).Nodup := by
  unfold mdel
  cases midx kvs k with
  | none => exact hn
  | some i => exact hn.sublist ((List.eraseIdx_sublist kvs i).map _)
theorem mdel_has {x : κ} (h : x ∈ kvs.map (·.1)) (hx : x ≠ k) : x ∈ (mdel kvs k).map (·.1) := by
  unfold mdel
  cases hi : midx kvs k with
  | none => exact h
  | some i =>
    obtain ⟨u, hu⟩ := midx_key hi
    obtain ⟨p, hp, rfl⟩ := List.mem_map.1 h
    obtain ⟨j, hj⟩ := List.mem_iff_getElem?.1 hp
    refine List.mem_map.2 ⟨p, List.mem_iff_getElem?.2 ?_, rfl⟩
    have hij : i ≠ j := fun e => by subst e; rw [hu] at hj; cases hj; exact hx rfl
    by_cases hji : j < i
    · exact ⟨j, by simp only []; rw [List.getElem?_eraseIdx, if_pos hji]; exact hj⟩
    · exact ⟨j - 1, by simp only []; rw [List.getElem?_eraseIdx, if_neg (by omega), show j - 1 + 1 = j by omega]; exact hj⟩
end
end Go.Proofs.YtfdhpjflkimihaaDoor
/- The finder in memory, behind an update or a delete of its maps. No conditions beyond those that each statement types. -/
namespace Go.Proofs.YtfdhpjflkimihaaDoor
open Go.RowKit

theorem row_block {w : World} {B : Nat} {e : TypeId} {size : Nat} {v : Value} {n : Nat} {xs : List Value} {x : Nat} (h : w.ownsRow B e size v n xs) (hx : v.ownBlock = some x) : ∃ cur, w.heap[x]? = some (.cells cur e (0, 0)) := by
  rcases h.2 with ⟨rfl, _⟩ | ⟨g, cap, cur, rfl, _, hh, _⟩
  · simp [Value.ownBlock] at hx
  · simp [Value.ownBlock] at hx
    subst hx
    exact ⟨cur, hh⟩
theorem MapAt.not_cells {κ : Type} {enc : κ → Value} {w : World} {b : Nat} {kvs : List (κ × Value)} (h : MapAt enc w b kvs) {cs : Array Value} {t : TypeId} {fr : Nat × Nat} : w.heap[b]? ≠ some (.cells cs t fr) := by
  obtain ⟨es, c, hb, _⟩ := h
  rw [hb]
  intro e
  cases e
theorem PVal.nil (w : World) : PVal w (.slice none 0 0) [] := ⟨none, 0, rfl, rfl, .inl ⟨rfl, rfl⟩⟩
theorem PVal.block {w : World} {v : Value} {ps : List Pl} {x : Nat} (h : PVal w v ps) (hx : v.ownBlock = some x) : ∃ cur, w.heap[x]? = some (.cells cur 57 (0, 0)) := by
  obtain ⟨ao, c, rfl, ho⟩ := h
  exact row_block ho hx
theorem FVal.block {w : World} {v : Value} {d : List UInt8} {x : Nat} (h : FVal w v d) (hx : v.ownBlock = some x) : ∃ cur, w.heap[x]? = some (.cells cur 5 (0, 0)) := by
  obtain ⟨ao, c, rfl, ho⟩ := h
  exact row_block ho hx
/-- What stands of a digest in the map of places. -/
def plOf (pv : List (HKey × Value)) (k : HKey) : Value := (mget pv k).getD (.slice none 0 0)
section
variable {w w1 w2 : World} {b bf bp : Nat} {F : Files} {G : HKey → List Pl} {fv : List (ByteArray × Value)} {pv : List (HKey × Value)} {S : List Nat}
theorem FinderIs.old (H : FinderIs w b bf bp F G fv pv S) (k : HKey) : PVal w (plOf pv k) (G k) := by
  unfold plOf
  cases hk : mget pv k with
  | some v => exact H.pval _ (mget_mem hk)
  | none =>
    have : G k = [] := Classical.byContradiction fun h => by
      obtain ⟨p, hp, e⟩ := List.mem_map.1 (H.has k h)
      exact mget_none hk p hp e
    rw [this]
    exact PVal.nil w
theorem FinderIs.fval' (H : FinderIs w b bf bp F G fv pv S) {p : ByteArray × Value} (hp : p ∈ fv) : ∃ d, FVal w p.2 d := by
  obtain ⟨i, hi⟩ := List.mem_iff_getElem?.1 hp
  have hl : fv.length = F.length := by have := congrArg List.length H.names; simpa using this
  have hlt := (List.getElem?_eq_some_iff.1 hi).1
  exact ⟨_, H.fval i p _ hi (List.getElem?_eq_getElem (by omega))⟩
theorem FinderIs.congr (H : FinderIs w b bf bp F G fv pv S) {G' : HKey → List Pl} (h : ∀ k, G k = G' k) : FinderIs w b bf bp F G' fv pv S := by
  have : G = G' := funext h
  exact this ▸ H
theorem FinderIs.put (H : FinderIs w b bf bp F G fv pv S) (k : HKey) {T : List Nat} (C : Chg T w w1) (hT : ∀ x ∈ T, w.heap.size ≤ x ∨ (plOf pv k).ownBlock = some x)
    {v1 : Value} {ps' : List Pl} (hv : PVal w1 v1 ps') (hb : ∀ x, v1.ownBlock = some x → w.heap.size ≤ x ∨ (plOf pv k).ownBlock = some x)
    {S' : List Nat} (hS : ∀ x ∈ S, x ∈ S') (hvS : ∀ x, v1.ownBlock = some x → x ∈ S') (hlt : ∀ x ∈ S', x < w1.heap.size)
    (M : MapSet hkV bp (mput pv k v1) w1 w2) : FinderIs w2 b bf bp F (fun h => if h = k then ps' else G h) fv (mput pv k v1) S' := by
  have hcells : ∀ {x : Nat} {cs : Array Value} {t : TypeId} {fr : Nat × Nat}, w.heap[x]? = some (.cells cs t fr) → t ≠ 57 → x ∉ T := by
    intro x cs t fr hx ht hm
    rcases hT x hm with h | h
    · have := lt_of_block hx; omega
    · obtain ⟨cur, hc⟩ := (H.old k).block h
      rw [hx] at hc
      cases hc
      exact ht rfl
  have hmap : ∀ {x : Nat} {es : Array MapEntry} {c : Nat}, w.heap[x]? = some (.map es c) → x ∉ T := by
    intro x es c hx hm
    rcases hT x hm with h | h
    · have := lt_of_block hx; omega
    · obtain ⟨cur, hc⟩ := (H.old k).block h
      rw [hx] at hc
      cases hc
  have hbp : bp ∉ T := by obtain ⟨es, c, hx, _⟩ := H.places; exact hmap hx
  have hbf : bf ∉ T := by obtain ⟨es, c, hx, _⟩ := H.files; exact hmap hx
  have hb0 : b ∉ T := hcells H.head (by decide)
  have hne : ∀ {x : Nat} {cs : Array Value} {t : TypeId} {fr : Nat × Nat}, w.heap[x]? = some (.cells cs t fr) → x ≠ bp := by
    intro x cs t fr hx e
    subst e
    exact H.places.not_cells hx
  have P1 : MapAt hkV w1 bp pv := H.places.chg C hbp
  have hne1 : ∀ {x : Nat} {cs : Array Value} {t : TypeId} {fr : Nat × Nat}, w1.heap[x]? = some (.cells cs t fr) → x ≠ bp := by
    intro x cs t fr hx e
    subst e
    exact P1.not_cells hx
  have hout : ∀ p ∈ pv, p.1 ≠ k → ∀ x, p.2.ownBlock = some x → x ∉ T := by
    intro p hp hk x hx hm
    rcases hT x hm with h | h
    · have := H.lt x (H.po p hp x hx); omega
    · unfold plOf at h
      cases hg : mget pv k with
      | none => rw [hg] at h; simp [Value.ownBlock] at h
      | some v => rw [hg] at h; exact H.apart p hp _ (mget_mem hg) hk x hx h
  have hone : ∀ p ∈ pv, p.1 ≠ k → ∀ x, v1.ownBlock = some x → p.2.ownBlock ≠ some x := by
    intro p hp hk x hx hpx
    rcases hb x hx with h | h
    · have := H.lt x (H.po p hp x hpx); omega
    · unfold plOf at h
      cases hg : mget pv k with
      | none => rw [hg] at h; simp [Value.ownBlock] at h
      | some v => rw [hg] at h; exact H.apart p hp _ (mget_mem hg) hk x hpx h
  have hv2 : PVal w2 v1 ps' := hv.chg M.chg (fun x hx hm => by
    obtain ⟨cur, hc⟩ := hv.block hx
    exact hne1 hc (by simpa using hm))
  refine ⟨?_, ?_, M.map, H.names, fun i p q hp hq => ?_, mput_nodup H.keys _, fun p hp => ?_, fun x hx => ?_, H.ne, hS _ H.fb, hS _ H.ff, hS _ H.fp, fun p hp x hx => hS _ (H.fo p hp x hx), fun p hp x hx => ?_, fun p hp q hq hpq x hx => ?_, fun x hx => by rw [M.size]; exact hlt x hx⟩
  · have h1 := (C.block _ (lt_of_block H.head) hb0).trans H.head
    exact (M.chg.block _ (lt_of_block h1) (by simpa using hne1 h1)).trans h1
  · exact (H.files.chg C hbf).chg M.chg (by simpa using H.ne)
  · have hf := H.fval i p q hp hq
    refine (hf.chg C (fun x hx => ?_)).chg M.chg (fun x hx => ?_)
    · obtain ⟨cur, hc⟩ := hf.block hx
      exact hcells hc (by decide)
    · obtain ⟨cur, hc⟩ := hf.block hx
      simpa using hne hc
  · rcases mput_mem H.keys hp with rfl | ⟨hp, hk⟩
    · simpa using hv2
    · have h1 := H.pval p hp
      simp only [if_neg hk]
      refine (h1.chg C (hout p hp hk)).chg M.chg (fun x hx => ?_)
      obtain ⟨cur, hc⟩ := h1.block hx
      simpa using hne hc
  · rw [mput_has]
    by_cases hk : x = k
    · exact .inl hk
    · simp only [if_neg hk] at hx
      exact .inr (H.has x hx)
  · rcases mput_mem H.keys hp with rfl | ⟨hp, hk⟩
    · exact hvS x hx
    · exact hS _ (H.po p hp x hx)
  · rcases mput_mem H.keys hp with rfl | ⟨hp, hk⟩
    · rcases mput_mem H.keys hq with rfl | ⟨hq, hk'⟩
      · exact absurd rfl hpq
      · exact hone q hq hk' x hx
    · rcases mput_mem H.keys hq with rfl | ⟨hq, hk'⟩
      · intro he
        exact hone p hp hk x he hx
      · exact H.apart p hp q hq hpq x hx
theorem FinderIs.drop (H : FinderIs w b bf bp F G fv pv S) (k : HKey) (hk : G k = []) (M : MapSet hkV bp (mdel pv k) w w2) : FinderIs w2 b bf bp F G fv (mdel pv k) S := by
  have hne : ∀ {x : Nat} {cs : Array Value} {t : TypeId} {fr : Nat × Nat}, w.heap[x]? = some (.cells cs t fr) → x ∉ [bp] := by
    intro x cs t fr hx e
    simp at e
    subst e
    exact H.places.not_cells hx
  refine ⟨?_, ?_, M.map, H.names, fun i p q hp hq => ?_, mdel_nodup H.keys, fun p hp => ?_, fun x hx => ?_, H.ne, H.fb, H.ff, H.fp, H.fo, fun p hp => H.po p (mdel_mem H.keys hp).1, fun p hp q hq => H.apart p (mdel_mem H.keys hp).1 q (mdel_mem H.keys hq).1, fun x hx => by rw [M.size]; exact H.lt x hx⟩
  · exact (M.chg.block _ (lt_of_block H.head) (hne H.head)).trans H.head
  · exact H.files.chg M.chg (by simpa using H.ne)
  · have hf := H.fval i p q hp hq
    refine hf.chg M.chg (fun x hx => ?_)
    obtain ⟨cur, hc⟩ := hf.block hx
    exact hne hc
  · have h1 := H.pval p (mdel_mem H.keys hp).1
    refine h1.chg M.chg (fun x hx => ?_)
    obtain ⟨cur, hc⟩ := h1.block hx
    exact hne hc
  · exact mdel_has (H.has x hx) (fun e => by subst e; exact hx hk)
/-- A change of the map of files alone. -/
theorem FinderIs.refile (H : FinderIs w b bf bp F G fv pv S) {T : List Nat} (C : Chg T w w1) (hT : ∀ x ∈ T, w.heap.size ≤ x) {F' : Files} {fv' : List (ByteArray × Value)} {S' : List Nat} (M : MapSet (fun s : ByteArray => Value.string s) bf fv' w1 w2)
    (hn : fv'.map (·.1) = F'.map (·.1)) (hf : ∀ (i : Nat) p q, fv'[i]? = some p → F'[i]? = some q → FVal w1 p.2 q.2) (hS : ∀ x ∈ S, x ∈ S') (hfo : ∀ p ∈ fv', ∀ k, p.2.ownBlock = some k → k ∈ S') (hlt : ∀ k ∈ S', k < w1.heap.size) : FinderIs w2 b bf bp F' G fv' pv S' := by
  have H1 : FinderIs w1 b bf bp F G fv pv S := H.chg C (fun k hk hm => by have := H.lt k hk; have := hT k hm; omega)
  have hne : ∀ {x : Nat} {cs : Array Value} {t : TypeId} {fr : Nat × Nat}, w1.heap[x]? = some (.cells cs t fr) → x ∉ [bf] := by
    intro x cs t fr hx e
    simp at e
    subst e
    exact H1.files.not_cells hx
  refine ⟨?_, M.map, ?_, hn, fun i p q hp hq => ?_, H1.keys, fun p hp => ?_, H1.has, H1.ne, hS _ H1.fb, hS _ H1.ff, hS _ H1.fp, hfo, fun p hp k hk => hS _ (H1.po p hp k hk), H1.apart, fun x hx => by rw [M.size]; exact hlt x hx⟩
  · exact (M.chg.block _ (lt_of_block H1.head) (hne H1.head)).trans H1.head
  · exact H1.places.chg M.chg (by simpa using H1.ne.symm)
  · have h := hf i p q hp hq
    refine h.chg M.chg (fun x hx => ?_)
    obtain ⟨cur, hc⟩ := h.block hx
    exact hne hc
  · have h1 := H1.pval p hp
    refine h1.chg M.chg (fun x hx => ?_)
    obtain ⟨cur, hc⟩ := h1.block hx
    exact hne hc
end

/-- Files but for one. -/
def Fdel (F : Files) (nm : ByteArray) : Files := F.filter fun p => !decide (p.1 = nm)
theorem bytes_toList_ne (a b : ByteArray) : (a.toList != b.toList) = !decide (a = b) := by
  have h : (a.toList = b.toList) ↔ a = b := by
    constructor
    · intro h
      rw [ByteArray.toList_eq, ByteArray.toList_eq] at h
      exact ByteArray.ext (Array.toList_inj.1 h)
    · intro h; rw [h]
  rw [Bool.eq_iff_iff]
  simp [h]
theorem occTo_name (nm : ByteArray) (ks : List HKey) (h : HKey) : ∀ n, ∀ p ∈ occTo nm ks h n, p.1 = nm
  | 0 => by simp [occTo]
  | n + 1 => by
    intro p hp
    rw [occTo, List.mem_append] at hp
    rcases hp with hp | hp
    · exact occTo_name nm ks h n p hp
    · split at hp
      · simp at hp; rw [hp]
      · cases hp
theorem occTo_none (nm : ByteArray) (ks : List HKey) (h : HKey) (hn : h ∉ ks) : ∀ n, occTo nm ks h n = []
  | 0 => rfl
  | n + 1 => by
    rw [occTo, occTo_none nm ks h hn n, if_neg (fun e => hn (List.mem_of_getElem? e))]
    rfl
theorem wo_occ (nm : ByteArray) (F : Files) (h : HKey) : wo nm (occ F h) = occ (Fdel F nm) h := by
  unfold wo occ Fdel
  induction F with
  | nil => rfl
  | cons p F ih =>
    rw [List.flatMap_cons, List.filter_append, ih]
    by_cases hp : p.1 = nm
    · rw [List.filter_cons_of_neg (by simp [hp])]
      have : (occ1 p.1 p.2 h).filter (fun q => q.1.toList != nm.toList) = [] := by
        rw [List.filter_eq_nil_iff]
        intro q hq
        have := occTo_name _ _ _ _ q hq
        simp [this, hp]
      rw [this]
      rfl
    · rw [List.filter_cons_of_pos (by simpa using hp), List.flatMap_cons]
      congr 1
      rw [List.filter_eq_self]
      intro q hq
      have := occTo_name _ _ _ _ q hq
      rw [bytes_toList_ne, this]
      simpa using hp
theorem wo_idem (nm : ByteArray) (ps : List Pl) : wo nm (wo nm ps) = wo nm ps := by
  unfold wo
  rw [List.filter_filter]
  simp
/-- A digest that the file of a name does not have stands nowhere under that name. -/
theorem wo_out_of {nm : ByteArray} {F : Files} {d : List UInt8} (hn : (F.map (·.1)).Nodup) (hm : (nm, d) ∈ F) {h : HKey} (hh : h ∉ keysL d) : wo nm (occ F h) = occ F h := by
  unfold wo
  rw [List.filter_eq_self]
  intro q hq
  obtain ⟨p, hp, hqp⟩ := List.mem_flatMap.1 hq
  have hq1 := occTo_name _ _ _ _ q hqp
  rw [bytes_toList_ne, hq1]
  by_cases hpn : p.1 = nm
  · exfalso
    obtain ⟨i, hi⟩ := List.mem_iff_getElem?.1 hp
    obtain ⟨j, hj⟩ := List.mem_iff_getElem?.1 hm
    have h1 : (F.map (·.1))[i]? = some nm := by rw [List.getElem?_map, hi]; simp [hpn]
    have h2 : (F.map (·.1))[j]? = some nm := by rw [List.getElem?_map, hj]; rfl
    obtain ⟨l1, e1⟩ := List.getElem?_eq_some_iff.1 h1
    obtain ⟨l2, e2⟩ := List.getElem?_eq_some_iff.1 h2
    have hij : i = j := by
      rcases Nat.lt_trichotomy i j with h | h | h
      · exact absurd (e1.trans e2.symm) (List.pairwise_iff_getElem.1 hn i j l1 l2 h)
      · exact h
      · exact absurd (e2.trans e1.symm) (List.pairwise_iff_getElem.1 hn j i l2 l1 h)
    subst hij
    rw [hi] at hj
    cases hj
    unfold occ1 at hqp
    rw [occTo_none _ _ _ hh] at hqp
    cases hqp
  · simpa using hpn
/-- One of the names, erased. -/
theorem erase_named {α : Type} {nm : ByteArray} : ∀ {l : List (ByteArray × α)} {i : Nat} {a : α}, (l.map (·.1)).Nodup → l[i]? = some (nm, a) → l.eraseIdx i = l.filter fun p => !decide (p.1 = nm)
  | [], i, a, _, h => by simp at h
  | p :: l, 0, a, hn, h => by
    simp at h
    subst h
    rw [List.eraseIdx_cons_zero, List.filter_cons_of_neg (by simp), eq_comm, List.filter_eq_self]
    intro q hq
    have := (List.nodup_cons.1 hn).1
    have hne : q.1 ≠ nm := fun e => this (List.mem_map.2 ⟨q, hq, e⟩)
    simpa using hne
  | p :: l, i + 1, a, hn, h => by
    have hp : p.1 ≠ nm := fun e => (List.nodup_cons.1 hn).1 (List.mem_map.2 ⟨_, List.mem_of_getElem? (by simpa using h), e.symm⟩)
    rw [List.eraseIdx_cons_succ, List.filter_cons_of_pos (by simpa using hp), erase_named (List.nodup_cons.1 hn).2 (by simpa using h)]
end Go.Proofs.YtfdhpjflkimihaaDoor
