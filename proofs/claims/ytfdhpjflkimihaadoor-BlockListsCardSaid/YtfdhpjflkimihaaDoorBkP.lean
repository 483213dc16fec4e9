/- slices.DeleteFunc of the places of a name, walked. No conditions beyond those that each statement types. -/
import Derived.Test.YtfdhpjflkimihaaDoorBkN
import Derived.Lib.LazyBuf
import Derived.Deep.MidRow
import Derived.Deep.OwnRows
import Derived.Lib.SliceRun
namespace Go.Proofs.YtfdhpjflkimihaaDoor
open Go.RowKit

def wo (nm : ByteArray) (ps : List Pl) : List Pl := ps.filter fun p => p.1.toList != nm.toList
theorem wo_in {nm : ByteArray} {ps : List Pl} {j : Nat} {x : Pl} (h : ps[j]? = some x) (hx : x.1.toList = nm.toList) : wo nm (ps.take (j + 1)) = wo nm (ps.take j) := by
  have hlt := (List.getElem?_eq_some_iff.1 h)
  rw [List.take_add_one, h, wo, List.filter_append]
  simp [wo, hx]
theorem wo_out {nm : ByteArray} {ps : List Pl} {j : Nat} {x : Pl} (h : ps[j]? = some x) (hx : x.1.toList ≠ nm.toList) : wo nm (ps.take (j + 1)) = wo nm (ps.take j) ++ [x] := by
  rw [List.take_add_one, h, wo, List.filter_append]
  simp [wo, hx]
theorem wo_le (nm : ByteArray) (ps : List Pl) : (wo nm ps).length ≤ ps.length := List.length_filter_le _ _
theorem wo_all {nm : ByteArray} {ps : List Pl} (h : ∀ (i : Nat) (x : Pl), ps[i]? = some x → x.1.toList ≠ nm.toList) : wo nm ps = ps := by
  rw [wo, List.filter_eq_self]
  intro a ha
  obtain ⟨i, hi⟩ := List.mem_iff_getElem?.1 ha
  simpa using h i a hi
theorem rowIs_chg {w w' : World} {b : Nat} {t : TypeId} {n : Nat} {f : Nat → Value} {S : List Nat} (h : w.rowIs b t n f) (C : Chg S w w') (hn : b ∉ S) : w'.rowIs b t n f :=
  h.of_block (C.block b h.lt hn)
theorem there_row {w : World} {b : Nat} {t : TypeId} {n : Nat} {f : Nat → Value} (h : w.rowIs b t n f) (o m : Nat) (hm : o + m ≤ n) : w.there b o m := fun j hj =>
  ⟨by rw [h.cell (i := o + j) (by omega)]; rfl, h.frozen _⟩
theorem Chg.setCells {S : List Nat} {b : Nat} (hb : b ∈ S) : ∀ (vs : List Value) (o : Nat) (w : World), Chg S w (w.setCells b o vs)
  | [], _, _ => Chg.refl _ _
  | v :: r, o, w => (Chg.setCell (S := S) w ⟨b, o, none⟩ v (.inl hb)).trans (Chg.setCells hb r (o + 1) _) (fun _ hk => .inl hk)
/-- A place laid into a row. -/
theorem store_mid (w : World) (g i n : Nat) (f : Nat → Value) (p : Pl) (h : w.rowIs g 57 n f) (hi : i * 2 + 2 ≤ n) :
    (Instr.storeAt 57 (.pointer (some ⟨g, i * 2, none⟩)) (.agg (plC p))).run Tryd.prog w = .ok () (w.setCells g (i * 2) [.string p.1, .int .i64 p.2]) :=
  run_storeAt_mid w g (i * 2) _ (plC p) (there_row h _ 2 hi) Tryd.infoPl (plC_one p)
def zPl : Value := .agg #[.string ⟨#[]⟩, .int .i64 0]
theorem zero_pl (w : World) : (zeroValue 57).run Tryd.prog w = .ok zPl w := by kernel_rfl
theorem clear_mid (w : World) (g i m c n : Nat) (f : Nat → Value) (h : w.rowIs g 57 n f) (hi : i * 2 + m * 2 ≤ n) (hm : 0 < m) (ty : TypeId) :
    (Builtin.clear_ #[119] ty #[.slice (some ⟨g, i * 2, none⟩) m c]).run Tryd.prog w = .ok (.tuple #[]) (w.setCells g (i * 2) (Builtin.zeroCells zPl.cells m).toList) := by
  have hl : (Builtin.zeroCells zPl.cells m).toList.length = m * 2 := by simp [Builtin.zeroCells, zPl, Value.cells]
  have hst := run_storeCells_cells (P := Tryd.prog) g (i * 2) (Builtin.zeroCells zPl.cells m).toList 0 w (fun j hj => by rw [hl] at hj; rw [h.cell (i := i * 2 + 0 + j) (by omega)]; rfl) (fun j _ => h.frozen _) (by
    intro v hv
    simp [Builtin.zeroCells, zPl, Value.cells] at hv
    obtain ⟨a, _, rfl⟩ := hv
    rcases Nat.mod_two_eq_zero_or_one a with h | h <;> rw [h] <;> rfl)
  simp only [Nat.add_zero] at hst
  obtain ⟨k, rfl⟩ : ∃ k, m = k + 1 := ⟨m - 1, by omega⟩
  simp [Builtin.clear_, run_underlying Tryd.underlying119, Result.andThen]
  rw [show Value.agg #[.string ⟨#[]⟩, .int .i64 0] = zPl from rfl, hst]
theorem first_named (nm : ByteArray) : ∀ ps : List Pl, (∀ (i : Nat) (x : Pl), ps[i]? = some x → x.1.toList ≠ nm.toList) ∨ ∃ (n : Nat) (x : Pl), ps[n]? = some x ∧ x.1.toList = nm.toList ∧ ∀ (i : Nat) (y : Pl), i < n → ps[i]? = some y → y.1.toList ≠ nm.toList
  | [] => .inl (fun i x h => by simp at h)
  | p :: ps => by
    by_cases hp : p.1.toList = nm.toList
    · exact .inr ⟨0, p, rfl, hp, fun i y hi => by omega⟩
    · rcases first_named nm ps with h | ⟨n, x, hx, hn, hb⟩
      · refine .inl (fun i x hx => ?_)
        cases i with
        | zero => simp at hx; subst hx; exact hp
        | succ i => exact h i x (by simpa using hx)
      · refine .inr ⟨n + 1, x, by simpa using hx, hn, fun i y hi hy => ?_⟩
        cases i with
        | zero => simp at hy; subst hy; exact hp
        | succ i => exact hb i y (by omega) (by simpa using hy)
def DelF (w : World) (ao : Option Addr) (ps : List Pl) (nm : ByteArray) (T : List Nat) (e : Ending) (w' : World) : Prop :=
  ∃ c, e = .returned (.slice ao (wo nm ps).length c) ∧ w'.ownsRow 0 57 2 (.slice ao (wo nm ps).length c) (wo nm ps).length (plvs (wo nm ps)) ∧ Chg T w w'
set_option maxRecDepth 100000 in
set_option maxHeartbeats 4000000 in
theorem blk_delete_none (ps : List Pl) (nm : ByteArray) (ao : Option Addr) (c gb : Nat) (T : List Nat) (w : World) (ho : w.ownsRow 0 57 2 (.slice ao ps.length c) ps.length (plvs ps)) (hn : ps.length ≤ 1000000)
    (hb : w.cell? ⟨gb, 0, none⟩ = some (.string nm)) (hx : ∀ (i : Nat) (x : Pl), ps[i]? = some x → x.1.toList ≠ nm.toList) :
    Calls Tryd.prog 66 #[.slice ao ps.length c, .func (.func 67) #[] #[.pointer (some ⟨gb, 0, none⟩)]] w (DelF w ao ps nm T) := by
  have K := Lib.hid (blk_index ps nm (-1) ao c gb w ho hn hb (fun i x h h2 => absurd h2 (hx i x h)) (.inl rfl))
  have HW := Lib.hid (wo_all hx)
  have HO := Lib.hid ho
  clear ho hx
  go_enter Tryd.func66, Tryd.ntmps66
  go_wp2_with fail
  refine K.out.mono ?_
  rintro e w5 ⟨rfl, C5⟩
  have HC5 := Lib.hid C5
  go_wp2_with fail
  go_ret
  refine ⟨c, ?_, ?_, C5.mono (by simp)⟩
  · rw [HW.out]
    rfl
  · rw [HW.out]
    exact ownsRow_chg HO.out C5 (by simp)
set_option maxRecDepth 100000 in
set_option maxHeartbeats 4000000 in
theorem blk_delete_some (ps : List Pl) (nm : ByteArray) (g c gb : Nat) (T : List Nat) (w : World) (ho : w.ownsRow 0 57 2 (.slice (some ⟨g, 0, none⟩) ps.length c) ps.length (plvs ps)) (hn : ps.length ≤ 1000000)
    (hb : w.cell? ⟨gb, 0, none⟩ = some (.string nm)) (hT : g ∈ T) (hbT : gb ≠ g) (n0 : Nat) (x0 : Pl) (hx0 : ps[n0]? = some x0) (hxn : x0.1.toList = nm.toList) (hbe : ∀ (i : Nat) (y : Pl), i < n0 → ps[i]? = some y → y.1.toList ≠ nm.toList) :
    Calls Tryd.prog 66 #[.slice (some ⟨g, 0, none⟩) ps.length c, .func (.func 67) #[] #[.pointer (some ⟨gb, 0, none⟩)]] w (DelF w (some ⟨g, 0, none⟩) ps nm T) := by
  have K := Lib.hid (blk_index ps nm (n0 : Int) (some ⟨g, 0, none⟩) c gb w ho hn hb (fun i x h h2 => ⟨by omega, by
    by_cases hi : i < n0
    · exact absurd h2 (hbe i x hi h)
    · omega⟩) (.inr ⟨n0, x0, rfl, hx0, hxn⟩))
  have hlt0 := (List.getElem?_eq_some_iff.1 hx0).1
  obtain ⟨f, hrow, hf, hcap, hcap2⟩ : ∃ f : Nat → Value, w.rowIs g 57 (c * 2) f ∧ (∀ x u, (plvs ps)[x]? = some u → f x = u) ∧ ps.length ≤ c ∧ c ≤ maxLen := by
    rcases ho.2 with ⟨h, _⟩ | ⟨g', cap, cur, hv, _, hg, h1, h2, h3, h4⟩
    · cases h
    · cases hv
      refine ⟨fun x => cur[x]?.getD default, ⟨cur, hg, h3, fun i hi => by simp [show i < cur.size by omega]⟩, fun x u hu => ?_, h1, h2⟩
      rw [← h4, List.getElem?_take] at hu
      split at hu
      · show cur[x]?.getD default = u
        rw [← Array.getElem?_toList, hu]
        rfl
      · cases hu
  have hw0 : wo nm (ps.take n0) = ps.take n0 := wo_all (fun i x h => by
    rw [List.getElem?_take] at h
    split at h
    · exact hbe i x (by omega) h
    · cases h)
  have hw1 : wo nm (ps.take (n0 + 1)) = ps.take n0 := by rw [wo_in hx0 hxn, hw0]
  obtain ⟨n, hn1⟩ : ∃ n, ps.length = n := ⟨_, rfl⟩
  have HN := Lib.hid hn1
  have HB := Lib.hid (fun wr (C : Chg [g] w wr) (p : Pl) => blk_named p nm gb wr (C.cell_some hb (by simpa using hbT)))
  have hn2 : n ≤ 1000000 := by omega
  have H1 : Hid (wo nm (ps.take (n0 + 1)) = ps.take n0) := Lib.hid hw1
  have HF : Hid (∀ x u, (plvs ps)[x]? = some u → f x = u) := Lib.hid hf
  have HR : Hid (w.rowIs g 57 (c * 2) f) := Lib.hid hrow
  have HX : Hid (∀ (i : Nat) (y : Pl), ps[i]? = some y → y = y) := Lib.hid (fun _ _ _ => rfl)
  have e0 : ¬ ((n0 : Int) = -1) := by omega
  rw [hn1] at hlt0 hcap ⊢
  rw [hn1] at K
  clear ho hn hn1 hb hx0 hxn hbe hw0 hw1 hf hrow HX
  go_enter Tryd.func66, Tryd.ntmps66
  go_wp2_with fail
  refine K.out.mono ?_
  rintro e w5 ⟨rfl, C5⟩
  have HC5 := Lib.hid C5
  clear K
  have HL : Hid ((wo nm (ps.take (n0 + 1))).length = n0) := Lib.hid (by rw [H1.out, List.length_take]; have := HN.out; omega)
  have HR5 : Hid (w5.rowIs g 57 (c * 2) f) := Lib.hid (rowIs_chg HR.out C5 (by simp))
  have HI : Hid (∀ x u, (plvs (wo nm (ps.take (n0 + 1))))[x]? = some u → f x = u) := Lib.hid (fun x u hu => HF.out x u (by
    rw [H1.out] at hu
    have hxl := (List.getElem?_eq_some_iff.1 hu).1
    rw [← List.take_append_drop n0 ps, plvs_append, List.getElem?_append_left hxl]
    exact hu))
  have HJ : Hid (∀ x u, (n0 + 1) * 2 ≤ x → (plvs ps)[x]? = some u → f x = u) := Lib.hid (fun x u _ hu => HF.out x u hu)
  have HC : Hid (Chg [g] w w5) := Lib.hid (C5.mono (by simp))
  clear C5 HC5 HR
  go_wp2_with fail
  go_loopw [5, 6] (fun v5 v6 wr => ∃ (j i : Nat) (f' : Nat → Value), v6 = .int .i64 (j : Int) ∧ v5 = .int .i64 (i : Int) ∧ i < j ∧ j ≤ n ∧ Hid ((wo nm (ps.take j)).length = i) ∧ Hid (wr.rowIs g 57 (c * 2) f') ∧ Hid (∀ x u, (plvs (wo nm (ps.take j)))[x]? = some u → f' x = u) ∧ Hid (∀ x u, j * 2 ≤ x → (plvs ps)[x]? = some u → f' x = u) ∧ Hid (Chg [g] w wr)) (fun _ v6 _ => n - (intOf v6).toNat)
  case atStart => exact ⟨n0 + 1, n0, f, by rw [Int.natCast_add]; rfl, rfl, by omega, by omega, HL, HR5, HI, HJ, HC⟩
  case round =>
    obtain ⟨j, i, f', rfl, rfl, hij, hjn, HL, HR, HI, HJ, HC⟩ := hrel
    by_cases hlt : j < n
    · have e1 : (j : Int) < n := by omega
      obtain ⟨x, hx⟩ : ∃ x, ps[j]? = some x := ⟨_, List.getElem?_eq_getElem (by have := HN.out; omega)⟩
      obtain ⟨q0, q1⟩ := plvs_at hx
      have y0 : wr.cell? ⟨g, j * 2, none⟩ = some (.string x.1) := by rw [HR.out.cell (by omega), HJ.out _ _ (by omega) q0]
      have y1 : wr.cell? ⟨g, j * 2 + 1, none⟩ = some (.int .i64 x.2) := by rw [HR.out.cell (by omega), HJ.out _ _ (by omega) q1]
      clear q0 q1
      go_upto_region 7 with (fail)
      go_upto_region 8 with (refine wpList_store_y 57 (.tmp 7) (.tmp 25) rfl rfl (.pointer (some ⟨wr.heap.size, 0, none⟩)) (.agg (plC x)) _ (run_storeAt_new wr _ #[.string ⟨#[]⟩, .int .i64 0] (plC x) Tryd.infoPl rfl (plC_one x)) rfl rfl ?_)
      have hq := heap_alloc_new wr (.cells (plC x) 57)
      have C6 := Chg.alloc [] wr (.cells (plC x) 57)
      generalize wr.alloc (.cells (plC x) 57) = w6 at *
      have HC6 := Lib.hid (HC.out.trans C6 (by simp))
      have HR6 := Lib.hid (rowIs_chg HR.out C6 (by simp))
      have hgq : g < wr.heap.size := HR.out.lt
      obtain ⟨q, hq0⟩ : ∃ q, wr.heap.size = q := ⟨_, rfl⟩
      rw [hq0] at hq hgq ⊢
      have z0 : w6.cell? ⟨q, 0, none⟩ = some (.string x.1) := by rw [cell_of_row _ _ _ _ _ _ hq]; rfl
      have z1 : w6.cell? ⟨q, 1, none⟩ = some (.int .i64 x.2) := by rw [cell_of_row _ _ _ _ _ _ hq]; rfl
      have KB := Lib.hid (HB.out w6 HC6.out x)
      clear C6 y0 y1 hq0 HC HR hq
      go_wp2_with fail
      refine KB.out.mono ?_
      rintro e w7 ⟨rfl, C7⟩
      have HC7 := Lib.hid (HC6.out.trans C7 (by simp))
      have HR7 := Lib.hid (rowIs_chg HR6.out C7 (by simp))
      have y0 := C7.cell_some z0 (by simp)
      have y1 := C7.cell_some z1 (by simp)
      clear C7 z0 z1 HC6 HR6 KB
      have HL2 : Hid ((wo nm (ps.take j)).length = i) := HL
      by_cases hB : x.1.toList = nm.toList
      · have hb : (x.1.toList == nm.toList) = true := by simpa using hB
        have hw := wo_in hx hB
        have HLn : Hid ((wo nm (ps.take (j + 1))).length = i) := Lib.hid (by rw [hw]; exact HL.out)
        have HIn : Hid (∀ x u, (plvs (wo nm (ps.take (j + 1))))[x]? = some u → f' x = u) := Lib.hid (by rw [hw]; exact HI.out)
        have HJn : Hid (∀ x u, (j + 1) * 2 ≤ x → (plvs ps)[x]? = some u → f' x = u) := Lib.hid (fun x u h => HJ.out x u (by omega))
        clear hB hx hw
        go_wp2_with fail
        go_roundw
        case rel =>
          refine ⟨_, _, _, _, _, _, _, _, _, _, _, _, _, _, _, _, _, _, _, _, _, _, _, ?_, rfl⟩
          exact ⟨j + 1, i, f', by rw [Int.natCast_add]; rfl, rfl, by omega, by omega, HLn, HR7, HIn, HJn, HC7⟩
        case measure => simp [intOf] <;> omega
      · have hb : (x.1.toList == nm.toList) = false := by simpa using hB
        have hw := wo_out hx hB
        have HLn : Hid ((wo nm (ps.take (j + 1))).length = i + 1) := Lib.hid (by rw [hw, List.length_append, HL.out]; rfl)
        have HR8 := Lib.hid (rowIs_setCells [.string x.1, .int .i64 x.2] (i * 2) w7 _ HR7.out)
        have HC8 : Hid (Chg [g] w (w7.setCells g (i * 2) [.string x.1, .int .i64 x.2])) := Lib.hid (HC7.out.trans (Chg.setCells (S := [g]) (by simp) _ _ _) (fun k hk => .inl hk))
        have HIn : Hid (∀ y u, (plvs (wo nm (ps.take (j + 1))))[y]? = some u → (fun y => if i * 2 ≤ y ∧ y < i * 2 + ([.string x.1, .int .i64 x.2] : List Value).length then ([.string x.1, .int .i64 x.2] : List Value)[y - i * 2]?.getD default else f' y) y = u) := Lib.hid (fun y u hu => by
          have hpl : (plvs (wo nm (ps.take j))).length = i * 2 := by rw [plvs_length, HL.out]
          rw [hw, plvs_append] at hu
          by_cases hy : y < i * 2
          · rw [List.getElem?_append_left (by omega)] at hu
            show (if _ then _ else _) = u
            rw [if_neg (by omega)]
            exact HI.out y u hu
          · rw [List.getElem?_append_right (by omega), hpl] at hu
            have hyl := (List.getElem?_eq_some_iff.1 hu).1
            have hyl2 : y - i * 2 < 2 := by simpa [plvs_length] using hyl
            show (if _ then _ else _) = u
            rw [if_pos ⟨by omega, by simp; omega⟩]
            have : plvs [x] = [.string x.1, .int .i64 x.2] := rfl
            rw [← this, hu]
            rfl)
        have HJn : Hid (∀ y u, (j + 1) * 2 ≤ y → (plvs ps)[y]? = some u → (fun y => if i * 2 ≤ y ∧ y < i * 2 + ([.string x.1, .int .i64 x.2] : List Value).length then ([.string x.1, .int .i64 x.2] : List Value)[y - i * 2]?.getD default else f' y) y = u) := Lib.hid (fun y u h hu => by
          show (if _ then _ else _) = u
          rw [if_neg (by simp; omega)]
          exact HJ.out y u (by omega) hu)
        clear hB hx hw
        go_upto_region 9 with (fail)
        go_upto_region 10 with (refine wpList_store_y 57 (.tmp 33) (.tmp 32) rfl rfl (.pointer (some ⟨g, i * 2, none⟩)) (.agg (plC x)) _ (store_mid w7 g i (c * 2) f' x HR7.out (by omega)) rfl rfl ?_)
        go_wp2_with fail
        go_roundw
        case rel =>
          refine ⟨_, _, _, _, _, _, _, _, _, _, _, _, _, _, _, _, _, _, _, _, _, _, _, ?_, rfl⟩
          exact ⟨j + 1, i + 1, _, by rw [Int.natCast_add]; rfl, by rw [Int.natCast_add]; rfl, by omega, by omega, HLn, HR8, HIn, HJn, HC8⟩
        case measure => simp [intOf] <;> omega
    · have e1 : ¬ ((j : Int) < n) := by omega
      have hjn2 : j = n := by omega
      have e2 : (i : Int) ≤ n := by omega
      have e3 : (0 : Int) ≤ (i : Int) := by omega
      have hclr := fun ty => clear_mid wr g i (n - i) (c - i) (c * 2) f' HR.out (by omega) (by omega) ty
      have hzl : (Builtin.zeroCells zPl.cells (n - i)).toList.length = (n - i) * 2 := by simp [Builtin.zeroCells, zPl, Value.cells]
      obtain ⟨Z, hZ⟩ : ∃ Z, (Builtin.zeroCells zPl.cells (n - i)).toList = Z := ⟨_, rfl⟩
      rw [hZ] at hclr hzl
      have HC8 : Hid (Chg [g] w (wr.setCells g (i * 2) Z)) := Lib.hid (HC.out.trans (Chg.setCells (S := [g]) (by simp) _ _ _) (fun k hk => .inl hk))
      have HR8 := Lib.hid (rowIs_setCells Z (i * 2) wr _ HR.out)
      have HWA : Hid (wo nm (ps.take j) = wo nm ps) := Lib.hid (by rw [hjn2, ← HN.out, List.take_length])
      clear hZ hjn2 hzl
      go_upto_region 11 with (fail)
      go_wp2_with fail
      have hlen : (wo nm ps).length = i := by rw [← HWA.out, HL.out]
      have hpl : (plvs (wo nm ps)).length = i * 2 := by rw [plvs_length, hlen]
      have hI := HI.out
      rw [HWA.out] at hI
      have hC := HC8.out.mono (T := T) (fun k hk => by simp at hk; subst hk; exact hT)
      obtain ⟨cc, hb8, hs8, hv8⟩ := HR8.out
      have hto : cc.toList.take (i * 2) = plvs (wo nm ps) := by
        apply List.ext_getElem?
        intro y
        rw [List.getElem?_take]
        by_cases hy : y < i * 2
        · rw [if_pos hy, Array.getElem?_toList, hv8 y (by omega)]
          show some (if _ then _ else _) = _
          rw [if_neg (by omega)]
          obtain ⟨u, hu⟩ : ∃ u, (plvs (wo nm ps))[y]? = some u := ⟨_, List.getElem?_eq_getElem (by omega)⟩
          rw [hu, hI y u hu]
        · rw [if_neg hy, List.getElem?_eq_none (by omega)]
      have hout : (wr.setCells g (i * 2) Z).ownsRow 0 57 2 (.slice (some ⟨g, 0, none⟩) i c) i (plvs (wo nm ps)) :=
        ⟨hpl, .inr ⟨g, c, cc, rfl, Nat.zero_le _, hb8, by omega, hcap2, hs8, hto⟩⟩
      have HOUT : Hid (DelF w (some ⟨g, 0, none⟩) ps nm T (.returned (.slice (some ⟨g, 0, none⟩) i c)) (wr.setCells g (i * 2) Z)) := Lib.hid ⟨c, by rw [hlen], by rw [hlen]; exact hout, hC⟩
      clear hlen hpl hI hC hb8 hs8 hv8 hto hout
      go_ret
      exact HOUT.out
end Go.Proofs.YtfdhpjflkimihaaDoor
