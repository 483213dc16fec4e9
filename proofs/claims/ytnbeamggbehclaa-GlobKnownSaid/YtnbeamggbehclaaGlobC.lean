/- A pattern in memory; mark and marks. No conditions beyond those that each statement types. -/
import Derived.Test.YtnbeamggbehclaaGlobB
import Derived.Test.YtnbeamggbehclaaRows
import Derived.Deep.WholeRow
namespace Go.Proofs.Ytnbeamggbehclaa
open Go.RowKit

/-- A pattern's own fields. -/
structure PS where
  text : ByteArray
  neg : Bool
  del : Bool
  fold : Bool
  root : Bool
  ev : Value
def PS.cells (p : PS) : Array Value := #[.string p.text, .bool p.neg, .bool p.del, .bool p.fold, .bool p.root, p.ev]
def PatAt (w : World) (b : Nat) (p : PS) : Prop := w.heap[b]? = some (.cells p.cells 43 (0, 0))
theorem PatAt.lt {w : World} {b : Nat} {p : PS} (h : PatAt w b p) : b < w.heap.size := lt_of_block h
theorem PatAt.chg {w w' : World} {b : Nat} {p : PS} {S : List Nat} (h : PatAt w b p) (hc : Chg S w w') (hn : b ∉ S) : PatAt w' b p :=
  (hc.block b h.lt hn).trans h
theorem PatAt.text {w : World} {b : Nat} {p : PS} (h : PatAt w b p) : w.cell? ⟨b, 0, none⟩ = some (.string p.text) := by rw [cell_of_row w b 0 _ _ _ h]; rfl
theorem PatAt.neg {w : World} {b : Nat} {p : PS} (h : PatAt w b p) : w.cell? ⟨b, 1, none⟩ = some (.bool p.neg) := by rw [cell_of_row w b 1 _ _ _ h]; rfl
theorem PatAt.del {w : World} {b : Nat} {p : PS} (h : PatAt w b p) : w.cell? ⟨b, 2, none⟩ = some (.bool p.del) := by rw [cell_of_row w b 2 _ _ _ h]; rfl
theorem PatAt.fold {w : World} {b : Nat} {p : PS} (h : PatAt w b p) : w.cell? ⟨b, 3, none⟩ = some (.bool p.fold) := by rw [cell_of_row w b 3 _ _ _ h]; rfl
theorem PatAt.root {w : World} {b : Nat} {p : PS} (h : PatAt w b p) : w.cell? ⟨b, 4, none⟩ = some (.bool p.root) := by rw [cell_of_row w b 4 _ _ _ h]; rfl
theorem PatAt.ev {w : World} {b : Nat} {p : PS} (h : PatAt w b p) : w.cell? ⟨b, 5, none⟩ = some p.ev := by rw [cell_of_row w b 5 _ _ _ h]; rfl
theorem PatAt.frozen {w : World} {b : Nat} {p : PS} (h : PatAt w b p) (i : Nat) : w.frozen? ⟨b, i, none⟩ = false := frozen_of_row w b i _ _ h
theorem PatAt.setNeg {w : World} {b : Nat} {p : PS} (h : PatAt w b p) (v : Bool) : PatAt (w.setCell ⟨b, 1, none⟩ (.bool v)) b { p with neg := v } := heap_setCell_same w b 1 _ _ _ h
theorem PatAt.setDel {w : World} {b : Nat} {p : PS} (h : PatAt w b p) (v : Bool) : PatAt (w.setCell ⟨b, 2, none⟩ (.bool v)) b { p with del := v } := heap_setCell_same w b 2 _ _ _ h
theorem PatAt.setFold {w : World} {b : Nat} {p : PS} (h : PatAt w b p) (v : Bool) : PatAt (w.setCell ⟨b, 3, none⟩ (.bool v)) b { p with fold := v } := heap_setCell_same w b 3 _ _ _ h
theorem PatAt.setRoot {w : World} {b : Nat} {p : PS} (h : PatAt w b p) (v : Bool) : PatAt (w.setCell ⟨b, 4, none⟩ (.bool v)) b { p with root := v } := heap_setCell_same w b 4 _ _ _ h
theorem PatAt.setEv {w : World} {b : Nat} {p : PS} (h : PatAt w b p) (v : Value) : PatAt (w.setCell ⟨b, 5, none⟩ v) b { p with ev := v } := heap_setCell_same w b 5 _ _ _ h

/-! The first marks. -/
inductive MKd where
  | neg
  | fold
  | del
def MKd.off : MKd → Nat
  | .neg => 1
  | .fold => 3
  | .del => 2
def mark1 (l : List UInt8) : Option (MKd × Nat) :=
  if pre [33] l then some (.neg, 1) else if pre [40, 63, 105, 41] l then some (.fold, 4) else if pre [40, 63, 100, 41] l then some (.del, 4) else none
/-- What a text's first marks say. -/
structure Mk where
  neg : Bool
  del : Bool
  fold : Bool
def Mk.get (m : Mk) : MKd → Bool
  | .neg => m.neg
  | .fold => m.fold
  | .del => m.del
def Mk.put (m : Mk) : MKd → Mk
  | .neg => { m with neg := true }
  | .fold => { m with fold := true }
  | .del => { m with del := true }
def marksF : Nat → List UInt8 → Mk → Option (Mk × List UInt8)
  | 0, l, m => some (m, l)
  | k + 1, l, m => match mark1 l with
    | none => some (m, l)
    | some (d, n) => if m.get d then none else marksF k (l.drop n) (m.put d)
def marksOf (l : List UInt8) (m : Mk) : Option (Mk × List UInt8) := marksF (l.length + 1) l m
theorem pre_len {p l : List UInt8} (h : pre p l = true) : p.length ≤ l.length := (List.isPrefixOf_iff_prefix.1 h).length_le
theorem mark1_pos {l : List UInt8} {d : MKd} {n : Nat} (h : mark1 l = some (d, n)) : 0 < n ∧ n ≤ l.length := by
  unfold mark1 at h
  split at h
  · rename_i h1
    have := pre_len h1
    cases h
    simp at this
    omega
  · split at h
    · rename_i h1
      have := pre_len h1
      cases h
      simp at this
      omega
    · split at h
      · rename_i h1
        have := pre_len h1
        cases h
        simp at this
        omega
      · cases h
theorem marksF_more : ∀ (k j : Nat) (l : List UInt8) (m : Mk), l.length < k → l.length < j → marksF k l m = marksF j l m
  | 0, _, l, _, h, _ => by omega
  | _, 0, l, _, _, h => by omega
  | k + 1, j + 1, l, m, hk, hj => by
    rw [marksF, marksF]
    cases hm : mark1 l with
    | none => rfl
    | some x =>
      obtain ⟨d, n⟩ := x
      have := mark1_pos hm
      simp only
      split
      · rfl
      · exact marksF_more k j _ _ (by rw [List.length_drop]; omega) (by rw [List.length_drop]; omega)
theorem marksOf_eq (l : List UInt8) (m : Mk) : marksOf l m = match mark1 l with
    | none => some (m, l)
    | some (d, n) => if m.get d then none else marksOf (l.drop n) (m.put d) := by
  rw [marksOf, marksF]
  cases hm : mark1 l with
  | none => rfl
  | some x =>
    obtain ⟨d, n⟩ := x
    have := mark1_pos hm
    simp only
    split
    · rfl
    · exact marksF_more _ _ _ _ (by rw [List.length_drop]; omega) (by omega)

def markV (b : Nat) (l : List UInt8) : Value := match mark1 l with
  | none => .tuple #[.pointer none, .int .i64 0]
  | some (d, n) => .tuple #[.pointer (some ⟨b, d.off, none⟩), .int .i64 n]
theorem glob_mark (b : Nat) (s : ByteArray) (w : World) : Calls Try.prog 37 #[.pointer (some ⟨b, 0, none⟩), .string s] w fun e w' => e = .returned (markV b s.data.toList) ∧ w' = w := by
  have K1 := Lib.hid (glob_hasPrefixS s ⟨#[33]⟩)
  have K2 := Lib.hid (glob_hasPrefixS s ⟨#[40, 63, 105, 41]⟩)
  have K3 := Lib.hid (glob_hasPrefixS s ⟨#[40, 63, 100, 41]⟩)
  unfold markV mark1
  have e1 : (⟨#[33]⟩ : ByteArray).data.toList = [33] := rfl
  have e2 : (⟨#[40, 63, 105, 41]⟩ : ByteArray).data.toList = [40, 63, 105, 41] := rfl
  have e3 : (⟨#[40, 63, 100, 41]⟩ : ByteArray).data.toList = [40, 63, 100, 41] := rfl
  rw [e1] at K1
  rw [e2] at K2
  rw [e3] at K3
  clear e1 e2 e3
  generalize pre [33] s.data.toList = b1 at *
  generalize pre [40, 63, 105, 41] s.data.toList = b2 at *
  generalize pre [40, 63, 100, 41] s.data.toList = b3 at *
  cases b1 with
  | true =>
    go_enter Try.func37, Try.ntmps37
    go_wp2_with fail
    refine (K1.out _).mono ?_
    rintro e w' ⟨rfl, rfl⟩
    go_wp2_with fail
    go_ret2
    exact ⟨rfl, rfl⟩
  | false =>
    cases b2 with
    | true =>
      go_enter Try.func37, Try.ntmps37
      go_wp2_with fail
      refine (K1.out _).mono ?_
      rintro e w' ⟨rfl, rfl⟩
      go_wp2_with fail
      refine (K2.out _).mono ?_
      rintro e w' ⟨rfl, rfl⟩
      go_wp2_with fail
      go_ret2
      exact ⟨rfl, rfl⟩
    | false =>
      cases b3 with
      | true =>
        go_enter Try.func37, Try.ntmps37
        go_wp2_with fail
        refine (K1.out _).mono ?_
        rintro e w' ⟨rfl, rfl⟩
        go_wp2_with fail
        refine (K2.out _).mono ?_
        rintro e w' ⟨rfl, rfl⟩
        go_wp2_with fail
        refine (K3.out _).mono ?_
        rintro e w' ⟨rfl, rfl⟩
        go_wp2_with fail
        go_ret2
        exact ⟨rfl, rfl⟩
      | false =>
        go_enter Try.func37, Try.ntmps37
        go_wp2_with fail
        refine (K1.out _).mono ?_
        rintro e w' ⟨rfl, rfl⟩
        go_wp2_with fail
        refine (K2.out _).mono ?_
        rintro e w' ⟨rfl, rfl⟩
        go_wp2_with fail
        refine (K3.out _).mono ?_
        rintro e w' ⟨rfl, rfl⟩
        go_wp2_with fail
        go_ret2
        exact ⟨rfl, rfl⟩

def PS.mk' (p : PS) (m : Mk) : PS := { p with neg := m.neg, del := m.del, fold := m.fold }
def lenOf : Value → Nat
  | .string t => t.size
  | _ => 0
theorem PatAt.mark {w : World} {b : Nat} {p : PS} {m : Mk} (h : PatAt w b (p.mk' m)) (d : MKd) : w.cell? ⟨b, d.off, none⟩ = some (.bool (m.get d)) := by
  cases d with
  | neg => exact h.neg
  | fold => exact h.fold
  | del => exact h.del
theorem PatAt.put {w : World} {b : Nat} {p : PS} {m : Mk} (h : PatAt w b (p.mk' m)) (d : MKd) : PatAt (w.setCell ⟨b, d.off, none⟩ (.bool true)) b (p.mk' (m.put d)) := by
  cases d with
  | neg => exact h.setNeg true
  | fold => exact h.setFold true
  | del => exact h.setDel true

/-- What marks leaves. -/
def Marked (W : World) (b : Nat) (p : PS) (r : Option (Mk × List UInt8)) (e : Ending) (w' : World) : Prop :=
  Chg [b] W w' ∧ match r with
    | none => e = .returned (.tuple #[.string ⟨#[]⟩, .bool false])
    | some (m, l) => ∃ t : ByteArray, t.data.toList = (if pre [47] l then l.drop 1 else l) ∧ e = .returned (.tuple #[.string t, .bool (decide (0 < t.size))]) ∧ PatAt w' b { p.mk' m with root := pre [47] l }

set_option maxRecDepth 100000 in
set_option maxHeartbeats 4000000 in
theorem glob_marks (b : Nat) (p : PS) (m0 : Mk) (s : ByteArray) (W : World) (hp : PatAt W b (p.mk' m0)) :
    Calls Try.prog 25 #[.pointer (some ⟨b, 0, none⟩), .string s] W (Marked W b p (marksOf s.data.toList m0)) := by
  have KM := Lib.hid (glob_mark b)
  have KC := Lib.hid (fun t w => glob_cutPrefixS t ⟨#[47]⟩ w)
  have e47 : (⟨#[47]⟩ : ByteArray).data.toList = [47] := rfl
  have e1 : (⟨#[47]⟩ : ByteArray).size = 1 := rfl
  rw [e47, e1] at KC
  clear e47 e1
  obtain ⟨R, hR⟩ : ∃ R, marksOf s.data.toList m0 = R := ⟨_, rfl⟩
  rw [hR]
  have HR := Lib.hid hR
  have HP := Lib.hid hp
  clear hR hp
  go_enter Try.func25, Try.ntmps25
  go_wp2_with fail
  refine (KM.out s W).mono ?_
  rintro e w' ⟨rfl, rfl⟩
  obtain ⟨v6, v7, hv⟩ : ∃ v6 v7, markV b s.data.toList = .tuple #[v6, v7] := by
    unfold markV
    cases mark1 s.data.toList with
    | none => exact ⟨_, _, rfl⟩
    | some x => exact ⟨_, _, rfl⟩
  have HV := Lib.hid hv
  rw [hv]
  clear hv
  go_wp2_with fail
  go_loopw [1, 6, 7] (fun v f n wr => ∃ (t : ByteArray) (m : Mk), v = .string t ∧ Hid (markV b t.data.toList = .tuple #[f, n]) ∧ Hid (marksOf t.data.toList m = R) ∧ Hid (PatAt wr b (p.mk' m)) ∧ Chg [b] w' wr) (fun v _ _ _ => lenOf v)
  case atStart => exact ⟨s, m0, rfl, HV, HR, HP, Chg.refl _ _⟩
  case round =>
    obtain ⟨t, m, rfl, hV, hR, hP, C⟩ := hrel
    clear HV HR HP
    have hE := Lib.hid (marksOf_eq t.data.toList m)
    obtain ⟨x, hx⟩ : ∃ x, mark1 t.data.toList = x := ⟨_, rfl⟩
    cases x with
    | none =>
      have h1 := hV.out
      have h2 := hE.out
      unfold markV at h1
      rw [hx] at h1 h2
      simp only [Value.tuple.injEq, Array.mk.injEq, List.cons.injEq, and_true] at h1
      obtain ⟨rfl, rfl⟩ := h1
      rw [hR.out] at h2
      have hRR : R = some (m, t.data.toList) := h2
      subst hRR
      clear hE hV hx hR h2
      go_wp2_with fail
      refine (KC.out t _).mono ?_
      rintro e w2 ⟨rfl, rfl⟩
      have hl : (if pre [47] t.data.toList then cutB t 1 else t).data.toList = if pre [47] t.data.toList then t.data.toList.drop 1 else t.data.toList := by
        split
        · exact cutB_data _ _
        · rfl
      have HL := Lib.hid hl
      generalize (if pre [47] t.data.toList then cutB t 1 else t) = u at *
      clear hl
      have c4 := hP.out.root
      have f4 := hP.out.frozen 4
      have HS := Lib.hid (hP.out.setRoot (pre [47] t.data.toList))
      have C2 := Lib.hid (C.trans (Chg.setCell (S := [b]) w2 ⟨b, 4, none⟩ (.bool (pre [47] t.data.toList)) (.inl (by simp))) (fun k hk => .inl hk))
      clear hP C
      go_wp2_with fail
      go_ret2
      exact ⟨C2.out, u, HL.out, rfl, HS.out⟩
    | some x =>
      obtain ⟨d, n⟩ := x
      have hpos := mark1_pos hx
      have h1 := hV.out
      have h2 := hE.out
      unfold markV at h1
      rw [hx] at h1 h2
      simp only [Value.tuple.injEq, Array.mk.injEq, List.cons.injEq, and_true] at h1
      obtain ⟨rfl, rfl⟩ := h1
      rw [hR.out] at h2
      simp only at h2
      have c1 := hP.out.mark d
      have f1 := hP.out.frozen d.off
      have HPP := Lib.hid (hP.out.put d)
      have hn0 : (0 : Int) < n := by omega
      have hns : (n : Int) ≤ t.size := by have : n ≤ t.size := hpos.2; omega
      have HNS : Hid (0 < n ∧ n ≤ t.size) := Lib.hid ⟨hpos.1, hpos.2⟩
      clear hE hV hx hR hpos
      cases hg : m.get d with
      | true =>
        rw [hg] at h2 c1
        have hRR : R = none := by rw [h2]; rfl
        subst hRR
        clear h2 hg
        go_wp2_with fail
        go_ret2
        exact ⟨C, rfl⟩
      | false =>
        rw [hg] at h2 c1
        have HR2 := Lib.hid (show marksOf (t.data.toList.drop n) (m.put d) = R by rw [h2]; rfl)
        clear h2 hg
        rw [← cutB_data] at HR2
        have hcut : t.extract n t.size = cutB t n := rfl
        have HCZ := Lib.hid (cutB_size t n)
        generalize cutB t n = u at *
        obtain ⟨g6, g7, hv⟩ : ∃ v6 v7, markV b u.data.toList = .tuple #[v6, v7] := by
          unfold markV
          cases mark1 u.data.toList with
          | none => exact ⟨_, _, rfl⟩
          | some x => exact ⟨_, _, rfl⟩
        have HV := Lib.hid hv
        have C2 := C.trans (Chg.setCell (S := [b]) wr ⟨b, d.off, none⟩ (.bool true) (.inl (by simp))) (fun k hk => .inl hk)
        clear C hP
        go_wp2_with fail
        generalize wr.setCell ⟨b, d.off, none⟩ (.bool true) = w3 at *
        refine (KM.out u _).mono ?_
        rintro e w4 ⟨rfl, rfl⟩
        rw [hv]
        clear hv
        go_wp2_with fail
        go_roundw
        case rel => exact ⟨u, m.put d, rfl, HV, HR2, HPP, C2⟩
        case measure => simp [lenOf]; have := HNS.out; have := HCZ.out; omega
end Go.Proofs.Ytnbeamggbehclaa
