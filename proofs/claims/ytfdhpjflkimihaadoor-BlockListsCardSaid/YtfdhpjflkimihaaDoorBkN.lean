/- Len, the test by name, slices.IndexFunc of places, walked. No conditions beyond those that each statement types. -/
import Derived.Test.YtfdhpjflkimihaaDoorBkM
namespace Go.Proofs.YtfdhpjflkimihaaDoor
open Go.RowKit

theorem blk_named (p : Pl) (nm : ByteArray) (g : Nat) (w : World) (h : w.cell? ⟨g, 0, none⟩ = some (.string nm)) :
    Calls Tryd.prog 67 #[.agg (plC p), .pointer (some ⟨g, 0, none⟩)] w fun e w' => e = .returned (.bool (p.1.toList == nm.toList)) ∧ Chg [] w w' := by
  obtain ⟨s, i⟩ := p
  have C1 := Chg.alloc [] w (.cells (plC (s, i)) 57)
  have h' := C1.cell_some h (by simp)
  have hx := heap_alloc_new w (.cells (plC (s, i)) 57)
  have z0 : (w.alloc (.cells (plC (s, i)) 57)).cell? ⟨w.heap.size, 0, none⟩ = some (.string s) := by rw [cell_of_row _ _ _ _ _ _ hx]; rfl
  clear hx
  go_enter Tryd.func67, Tryd.ntmps67
  go_wp2_with fail
  go_ret
  exact ⟨rfl, C1⟩
set_option maxRecDepth 100000 in
set_option maxHeartbeats 4000000 in
theorem blk_len (b bf bp : Nat) (F : Files) (G : HKey → List Pl) (fv : List (ByteArray × Value)) (pv : List (HKey × Value)) (S : List Nat) (w : World) (H : FinderIs w b bf bp F G fv pv S) :
    Calls Tryd.prog 33 #[.pointer (some ⟨b, 0, none⟩)] w fun e w' => e = .returned (.int .i64 F.length) ∧ w = w' := by
  have hm := H.map.1
  have hl : fv.length = F.length := by have := congrArg List.length H.names; simpa using this
  obtain ⟨es, c, hb, hsz⟩ := H.files.len
  rw [hl] at hsz
  have hlen : (Builtin.len_ #[66] 3 #[.map (some bf)]).run Tryd.prog w = .ok (.int .i64 (F.length : Int)) w := by
    rw [← hsz]
    simp [Builtin.len_, run_underlying Tryd.underlying66, MapKept.run_getObj_map hb, goInt, Result.andThen]
  have K := Lib.hid (blk_is_map b (some bf) w hm)
  go_enter Tryd.func33, Tryd.ntmps33
  go_wp2_with fail
  refine K.out.mono ?_
  rintro e w5 ⟨rfl, rfl⟩
  go_wp2_with fail
  go_ret
  exact ⟨rfl, rfl⟩
set_option maxRecDepth 100000 in
set_option maxHeartbeats 4000000 in
/-- IndexFunc of the places of a name: K is the first that bears it, or -1. -/
theorem blk_index (ps : List Pl) (nm : ByteArray) (K : Int) (ao : Option Addr) (c gb : Nat) (w : World) (ho : w.ownsRow 0 57 2 (.slice ao ps.length c) ps.length (plvs ps)) (hn : ps.length ≤ 1000000)
    (hb : w.cell? ⟨gb, 0, none⟩ = some (.string nm)) (h1 : ∀ (i : Nat) (x : Pl), ps[i]? = some x → x.1.toList = nm.toList → K ≠ -1 ∧ K ≤ (i : Int)) (h2 : K = -1 ∨ ∃ (n : Nat) (x : Pl), K = n ∧ ps[n]? = some x ∧ x.1.toList = nm.toList) :
    Calls Tryd.prog 94 #[.slice ao ps.length c, .func (.func 67) #[] #[.pointer (some ⟨gb, 0, none⟩)]] w fun e w' => e = .returned (.int .i64 K) ∧ Chg [] w w' := by
  have hcell : Hid (∀ g k x wr, ao = some ⟨g, 0, none⟩ → ps[k]? = some x → Chg [] w wr → wr.cell? ⟨g, k * 2, none⟩ = some (.string x.1) ∧ wr.cell? ⟨g, k * 2 + 1, none⟩ = some (.int .i64 x.2)) := Lib.hid (fun g k x wr hg hk C => by
    subst hg
    obtain ⟨h1, h2⟩ := plvs_at hk
    have e1 := ho.cells (g := g) rfl _ _ h1
    have e2 := ho.cells (g := g) rfl _ _ h2
    rw [addr_add0] at e1 e2
    exact ⟨C.cell_some e1 (by simp), C.cell_some e2 (by simp)⟩)
  have hgo : Hid (0 < ps.length → ∃ g, ao = some ⟨g, 0, none⟩) := Lib.hid (fun h => by
    rcases ho.2 with ⟨_, h0⟩ | ⟨g, cap, cur, hv, _⟩
    · omega
    · cases hv; exact ⟨g, rfl⟩)
  have HB := Lib.hid (fun wr (C : Chg [] w wr) (p : Pl) => blk_named p nm gb wr (C.cell_some hb (by simp)))
  obtain ⟨n, hn1⟩ : ∃ n, ps.length = n := ⟨_, rfl⟩
  have HN := Lib.hid hn1
  have hn2 : n ≤ 1000000 := by omega
  have HK1 := Lib.hid h1
  have HK2 := Lib.hid h2
  rw [hn1]
  clear ho hn hn1 h1 h2 hb
  have HC := Lib.hid (Chg.refl [] w)
  have HX := Lib.hid (show ∀ (i : Nat) (x : Pl), i < 0 → ps[i]? = some x → x.1.toList ≠ nm.toList from fun i x h => by omega)
  go_enter Tryd.func94, Tryd.ntmps94
  go_wp2_with fail
  go_loopw [8] (fun v wr => ∃ k : Nat, v = .int .i64 (k : Int) ∧ k ≤ n ∧ Hid (∀ (i : Nat) (x : Pl), i < k → ps[i]? = some x → x.1.toList ≠ nm.toList) ∧ Hid (Chg [] w wr)) (fun v _ => n - (intOf v).toNat)
  case atStart => exact ⟨0, rfl, by omega, HX, HC⟩
  case round =>
    obtain ⟨k, rfl, hk, HX, HC⟩ := hrel
    by_cases hlt : k < n
    · have e1 : (k : Int) < n := by omega
      obtain ⟨x, hx⟩ : ∃ x, ps[k]? = some x := ⟨_, List.getElem?_eq_getElem (by have := HN.out; omega)⟩
      obtain ⟨g, rfl⟩ := hgo.out (by have := HN.out; omega)
      obtain ⟨y0, y1⟩ := hcell.out g k x wr rfl hx HC.out
      have KB := Lib.hid (HB.out wr HC.out x)
      go_wp2_with fail
      refine KB.out.mono ?_
      rintro e w5 ⟨rfl, C5⟩
      have HC5 := Lib.hid (HC.out.trans C5 (by simp))
      by_cases hB : x.1.toList = nm.toList
      · have hb : (x.1.toList == nm.toList) = true := by simpa using hB
        have hK : Hid (K = (k : Int)) := Lib.hid (by
          obtain ⟨a1, a2⟩ := HK1.out k x hx hB
          rcases HK2.out with h | ⟨m, y, h, hy, hye⟩
          · exact absurd h a1
          · by_cases hmk : m < k
            · exact absurd hye (HX.out m y hmk hy)
            · omega)
        clear hB hx y0 y1
        go_wp2_with fail
        go_ret
        exact ⟨by rw [hK.out]; rfl, HC5.out⟩
      · have hb : (x.1.toList == nm.toList) = false := by simpa using hB
        have HX5 : Hid (∀ (i : Nat) (x : Pl), i < k + 1 → ps[i]? = some x → x.1.toList ≠ nm.toList) := Lib.hid (fun i y hi hy => by
          by_cases hik : i < k
          · exact HX.out i y hik hy
          · have : i = k := by omega
            subst this
            rw [hx] at hy
            cases hy
            exact hB)
        clear hB hx y0 y1
        go_wp2_with fail
        refine ⟨⟨k + 1, by rw [Int.natCast_add]; rfl, by omega, HX5, HC5⟩, ?_⟩
        show n - ((k : Int) + 1).toNat < n - (k : Int).toNat
        omega
    · have e1 : ¬ ((k : Int) < n) := by omega
      have hK : Hid (K = -1) := Lib.hid (by
        rcases HK2.out with h | ⟨m, y, h, hy, hye⟩
        · exact h
        · have := (List.getElem?_eq_some_iff.1 hy).1
          exact absurd hye (HX.out m y (by have := HN.out; omega) hy))
      go_wp2_with fail
      go_ret
      exact ⟨by rw [hK.out]; rfl, HC.out⟩
end Go.Proofs.YtfdhpjflkimihaaDoor
