/- slices.MinFunc of places, walked. No conditions beyond those that each statement types. -/
import Derived.Test.YtfdhpjflkimihaaDoorBkG
namespace Go.Proofs.YtfdhpjflkimihaaDoor
open Go.RowKit

abbrev Pl := ByteArray × Nat
def plC (p : Pl) : Array Value := #[.string p.1, .int .i64 p.2]
theorem plC_one (p : Pl) : (plC p).all (·.oneCell') = true := by simp [plC, Value.oneCell']
theorem Tryd.infoPl : (Tryd.prog.info? 57).map (·.size) = some 2 := by kernel_rfl
/-- The least of places, as the program seeks it. -/
def minTo (p : Pl) (r : List Pl) : Nat → Pl
  | 0 => p
  | k + 1 => match r[k]? with
    | none => minTo p r k
    | some x => if befo x (minTo p r k) < 0 then x else minTo p r k
theorem store_pl (w : World) (g : Nat) (old : Array Value) (p : Pl) (h : w.heap[g]? = some (.cells old 57 (0, 0))) (ho : old.size = 2) :
    (Instr.storeAt 57 (.pointer (some ⟨g, 0, none⟩)) (.agg (plC p))).run Tryd.prog w = .ok () (w.setRow g (plC p)) :=
  run_storeAt_row w g _ _ old (plC p) h Tryd.infoPl ho (plC_one p)
theorem load_pl (w : World) (g : Nat) (p : Pl) (h : w.heap[g]? = some (.cells (plC p) 57 (0, 0))) :
    (Instr.loadAt 57 (.pointer (some ⟨g, 0, none⟩))).run Tryd.prog w = .ok (.agg (plC p)) w := by
  simp only [Instr.loadAt, Instr.sureAddr, Sem.run_bind, Sem.run_pure, Result.andThen]
  exact run_loadVar_row w g _ _ (plC p) (0, 0) _ h Tryd.underlying57 rfl Tryd.infoPl
set_option maxRecDepth 100000 in
set_option maxHeartbeats 4000000 in
theorem blk_min (p : Pl) (r : List Pl) (g c : Nat) (w : World) (ho : w.ownsRow 0 57 2 (.slice (some ⟨g, 0, none⟩) (r.length + 1) c) (r.length + 1) (plvs (p :: r))) (hn : r.length ≤ 1000000) :
    Calls Tryd.prog 68 #[.slice (some ⟨g, 0, none⟩) (r.length + 1) c, .func (.func 69) #[] #[]] w fun e w' => e = .returned (.agg (plC (minTo p r r.length))) ∧ Chg [] w w' := by
  have hcell : Hid (∀ k x wr, (p :: r)[k]? = some x → Chg [] w wr → wr.cell? ⟨g, k * 2, none⟩ = some (.string x.1) ∧ wr.cell? ⟨g, k * 2 + 1, none⟩ = some (.int .i64 x.2)) := Lib.hid (fun k x wr hk C => by
    obtain ⟨h1, h2⟩ := plvs_at hk
    have e1 := ho.cells (g := g) rfl _ _ h1
    have e2 := ho.cells (g := g) rfl _ _ h2
    rw [addr_add0] at e1 e2
    exact ⟨C.cell_some e1 (by simp), C.cell_some e2 (by simp)⟩)
  have hgl : g < w.heap.size := by
    have := (hcell.out 0 p w rfl (Chg.refl _ _)).1
    exact World.block_lt_of_cell? _ _ this
  obtain ⟨n, hn1⟩ : ∃ n, r.length + 1 = n := ⟨_, rfl⟩
  have HN := Lib.hid hn1
  have hn0 : 1 ≤ n := by omega
  have hn2 : n ≤ 1000001 := by omega
  have hn3 : ¬ (n : Int) < 1 := by omega
  rw [hn1]
  clear ho hn hn1
  have C1 := Chg.alloc [] w (.cells #[.string ⟨#[]⟩, .int .i64 0] 57)
  have h0 := heap_alloc_new w (.cells #[.string ⟨#[]⟩, .int .i64 0] 57)
  have HS1 := Lib.hid (show (w.alloc (.cells #[.string ⟨#[]⟩, .int .i64 0] 57)).heap.size = w.heap.size + 1 by simp)
  obtain ⟨x0, x1⟩ := hcell.out 0 p _ rfl C1
  simp only [Nat.zero_mul, Nat.zero_add] at x0 x1
  go_enter Tryd.func68, Tryd.ntmps68
  go_upto_region 1 with (fail)
  generalize w.alloc (.cells #[.string ⟨#[]⟩, .int .i64 0] 57) = w1 at *
  obtain ⟨q, hq⟩ : ∃ q, w.heap.size = q := ⟨_, rfl⟩
  rw [hq] at h0 HS1 ⊢
  have HQ := Lib.hid hq
  clear hq
  go_upto_region 4 with (refine wpList_store_y 57 (.tmp 5) (.tmp 13) rfl rfl (.pointer (some ⟨w1.heap.size, 0, none⟩)) (.agg (plC p)) _ (run_storeAt_new w1 _ #[.string ⟨#[]⟩, .int .i64 0] (plC p) Tryd.infoPl rfl (plC_one p)) rfl rfl ?_)
  have h1 := heap_alloc_new w1 (.cells (plC p) 57)
  have C2 := Chg.alloc [] w1 (.cells (plC p) 57)
  generalize w1.alloc (.cells (plC p) 57) = w2 at *
  rw [HS1.out] at h1 ⊢
  have H0 := Lib.hid ((C2.block _ (lt_of_block h0) (by simp)).trans h0)
  have H1 := Lib.hid h1
  have HC := Lib.hid (C1.trans C2 (by simp))
  clear h0 h1 C1 C2 x0 x1 HS1
  go_wp2_with fail
  go_loopw [6] (fun v wr => ∃ k : Nat, v = .int .i64 ((k : Int) + 1) ∧ k + 1 ≤ n ∧ Hid (wr.heap[q]? = some (.cells #[.string ⟨#[]⟩, .int .i64 0] 57 (0, 0))) ∧ Hid (wr.heap[q + 1]? = some (.cells (plC (minTo p r k)) 57 (0, 0))) ∧ Hid (Chg [] w wr)) (fun v _ => n + 1 - (intOf v).toNat)
  case atStart => exact ⟨0, by go_num, by omega, H0, H1, HC⟩
  case round =>
    obtain ⟨k, rfl, hk, H0, H1, HC⟩ := hrel
    by_cases hlt : k + 1 < n
    · have e1 : (k : Int) + 1 < n := by omega
      have e2 : ((k : Int) + 1).toNat = k + 1 := by omega
      have e3 : (0 : Int) ≤ (k : Int) + 1 := by omega
      obtain ⟨x, hx⟩ : ∃ x, r[k]? = some x := ⟨_, List.getElem?_eq_getElem (by have := HN.out; omega)⟩
      have hx' : (p :: r)[k + 1]? = some x := by simpa using hx
      obtain ⟨m, hm⟩ : ∃ m, minTo p r k = m := ⟨_, rfl⟩
      have HM : Hid (minTo p r (k + 1) = if befo x m < 0 then x else m) := Lib.hid (by rw [minTo, hx, hm])
      rw [hm] at H1
      obtain ⟨y0, y1⟩ := hcell.out (k + 1) x wr hx' HC.out
      have z0 : wr.cell? ⟨q + 1, 0, none⟩ = some (.string m.1) := by rw [cell_of_row _ _ _ _ _ _ H1.out]; rfl
      have z1 : wr.cell? ⟨q + 1, 1, none⟩ = some (.int .i64 m.2) := by rw [cell_of_row _ _ _ _ _ _ H1.out]; rfl
      obtain ⟨B, hB⟩ : ∃ B, befo x m = B := ⟨_, rfl⟩
      have KB := blk_before x m wr.drew
      rw [hB] at KB
      rw [hB] at HM
      have HK := Lib.hid KB
      clear hm hx hB KB
      go_upto_region 7 with (fail)
      go_still_tail 6, (by kernel_rfl)
      change wpList _ _ _ _ _ wr.drew
      go_wp2_with fail
      go_outline
      refine HK.out.mono ?_
      rintro e w5 ⟨rfl, C5⟩
      have HC5 := Lib.hid (HC.out.trans ((Chg.drewN [] wr 1).trans C5 (by simp)) (by simp))
      have h0 := (C5.block q (lt_of_block H0.out) (by simp)).trans H0.out
      have h1 := (C5.block (q + 1) (lt_of_block H1.out) (by simp)).trans H1.out
      by_cases hB : B < 0
      · rw [if_pos hB] at HM
        obtain ⟨u0, u1⟩ := hcell.out (k + 1) x w5 hx' HC5.out
        have hr := setRow_heap w5 (q + 1) _ (plC x) _ _ h1
        have C6 : Chg [] w (w5.setRow (q + 1) (plC x)) := HC5.out.trans (Chg.setRow (S := [q + 1]) w5 (q + 1) (plC x) (.inl (by simp))) (fun j hj => by simp at hj; right; have := HQ.out; omega)
        have hh := (setRow_other w5 (q + 1) q (plC x) (by omega)).trans h0
        have HR0 := Lib.hid hh
        have HR1 : Hid ((w5.setRow (q + 1) (plC x)).heap[q + 1]? = some (.cells (plC (minTo p r (k + 1))) 57 (0, 0))) := Lib.hid (by rw [HM.out]; exact hr)
        have HC6 := Lib.hid C6
        clear hh hr C6 y0 y1 z0 z1 h0
        go_upto_region 6 with (refine wpList_store_y 57 (.tmp 5) (.tmp 31) rfl rfl (.pointer (some ⟨q + 1, 0, none⟩)) (.agg (plC x)) _ (store_pl w5 (q + 1) _ x h1 rfl) rfl rfl ?_)
        go_wp2_with fail
        refine ⟨⟨k + 1, by rw [Int.natCast_add]; rfl, by omega, HR0, HR1, HC6⟩, ?_⟩
        show n + 1 - ((k : Int) + 1 + 1).toNat < n + 1 - ((k : Int) + 1).toNat
        omega
      · rw [if_neg hB] at HM
        rw [← HM.out] at h1
        have HR0 := Lib.hid h0
        have HR1 := Lib.hid h1
        clear h0 h1 y0 y1 z0 z1
        go_wp2_with fail
        refine ⟨⟨k + 1, by rw [Int.natCast_add]; rfl, by omega, HR0, HR1, HC5⟩, ?_⟩
        show n + 1 - ((k : Int) + 1 + 1).toNat < n + 1 - ((k : Int) + 1).toNat
        omega
    · have hkr : k = r.length := by have := HN.out; omega
      obtain ⟨m, hm⟩ : ∃ m, minTo p r k = m := ⟨_, rfl⟩
      have HM : Hid (minTo p r r.length = m) := Lib.hid (by rw [← hkr, hm])
      rw [hm] at H1
      have z0 : wr.cell? ⟨q + 1, 0, none⟩ = some (.string m.1) := by rw [cell_of_row _ _ _ _ _ _ H1.out]; rfl
      have z1 : wr.cell? ⟨q + 1, 1, none⟩ = some (.int .i64 m.2) := by rw [cell_of_row _ _ _ _ _ _ H1.out]; rfl
      have hr := setRow_heap wr q _ (plC m) _ _ H0.out
      have C6 : Chg [] w (wr.setRow q (plC m)) := HC.out.trans (Chg.setRow (S := [q]) wr q (plC m) (.inl (by simp))) (fun j hj => by simp at hj; right; have := HQ.out; omega)
      have HR := Lib.hid hr
      have HC6 := Lib.hid C6
      have e1 : ¬ ((k : Int) + 1 < n) := by omega
      clear hr hkr hm C6
      go_upto_region 9 with (fail)
      go_wp2_with (refine wpList_store_y 57 (.tmp 4) (.tmp 32) rfl rfl (.pointer (some ⟨q, 0, none⟩)) (.agg (plC m)) _ (store_pl wr q _ m H0.out rfl) rfl rfl ?_)
      exact bodyPost_ret (results_cell_row rfl _ _ q _ (plC m) _ _ rfl HR.out Tryd.underlying57 rfl Tryd.infoPl) rfl ⟨by rw [HM.out], HC6.out⟩
end Go.Proofs.YtfdhpjflkimihaaDoor
