/- The examples that each law of sha asks. No conditions beyond those that each statement types. -/
import Derived.Test.YtccicfmaapaifaaDoorShaO
import Derived.Deep.RegionHeld3
import Derived.Lib.SlBytesConst
namespace Go.Proofs.YtccicfmaapaifaaDoor
open Go.RowKit

theorem step_run_x {P : Program} {w : World} {ops : Array Oper} {o : Oper} {a : Act} {K : Act → World → Prop} {Q : Exit → Act → World → Prop} {E : Prop} (hgd : Region.wanted o (yielded ops a.tmps) = true) (v : Value) (w' : World)
    (hr : (execOp a.eval o).run P w = .ok (.value v) w') (h : K (a.put o.dst v) w') : if Region.wanted o (yielded ops a.tmps) = true then Oper.wp P o a w K Q else E := by
  rw [if_pos hgd]
  unfold Oper.wp
  rw [hr, Oper.upon_value]
  exact h
theorem step_load_x {P : Program} {w : World} {ops : Array Oper} {o : Oper} {a : Act} {K : Act → World → Prop} {Q : Exit → Act → World → Prop} {E : Prop} (hgd : Region.wanted o (yielded ops a.tmps) = true) (t : TypeId) (x : Operand) (ho : o.op = .load t x) (v : Value)
    (hr : (Instr.loadAt t (a.eval x)).run P w = .ok v w) (h : K (a.put o.dst v) w) : if Region.wanted o (yielded ops a.tmps) = true then Oper.wp P o a w K Q else E := by
  refine step_run_x hgd v w ?_ h
  simp [execOp, ho, hr, Result.andThen]

structure Awk (w : World) (g : Nat) (r : Array Value) (wx : World) : Prop where
  row : ∃ fr, wx.heap[g]? = some (.cells r 23 fr)
  laid : Laid wx
  chg : Chg [] w wx
theorem Awk.step {w wx w' : World} {g : Nat} {r : Array Value} (h : Awk w g r wx) (hc : Chg [] wx w') : Awk w g r w' :=
  ⟨by obtain ⟨fr, hr⟩ := h.row; exact ⟨fr, (hc.block g (lt_of_block hr) (by simp)).trans hr⟩, h.laid.chg hc (by simp), h.chg.trans hc (by simp)⟩
theorem Awk.drew {w wx : World} {g : Nat} {r : Array Value} (h : Awk w g r wx) : Awk w g r wx.drew := h.step (Chg.drewN [] wx 1)
theorem Awk.alloc {w wx : World} {g : Nat} {r : Array Value} (h : Awk w g r wx) (o : Obj) : Awk w g r (wx.alloc o) := h.step (Chg.alloc [] wx o)
theorem Awk.load {w wx : World} {g : Nat} {r : Array Value} (h : Awk w g r wx) (hr : r.size = 32) : (Instr.loadAt 23 (.pointer (some ⟨g, 0, none⟩))).run Tryd.prog wx = .ok (.agg r) wx := by
  obtain ⟨fr, hg⟩ := h.row
  exact run_load_hash _ _ _ _ _ hg hr
theorem Awk.both {w wx : World} {g : Nat} {l : List Value} (h : Awk w g l.toArray wx) : wx.rangeAt g 0 l ∧ Awk w g l.toArray wx := by
  refine ⟨fun j v hv => ?_, h⟩
  obtain ⟨fr, hg⟩ := h.row
  rw [cell_of_row wx g _ _ _ _ hg, Nat.zero_add]
  simpa using hv
theorem awk_abc {w wx : World} {g : Nat} {r : Array Value} (h : Awk w g r wx) : Calls Tryd.prog 13 #[.string ⟨#[97, 98, 99]⟩] wx fun e w' => e = .returned (.string ⟨#[98, 97, 55, 56, 49, 54, 98, 102, 56, 102, 48, 49, 99, 102, 101, 97, 52, 49, 52, 49, 52, 48, 100, 101, 53, 100, 97, 101, 50, 50, 50, 51, 98, 48, 48, 51, 54, 49, 97, 51, 57, 54, 49, 55, 55, 97, 57, 99, 98, 52, 49, 48, 102, 102, 54, 49, 102, 50, 48, 48, 49, 53, 97, 100]⟩) ∧ Awk w g r w' := by
  refine (sha_law_text ⟨#[97, 98, 99]⟩ wx h.laid (by decide)).mono ?_
  rintro e w' ⟨rfl, hc⟩
  refine ⟨?_, h.step hc⟩
  have : textTo (digest (⟨#[97, 98, 99]⟩ : ByteArray).data.toList) 32 = _ := text_abc
  rw [this]
theorem awk_none {w wx : World} {g : Nat} {r : Array Value} (h : Awk w g r wx) : Calls Tryd.prog 13 #[.string ⟨#[]⟩] wx fun e w' => e = .returned (.string ⟨#[101, 51, 98, 48, 99, 52, 52, 50, 57, 56, 102, 99, 49, 99, 49, 52, 57, 97, 102, 98, 102, 52, 99, 56, 57, 57, 54, 102, 98, 57, 50, 52, 50, 55, 97, 101, 52, 49, 101, 52, 54, 52, 57, 98, 57, 51, 52, 99, 97, 52, 57, 53, 57, 57, 49, 98, 55, 56, 53, 50, 98, 56, 53, 53]⟩) ∧ Awk w g r w' := by
  refine (sha_law_text ⟨#[]⟩ wx h.laid (by decide)).mono ?_
  rintro e w' ⟨rfl, hc⟩
  refine ⟨?_, h.step hc⟩
  have : textTo (digest (⟨#[]⟩ : ByteArray).data.toList) 32 = _ := text_none
  rw [this]
theorem awk_sum {w wx : World} {g : Nat} {r : Array Value} (h : Awk w g r wx) (hR : hashV (digest m_abc) = .agg r) (q c : Nat) (hs : Src wx (some ⟨q, 0, none⟩) (bvs m_abc)) (hc : 3 ≤ c) (hq : q < wx.heap.size) :
    Calls Tryd.prog 18 #[.slice (some ⟨q, 0, none⟩) 3 c] wx fun e w' => e = .returned (.agg r) ∧ Awk w g r w' := by
  refine (sha_digest m_abc (some ⟨q, 0, none⟩) c wx h.laid hs hc (by decide) (fun a ha => by cases ha; exact hq)).mono ?_
  rintro e w' ⟨rfl, hc⟩
  exact ⟨by rw [hR], h.step hc⟩

theorem src_abc (w : World) (t : TypeId) (fr : Nat × Nat) : Src (w.alloc (.cells #[.int .u8 97, .int .u8 98, .int .u8 99] t fr)) (some ⟨w.heap.size, 0, none⟩) (bvs m_abc) := by
  refine ⟨fun e => (by cases e), fun a e j u hu => ?_⟩
  cases e
  have hg := heap_alloc_new w (.cells #[.int .u8 97, .int .u8 98, .int .u8 99] t fr)
  rw [addr_add0]
  rw [cell_of_row _ _ _ _ _ _ hg]
  have : (bvs m_abc) = [.int .u8 97, .int .u8 98, .int .u8 99] := rfl
  rw [this] at hu
  simpa using hu

set_option maxRecDepth 100000 in
set_option maxHeartbeats 4000000 in
theorem sha_awake (w : World) (hL : Laid w) : Calls Tryd.prog 8 #[] w fun e w' => e = .returned (.bool true) ∧ Chg [] w w' := by
  have k0 := sha_of_long ⟨#[98, 97, 55, 56, 49, 54, 98, 102, 56, 102, 48, 49, 99, 102, 101, 97, 52, 49, 52, 49, 52, 48, 100, 101, 53, 100, 97, 101, 50, 50, 50, 51, 98, 48, 48, 51, 54, 49, 97, 51, 57, 54, 49, 55, 55, 97, 57, 99, 98, 52, 49, 48, 102, 102, 54, 49, 102, 50, 48, 48, 49, 53, 97, 100]⟩ w rfl
  have e0 : hashV (ofV (⟨#[98, 97, 55, 56, 49, 54, 98, 102, 56, 102, 48, 49, 99, 102, 101, 97, 52, 49, 52, 49, 52, 48, 100, 101, 53, 100, 97, 101, 50, 50, 50, 51, 98, 48, 48, 51, 54, 49, 97, 51, 57, 54, 49, 55, 55, 97, 57, 99, 98, 52, 49, 48, 102, 102, 54, 49, 102, 50, 48, 48, 49, 53, 97, 100]⟩ : ByteArray).data.toList) = hashV (digest m_abc) := by
    show hashV (ofV [98, 97, 55, 56, 49, 54, 98, 102, 56, 102, 48, 49, 99, 102, 101, 97, 52, 49, 52, 49, 52, 48, 100, 101, 53, 100, 97, 101, 50, 50, 50, 51, 98, 48, 48, 51, 54, 49, 97, 51, 57, 54, 49, 55, 55, 97, 57, 99, 98, 52, 49, 48, 102, 102, 54, 49, 102, 50, 48, 48, 49, 53, 97, 100]) = _
    rw [← text_abc]; unfold hashV; rw [ofV_text]
  have e1 : ofOk (⟨#[98, 97, 55, 56, 49, 54, 98, 102, 56, 102, 48, 49, 99, 102, 101, 97, 52, 49, 52, 49, 52, 48, 100, 101, 53, 100, 97, 101, 50, 50, 50, 51, 98, 48, 48, 51, 54, 49, 97, 51, 57, 54, 49, 55, 55, 97, 57, 99, 98, 52, 49, 48, 102, 102, 54, 49, 102, 50, 48, 48, 49, 53, 97, 100]⟩ : ByteArray).data.toList = true := by
    show ofOk [98, 97, 55, 56, 49, 54, 98, 102, 56, 102, 48, 49, 99, 102, 101, 97, 52, 49, 52, 49, 52, 48, 100, 101, 53, 100, 97, 101, 50, 50, 50, 51, 98, 48, 48, 51, 54, 49, 97, 51, 57, 54, 49, 55, 55, 97, 57, 99, 98, 52, 49, 48, 102, 102, 54, 49, 102, 50, 48, 48, 49, 53, 97, 100] = _
    rw [← text_abc]; exact ofOk_text _
  rw [e0, e1] at k0
  clear e0 e1
  obtain ⟨Z, hZ, hz, hsz, h1⟩ := zeroHash
  clear hZ
  obtain ⟨R, hR⟩ : ∃ R, hashV (digest m_abc) = R := ⟨_, rfl⟩
  obtain ⟨r, hr⟩ : ∃ r, hashC (digest m_abc) = r := ⟨_, rfl⟩
  have hRr : R = .agg r := by rw [← hR, ← hr]; rfl
  have hrs : r.size = 32 := by rw [← hr]; exact hashC_size _
  have hr1 : r.all (·.oneCell') = true := by rw [← hr]; exact hashC_one _
  rw [hR] at k0
  subst hRr
  have HR := Lib.hid hR
  clear hR hr
  go_enter Tryd.func8, Tryd.ntmps8
  go_wp2_with fail
  refine k0.mono ?_
  rintro e w1 ⟨rfl, C1⟩
  have hn0 := heap_alloc_new w1 (.cells Z 23)
  have hst := run_storeAt_row (P := Tryd.prog) (w1.alloc (.cells Z 23)) w1.heap.size _ 23 Z r hn0 (by rw [hrs]; exact infoHash) (by rw [hsz, hrs]) hr1
  rw [World.setRow_alloc_new] at hst
  have HST := Lib.hid hst
  clear hst hn0 h1 k0
  go_upto_region 2 with (refine wpList_store_x _ rfl 23 (.tmp 1) (.tmp 5) rfl _ HST.out ?_)
  obtain ⟨l, rfl⟩ : ∃ l : List Value, r = l.toArray := ⟨r.toList, by simp⟩
  have hu := Tryd.underlying23
  have hi : (Tryd.prog.info? 23).map (·.size) = some l.length := by rw [infoHash]; simp at hrs; rw [hrs]
  obtain ⟨g, hg⟩ : ∃ g, w1.heap.size = g := ⟨_, rfl⟩
  have A : Awk w g l.toArray (w1.alloc (.cells l.toArray 23)) := by
    subst hg
    exact ⟨⟨_, heap_alloc_new w1 _⟩, hL.chg (C1.trans (Chg.alloc [] w1 (.cells l.toArray 23)) (by simp)) (by simp), C1.trans (Chg.alloc [] w1 (.cells l.toArray 23)) (by simp)⟩
  have heq : ∀ w : World, (Op.equalIn 10000 23 (.agg l.toArray) (.agg l.toArray)).run Tryd.prog w = .ok true w := fun w => by
    have h := run_eq_hash (digest m_abc) (digest m_abc) w
    rw [HR.out, sameHash_self, run_eql_struct] at h
    generalize (Op.equalIn 10000 23 (.agg l.toArray) (.agg l.toArray)).run Tryd.prog w = q at h ⊢
    cases q with
    | ok b w2 => simp only [Result.andThen, Result.ok.injEq, Value.bool.injEq] at h; rw [h.1, h.2]
    | halt x w2 => simp [Result.andThen] at h
  clear HST
  rw [hg]
  generalize w1.alloc (.cells l.toArray 23) = w2 at A ⊢
  have hcv : ∀ w : World, (convert 39 39 (.slice (some ⟨w.heap.size, 0, none⟩) 3 3)).run Tryd.prog (w.alloc (.cells #[.int .u8 97, .int .u8 98, .int .u8 99] 5)) = .ok (.slice (some ⟨w.heap.size, 0, none⟩) 3 3) (w.alloc (.cells #[.int .u8 97, .int .u8 98, .int .u8 99] 5 (3, 4))) :=
    fun w => Lib.run_convert_bytes_const w _ _ _ _ _ Tryd.underlying39 Tryd.underlying5
  refine wp_region_held_drew (S := fun w' => w'.rangeAt g 0 l ∧ Awk w g l.toArray w') (by kernel_rfl) A.drew.both (fun H0 => ?_)
  refine wpAnyH_ready (rs := [0]) (by kernel_rfl) (by simp) (AllReadyH.cons rfl (fun K hK => ?_) AllReadyH.nil)
  go_simp
  refine (awk_abc H0.2).mono ?_
  rintro e wa ⟨rfl, A1⟩
  go_simp
  refine hK.out _ _ A1.both (fun H1 => ?_)
  clear hK K
  refine' wpAnyH_take (i := 1) (v := _) rfl (by kernel_rfl) (by kernel_rfl) (by kernel_rfl) (fun _ _ _ h => h) (Or.inl ⟨by rfl, ?hy1⟩) H1 ?rest1
  case hy1 =>
    intro w' hSw
    go_simp
    try with_reducible rfl
  (try simp only [Act.put, List.getElem_toArray, List.getElem_cons_succ, List.getElem_cons_zero, List.setIfInBounds_toArray, List.set_cons_zero, List.set_cons_succ])
  refine' wpAnyH_take (i := 2) (v := _) rfl (by kernel_rfl) (by kernel_rfl) (by kernel_rfl) (fun _ _ _ h => h) (Or.inl ⟨by rfl, ?hy2⟩) H1 ?rest2
  case hy2 =>
    intro w' hSw
    go_simp
    try with_reducible rfl
  (try simp only [Act.put, List.getElem_toArray, List.getElem_cons_succ, List.getElem_cons_zero, List.setIfInBounds_toArray, List.set_cons_zero, List.set_cons_succ])
  refine' wpAnyH_take (i := 3) (v := _) rfl (by kernel_rfl) (by kernel_rfl) (by kernel_rfl) (fun _ _ _ h => h) (Or.inl ⟨by rfl, ?hy3⟩) H1 ?rest3
  case hy3 =>
    intro w' hSw
    go_simp
    try with_reducible rfl
  (try simp only [Act.put, List.getElem_toArray, List.getElem_cons_succ, List.getElem_cons_zero, List.setIfInBounds_toArray, List.set_cons_zero, List.set_cons_succ])
  refine' wpAnyH_take (i := 4) (v := _) rfl (by kernel_rfl) (by kernel_rfl) (by kernel_rfl) (fun _ _ _ h => h) (Or.inl ⟨by rfl, ?hy4⟩) H1 ?rest4
  case hy4 =>
    intro w' hSw
    go_simp
    try with_reducible rfl
  (try simp only [Act.put, List.getElem_toArray, List.getElem_cons_succ, List.getElem_cons_zero, List.setIfInBounds_toArray, List.set_cons_zero, List.set_cons_succ])
  refine' wpAnyH_take (i := 5) (v := _) rfl (by kernel_rfl) (by kernel_rfl) (by kernel_rfl) (fun _ _ _ h => h) (Or.inl ⟨by rfl, ?hy5⟩) H1 ?rest5
  case hy5 =>
    intro w' hSw
    go_simp
    try with_reducible rfl
  (try simp only [Act.put, List.getElem_toArray, List.getElem_cons_succ, List.getElem_cons_zero, List.setIfInBounds_toArray, List.set_cons_zero, List.set_cons_succ])
  refine wpAnyH_take (i := 6) rfl (by kernel_rfl) (by kernel_rfl) (by kernel_rfl) (fun _ _ _ h => h) (yieldsIf_load_mid (by rfl) _ _ rfl _ _ rfl l _ (fun w' h => h.1) hu rfl hi) H1 ?_
  (try simp only [Act.put, List.getElem_toArray, List.getElem_cons_succ, List.getElem_cons_zero, List.setIfInBounds_toArray, List.set_cons_zero, List.set_cons_succ])
  refine wpAnyH_ready (rs := [7]) (by kernel_rfl) (by simp) (AllReadyH.cons rfl (fun K hK => ?_) AllReadyH.nil)
  go_simp
  refine hK.out _ _ (A1.alloc _).both (fun H2 => ?_)
  clear hK K
  refine wpAnyH_ready (rs := [8]) (by kernel_rfl) (by simp) (AllReadyH.cons rfl (fun K hK => ?_) AllReadyH.nil)
  go_simp
  refine hK.out _ _ (A1.alloc _).both (fun H3 => ?_)
  clear hK K
  refine wpAnyH_ready (rs := [9]) (by kernel_rfl) (by simp) (AllReadyH.cons rfl (fun K hK => ?_) AllReadyH.nil)
  go_simp
  refine (awk_sum H3.2 HR.out _ _ (src_abc _ _ _) (by decide) (by simp)).mono ?_
  rintro e wb ⟨rfl, A2⟩
  go_simp
  refine hK.out _ _ A2.both (fun H4 => ?_)
  clear hK K
  refine' wpAnyH_take (i := 10) (v := _) rfl (by kernel_rfl) (by kernel_rfl) (by kernel_rfl) (fun _ _ _ h => h) (Or.inl ⟨by rfl, ?hy10⟩) H4 ?rest10
  case hy10 =>
    intro w' hSw
    go_simp
    try with_reducible rfl
  (try simp only [Act.put, List.getElem_toArray, List.getElem_cons_succ, List.getElem_cons_zero, List.setIfInBounds_toArray, List.set_cons_zero, List.set_cons_succ])
  refine' wpAnyH_take (i := 11) (v := _) rfl (by kernel_rfl) (by kernel_rfl) (by kernel_rfl) (fun _ _ _ h => h) (Or.inl ⟨by rfl, ?hy11⟩) H4 ?rest11
  case hy11 =>
    intro w' hSw
    go_simp
    try with_reducible rfl
  (try simp only [Act.put, List.getElem_toArray, List.getElem_cons_succ, List.getElem_cons_zero, List.setIfInBounds_toArray, List.set_cons_zero, List.set_cons_succ])
  refine' wpAnyH_take (i := 12) (v := _) rfl (by kernel_rfl) (by kernel_rfl) (by kernel_rfl) (fun _ _ _ h => h) (Or.inl ⟨by rfl, ?hy12⟩) H4 ?rest12
  case hy12 =>
    intro w' hSw
    go_simp
    try with_reducible rfl
  (try simp only [Act.put, List.getElem_toArray, List.getElem_cons_succ, List.getElem_cons_zero, List.setIfInBounds_toArray, List.set_cons_zero, List.set_cons_succ])
  refine wpAnyH_ready (rs := [13]) (by kernel_rfl) (by simp) (AllReadyH.cons rfl (fun K hK => ?_) AllReadyH.nil)
  go_simp
  refine (awk_none H4.2).mono ?_
  rintro e wc ⟨rfl, A3⟩
  go_simp
  refine hK.out _ _ A3.both (fun H5 => ?_)
  clear hK K
  refine' wpAnyH_take (i := 14) (v := _) rfl (by kernel_rfl) (by kernel_rfl) (by kernel_rfl) (fun _ _ _ h => h) (Or.inl ⟨by rfl, ?hy14⟩) H5 ?rest14
  case hy14 =>
    intro w' hSw
    go_simp
    try with_reducible rfl
  (try simp only [Act.put, List.getElem_toArray, List.getElem_cons_succ, List.getElem_cons_zero, List.setIfInBounds_toArray, List.set_cons_zero, List.set_cons_succ])
  refine' wpAnyH_take (i := 15) (v := _) rfl (by kernel_rfl) (by kernel_rfl) (by kernel_rfl) (fun _ _ _ h => h) (Or.inl ⟨by rfl, ?hy15⟩) H5 ?rest15
  case hy15 =>
    intro w' hSw
    go_simp
    try with_reducible rfl
  (try simp only [Act.put, List.getElem_toArray, List.getElem_cons_succ, List.getElem_cons_zero, List.setIfInBounds_toArray, List.set_cons_zero, List.set_cons_succ])
  refine' wpAnyH_take (i := 16) (v := _) rfl (by kernel_rfl) (by kernel_rfl) (by kernel_rfl) (fun _ _ _ h => h) (Or.inl ⟨by rfl, ?hy16⟩) H5 ?rest16
  case hy16 =>
    intro w' hSw
    go_simp
    try with_reducible rfl
  (try simp only [Act.put, List.getElem_toArray, List.getElem_cons_succ, List.getElem_cons_zero, List.setIfInBounds_toArray, List.set_cons_zero, List.set_cons_succ])
  refine wpAnyH_done (by kernel_rfl) ?_ _
  go_wp2_with fail
  go_ret
  exact ⟨rfl, A3.chg⟩
end Go.Proofs.YtccicfmaapaifaaDoor
