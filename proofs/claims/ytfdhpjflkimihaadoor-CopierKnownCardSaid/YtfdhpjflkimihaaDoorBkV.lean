/- Find, walked. No conditions beyond those that each statement types. -/
import Derived.Test.YtfdhpjflkimihaaDoorBkU
import Derived.Test.YtfdhpjflkimihaaDoorBkJg
namespace Go.Proofs.YtfdhpjflkimihaaDoor
open Go.RowKit

def pickP (l : List Pl) : Option Pl := match l with
  | [] => none
  | p :: r => some (minTo p r r.length)
def dataF (F : Files) (nm : ByteArray) : List UInt8 := ((F.find? fun p => decide (p.1 = nm)).map (·.2)).getD []
def findL (F : Files) (k : HKey) : Option (Pl × List UInt8) := (pickP (occ F k)).map fun m => (m, partZ (dataF F m.1) m.2)
def Found (w : World) (r : Option (Pl × List UInt8)) (e : Ending) (w' : World) : Prop :=
  Chg [] w w' ∧ match r with
    | none => e = .returned (.tuple #[.slice none 0 0, .agg #[.string ⟨#[]⟩, .int .i64 0], .bool false])
    | some (m, xs) => ∃ ao c, e = .returned (.tuple #[.slice ao xs.length c, .agg (plC m), .bool true]) ∧ w'.ownsRow 0 5 1 (.slice ao xs.length c) xs.length (bvs xs) ∧ ∀ k, (Value.slice ao xs.length c).ownBlock = some k → w.heap.size ≤ k
theorem results_tct {P : Program} {fn : Func} {s p u : Tmp} {ty : TypeId} (h : fn.results = #[.tmp s, .cell p ty, .tmp u]) (tmps : Array Value) (w : World) (g : Nat) (t : TypeId) (cs : Array Value) (fr : Nat × Nat) (d : TypeDesc)
    (hp : tmps.getD p undef = .pointer (some ⟨g, 0, none⟩)) (hg : w.heap[g]? = some (.cells cs t fr))
    (hu : P.underlying ty = some d) (hd : (match d with | .struct _ | .array _ _ => true | _ => false) = true) (hi : (P.info? ty).map (·.size) = some cs.size) :
    (results fn tmps).run P w = .ok (.tuple #[tmps.getD s undef, .agg cs, tmps.getD u undef]) w := by
  have hp' : tmps[p]?.getD undef = .pointer (some ⟨g, 0, none⟩) := by simpa using hp
  simp [results, h, hp', asAddr, run_loadVar_row w g t ty cs fr d hg hu hd hi, Result.andThen]
theorem step_store_y {P : Program} {ops : Array Oper} {o : Oper} {a : Act} {w : World} {K : Act → World → Prop} {Q : Exit → Act → World → Prop} {E : Prop} (t : TypeId) (x y : Operand) (ho : o.op = .store t x y) (hgd : Region.wanted o (yielded ops a.tmps) = true) (vx vy : Value) (w' : World)
    (hr : (Instr.storeAt t vx vy).run P w = .ok () w') (ex : a.eval x = vx) (ey : a.eval y = vy) (h : K (a.put o.dst undef) w') : if Region.wanted o (yielded ops a.tmps) = true then Oper.wp P o a w K Q else E := by
  subst ex ey
  rw [if_pos hgd]
  unfold Oper.wp
  have : (execOp a.eval o).run P w = .ok .skip w' := by simp [execOp, ho, hr, Result.andThen]
  rw [this, Oper.upon_skip]
  exact h
theorem minTo_mem (p : Pl) (r : List Pl) : ∀ k, minTo p r k ∈ p :: r
  | 0 => by simp [minTo]
  | k + 1 => by
    unfold minTo
    cases hx : r[k]? with
    | none => exact minTo_mem p r k
    | some x =>
      simp only []
      split
      · exact List.mem_cons_of_mem _ (List.mem_of_getElem? hx)
      · exact minTo_mem p r k
theorem occ_name {F : Files} {k : HKey} {m : Pl} (h : m ∈ occ F k) : m.1 ∈ F.map (·.1) := by
  obtain ⟨p, hp, hq⟩ := List.mem_flatMap.1 h
  have := occTo_name _ _ _ _ m hq
  exact List.mem_map.2 ⟨p, hp, this.symm⟩
/-- The file of a name, looked up. -/
theorem FinderIs.file {w : World} {b bf bp : Nat} {F : Files} {G : HKey → List Pl} {fv : List (ByteArray × Value)} {pv : List (HKey × Value)} {S : List Nat} (H : FinderIs w b bf bp F G fv pv S) (hn : (F.map (·.1)).Nodup) {nm : ByteArray} (hm : nm ∈ F.map (·.1)) :
    ∃ v, mget fv nm = some v ∧ FVal w v (dataF F nm) := by
  unfold dataF
  cases hf : F.find? (fun p => decide (p.1 = nm)) with
  | none =>
    obtain ⟨p, hp, e⟩ := List.mem_map.1 hm
    have := List.find?_eq_none.1 hf p hp
    simp [e] at this
  | some q =>
    have h1 : q.1 = nm := by simpa using List.find?_some hf
    obtain ⟨i, hi⟩ := List.mem_iff_getElem?.1 (List.mem_of_find?_eq_some hf)
    have h2 : (F.map (·.1))[i]? = some nm := by rw [List.getElem?_map, hi]; simp [h1]
    rw [← H.names, List.getElem?_map] at h2
    cases h3 : fv[i]? with
    | none => rw [h3] at h2; cases h2
    | some p =>
      rw [h3] at h2
      obtain ⟨pn, v⟩ := p
      cases h2
      exact ⟨v, (mget_at (by rw [H.names]; exact hn) h3).2, H.fval i _ _ h3 hi⟩
set_option maxRecDepth 100000 in
set_option maxHeartbeats 4000000 in
theorem blk_find_not (p : Option Addr) (k : HKey) (w : World) (hp : ∀ w', Chg [] w w' → Calls Tryd.prog 65 #[.pointer p] w' fun e w'' => e = .returned (.bool false) ∧ w' = w'') :
    Calls Tryd.prog 34 #[.pointer p, hkV k] w (Found w none) := by
  obtain ⟨R, hR⟩ : ∃ R, hkV k = .agg R := ⟨_, rfl⟩
  rw [hR]
  clear hR
  have C1 := Chg.alloc [] w (.cells R 32)
  have C2 := Chg.alloc [] (w.alloc (.cells R 32)) (.cells #[.string ⟨#[]⟩, .int .i64 0] 57)
  have hx := heap_alloc_new (w.alloc (.cells R 32)) (.cells #[.string ⟨#[]⟩, .int .i64 0] 57)
  go_enter Tryd.func34, Tryd.ntmps34
  go_upto_region 1 with (fail)
  have C12 := C1.trans C2 (by simp)
  have hz : (w.alloc (.cells R 32)).heap.size = w.heap.size + 1 := by simp
  rw [hz] at hx
  clear C1 C2 hz
  obtain ⟨q, hq⟩ : ∃ q, w.heap.size + 1 = q := ⟨_, rfl⟩
  try rw [hq] at hx ⊢
  generalize (w.alloc (.cells R 32)).alloc (.cells #[.string ⟨#[]⟩, .int .i64 0] 57) = w2 at *
  have KIS := Lib.hid (fun w' (C : Chg [] w2 w') => hp w' (C12.trans C (by simp)))
  have HQ : Hid (w.heap.size ≤ q) := Lib.hid (by omega)
  clear hp hq
  refine wp_region_held_drew (S := fun w' => Chg [] w2 w') (by kernel_rfl) (Chg.drewN _ w2 1) (fun H0 => ?_)
  refine' wpAnyH_take (i := 0) (v := _) rfl (by kernel_rfl) (by kernel_rfl) (by kernel_rfl) (fun _ _ _ h => h) (Or.inl ⟨by rfl, ?hya0⟩) H0 ?resta0
  case hya0 =>
    intro w' hSw
    have s1 := hSw
    go_simp
    try with_reducible rfl
  (try simp only [Act.put, List.getElem_toArray, List.getElem_cons_zero, List.setIfInBounds_toArray, List.set_cons_zero, List.set_cons_succ])
  refine wpAnyH_ready (rs := [1]) (by kernel_rfl) (by simp) (AllReadyH.cons rfl (fun K hK => ?_) AllReadyH.nil)
  go_simp
  refine (KIS.out _ H0).mono ?_
  rintro e wx ⟨rfl, rfl⟩
  go_simp
  refine hK.out _ _ H0 (fun H1 => ?_)
  clear hK K
  refine' wpAnyH_take (i := 2) (v := _) rfl (by kernel_rfl) (by kernel_rfl) (by kernel_rfl) (fun _ _ _ h => h) (Or.inl ⟨by rfl, ?hya2⟩) H1 ?resta2
  case hya2 =>
    intro w' hSw
    have s1 := hSw
    go_simp
    try with_reducible rfl
  (try simp only [Act.put, List.getElem_toArray, List.getElem_cons_succ, List.getElem_cons_zero, List.setIfInBounds_toArray, List.set_cons_zero, List.set_cons_succ])
  refine' wpAnyH_take (i := 3) (v := _) rfl (by kernel_rfl) (by kernel_rfl) (by kernel_rfl) (fun _ _ _ h => h) (Or.inl ⟨by rfl, ?hya3⟩) H1 ?resta3
  case hya3 =>
    intro w' hSw
    have s1 := hSw
    go_simp
    try with_reducible rfl
  (try simp only [Act.put, List.getElem_toArray, List.getElem_cons_succ, List.getElem_cons_zero, List.setIfInBounds_toArray, List.set_cons_zero, List.set_cons_succ])
  refine wpAnyH_take (i := 4) (v := undef) rfl (by kernel_rfl) (by kernel_rfl) (by kernel_rfl) (fun _ _ _ h => h) (Or.inr ⟨by rfl, rfl⟩) H1 ?_
  (try simp only [Act.put, List.getElem_toArray, List.getElem_cons_succ, List.getElem_cons_zero, List.setIfInBounds_toArray, List.set_cons_zero, List.set_cons_succ])
  refine wpAnyH_take (i := 5) (v := undef) rfl (by kernel_rfl) (by kernel_rfl) (by kernel_rfl) (fun _ _ _ h => h) (Or.inr ⟨by rfl, rfl⟩) H1 ?_
  (try simp only [Act.put, List.getElem_toArray, List.getElem_cons_succ, List.getElem_cons_zero, List.setIfInBounds_toArray, List.set_cons_zero, List.set_cons_succ])
  refine wpAnyH_take (i := 6) (v := undef) rfl (by kernel_rfl) (by kernel_rfl) (by kernel_rfl) (fun _ _ _ h => h) (Or.inr ⟨by rfl, rfl⟩) H1 ?_
  (try simp only [Act.put, List.getElem_toArray, List.getElem_cons_succ, List.getElem_cons_zero, List.setIfInBounds_toArray, List.set_cons_zero, List.set_cons_succ])
  refine wpAnyH_take (i := 7) (v := undef) rfl (by kernel_rfl) (by kernel_rfl) (by kernel_rfl) (fun _ _ _ h => h) (Or.inr ⟨by rfl, rfl⟩) H1 ?_
  (try simp only [Act.put, List.getElem_toArray, List.getElem_cons_succ, List.getElem_cons_zero, List.setIfInBounds_toArray, List.set_cons_zero, List.set_cons_succ])
  refine wpAnyH_take (i := 8) (v := undef) rfl (by kernel_rfl) (by kernel_rfl) (by kernel_rfl) (fun _ _ _ h => h) (Or.inr ⟨by rfl, rfl⟩) H1 ?_
  (try simp only [Act.put, List.getElem_toArray, List.getElem_cons_succ, List.getElem_cons_zero, List.setIfInBounds_toArray, List.set_cons_zero, List.set_cons_succ])
  refine wpAnyH_take (i := 9) (v := undef) rfl (by kernel_rfl) (by kernel_rfl) (by kernel_rfl) (fun _ _ _ h => h) (Or.inr ⟨by rfl, rfl⟩) H1 ?_
  (try simp only [Act.put, List.getElem_toArray, List.getElem_cons_succ, List.getElem_cons_zero, List.setIfInBounds_toArray, List.set_cons_zero, List.set_cons_succ])
  refine wpAnyH_take (i := 10) (v := undef) rfl (by kernel_rfl) (by kernel_rfl) (by kernel_rfl) (fun _ _ _ h => h) (Or.inr ⟨by rfl, rfl⟩) H1 ?_
  (try simp only [Act.put, List.getElem_toArray, List.getElem_cons_succ, List.getElem_cons_zero, List.setIfInBounds_toArray, List.set_cons_zero, List.set_cons_succ])
  refine wpAnyH_take (i := 11) (v := undef) rfl (by kernel_rfl) (by kernel_rfl) (by kernel_rfl) (fun _ _ _ h => h) (Or.inr ⟨by rfl, rfl⟩) H1 ?_
  (try simp only [Act.put, List.getElem_toArray, List.getElem_cons_succ, List.getElem_cons_zero, List.setIfInBounds_toArray, List.set_cons_zero, List.set_cons_succ])
  refine' wpAnyH_take (i := 12) (v := _) rfl (by kernel_rfl) (by kernel_rfl) (by kernel_rfl) (fun _ _ _ h => h) (Or.inl ⟨by rfl, ?hya12⟩) H1 ?resta12
  case hya12 =>
    intro w' hSw
    have s1 := hSw
    go_simp
    try with_reducible rfl
  (try simp only [Act.put, List.getElem_toArray, List.getElem_cons_succ, List.getElem_cons_zero, List.setIfInBounds_toArray, List.set_cons_zero, List.set_cons_succ])
  refine wpAnyH_done (by kernel_rfl) ?_ _
  have hx3 := (H1.block _ (lt_of_block hx) (by simp)).trans hx
  obtain ⟨w3, hw3⟩ : ∃ w3, w2.drew = w3 := ⟨_, rfl⟩
  have C3 := C12.trans H1 (by simp)
  try rw [hw3] at hx3 C3 ⊢
  clear hw3 H0 H1 hx KIS
  have HSTO := store_pl w3 q _ (⟨#[]⟩, 0) hx3 rfl
  go_wp2_with (refine wpList_store_y 57 (.tmp 5) (.tmp 21) rfl rfl (.pointer (some ⟨q, 0, none⟩)) (.agg (plC (⟨#[]⟩, 0))) _ HSTO rfl rfl ?_)
  have hx4 := setRow_heap w3 q _ (plC (⟨#[]⟩, 0)) _ _ hx3
  have C4 : Chg [] w (w3.setRow q (plC (⟨#[]⟩, 0))) := C3.trans (Chg.setRow (S := [q]) w3 q (plC (⟨#[]⟩, 0)) (.inl (by simp))) (fun x hx => .inr (by simp at hx; rw [hx]; exact HQ.out))
  exact bodyPost_ret (results_tct rfl _ _ _ _ (plC (⟨#[]⟩, 0)) _ _ rfl hx4 Tryd.underlying57 rfl Tryd.infoPl) rfl ⟨C4, rfl⟩
set_option maxRecDepth 100000 in
set_option maxHeartbeats 4000000 in
theorem blk_find (b : Nat) (F : Files) (S : List Nat) (k : HKey) (w : World) (H : FinderAt w b F S) (hFl : F.length ≤ 30000) :
    Calls Tryd.prog 34 #[.pointer (some ⟨b, 0, none⟩), hkV k] w (Found w (findL F k)) := by
  obtain ⟨R, hR⟩ : ∃ R, hkV k = .agg R := ⟨_, rfl⟩
  have hRs : R.size = 32 := by
    have : hkV k = .agg (hashC fun i => k.1.getD i 0) := rfl
    rw [hR] at this
    cases this
    exact hashC_size _
  rw [hR]
  obtain ⟨hnd, _, bf, bp, fv, pv, HI, _⟩ := H
  have HR := Lib.hid hRs
  have C1 := Chg.alloc [] w (.cells R 32)
  have hx1 := heap_alloc_new w (.cells R 32)
  have C2 := Chg.alloc [] (w.alloc (.cells R 32)) (.cells #[.string ⟨#[]⟩, .int .i64 0] 57)
  have hx := heap_alloc_new (w.alloc (.cells R 32)) (.cells #[.string ⟨#[]⟩, .int .i64 0] 57)
  have hx1 := (C2.block _ (lt_of_block hx1) (by simp)).trans hx1
  obtain ⟨aoo, co, hvo, hoo⟩ := HI.old k
  obtain ⟨n, hn⟩ : ∃ n, (occ F k).length = n := ⟨_, rfl⟩
  rw [hn] at hvo hoo
  have hn2 : n ≤ 1000000 := by have := occ_len F k; omega
  go_enter Tryd.func34, Tryd.ntmps34
  go_upto_region 1 with (fail)
  have C12 := C1.trans C2 (by simp)
  have hz : (w.alloc (.cells R 32)).heap.size = w.heap.size + 1 := by simp
  rw [hz] at hx
  clear C1 C2 hz
  obtain ⟨q, hq⟩ : ∃ q, w.heap.size = q := ⟨_, rfl⟩
  have HQ : Hid (w.heap.size = q) := Lib.hid hq
  rw [hq] at hx hx1
  try rw [hq]
  generalize (w.alloc (.cells R 32)).alloc (.cells #[.string ⟨#[]⟩, .int .i64 0] 57) = w2 at *
  have HFI := Lib.hid (HI.chg C12 (by simp))
  have HO2 := Lib.hid (ownsRow_chg hoo C12 (by simp))
  have hb1 := HFI.out.map.2
  have hq1 := hx1
  have KIS := Lib.hid (fun w' (C : Chg [] w2 w') => blk_is_map b (some bf) w' ((HFI.out.chg C (by simp)).map.1))
  have HLK := Lib.hid (fun w' (C : Chg [] w2 w') => by
    have := look_place (HFI.out.places.chg C (by simp)) k
    rw [hvo, hR] at this
    exact this)
  have HHR := Lib.hid hR
  have HVO := Lib.hid hvo
  have HN := Lib.hid hn
  have HND := Lib.hid hnd
  have HC12 := Lib.hid C12
  have HX2 := Lib.hid hx
  have HSW : Hid (∀ x ∈ S, x < q) := Lib.hid (by rw [← hq]; exact HI.lt)
  clear HI hoo hvo hR hRs hx1 hn hq hnd C12 hx
  by_cases hn0 : n = 0
  · have e0 : (n : Int) = 0 := by omega
    have HF : Hid (findL F k = none) := Lib.hid (by
      have : occ F k = [] := List.eq_nil_of_length_eq_zero (by rw [HN.out]; exact hn0)
      unfold findL
      rw [this]
      rfl)
    refine wp_region_held_drew (S := fun w' => Chg [] w2 w' ∧ w'.cell? ⟨b, 1, none⟩ = some (.map (some bp)) ∧ w'.heap[q]? = some (.cells R 32 (0, 0))) (by kernel_rfl) (⟨Chg.drewN _ w2 1, hb1, hq1⟩) (fun H0 => ?_)
    refine' wpAnyH_take (i := 0) (v := _) rfl (by kernel_rfl) (by kernel_rfl) (by kernel_rfl) (fun _ _ _ h => h) (Or.inl ⟨by rfl, ?hya0⟩) H0 ?resta0
    case hya0 =>
      intro w' hSw
      obtain ⟨s1, s2, s3⟩ := hSw
      go_simp
      try with_reducible rfl
    (try simp only [Act.put, List.getElem_toArray, List.getElem_cons_zero, List.setIfInBounds_toArray, List.set_cons_zero, List.set_cons_succ])
    refine wpAnyH_ready (rs := [1]) (by kernel_rfl) (by simp) (AllReadyH.cons rfl (fun K hK => ?_) AllReadyH.nil)
    go_simp
    refine (KIS.out _ (H0).1).mono ?_
    rintro e wx ⟨rfl, rfl⟩
    go_simp
    refine hK.out _ _ H0 (fun H1 => ?_)
    clear hK K
    refine' wpAnyH_take (i := 2) (v := _) rfl (by kernel_rfl) (by kernel_rfl) (by kernel_rfl) (fun _ _ _ h => h) (Or.inl ⟨by rfl, ?hya2⟩) H1 ?resta2
    case hya2 =>
      intro w' hSw
      obtain ⟨s1, s2, s3⟩ := hSw
      go_simp
      try with_reducible rfl
    (try simp only [Act.put, List.getElem_toArray, List.getElem_cons_succ, List.getElem_cons_zero, List.setIfInBounds_toArray, List.set_cons_zero, List.set_cons_succ])
    refine' wpAnyH_take (i := 3) (v := _) rfl (by kernel_rfl) (by kernel_rfl) (by kernel_rfl) (fun _ _ _ h => h) (Or.inl ⟨by rfl, ?hya3⟩) H1 ?resta3
    case hya3 =>
      intro w' hSw
      obtain ⟨s1, s2, s3⟩ := hSw
      go_simp
      try with_reducible rfl
    (try simp only [Act.put, List.getElem_toArray, List.getElem_cons_succ, List.getElem_cons_zero, List.setIfInBounds_toArray, List.set_cons_zero, List.set_cons_succ])
    refine' wpAnyH_take (i := 4) (v := _) rfl (by kernel_rfl) (by kernel_rfl) (by kernel_rfl) (fun _ _ _ h => h) (Or.inl ⟨by rfl, ?hya4⟩) H1 ?resta4
    case hya4 =>
      intro w' hSw
      obtain ⟨s1, s2, s3⟩ := hSw
      go_simp
      try with_reducible rfl
    (try simp only [Act.put, List.getElem_toArray, List.getElem_cons_succ, List.getElem_cons_zero, List.setIfInBounds_toArray, List.set_cons_zero, List.set_cons_succ])
    refine' wpAnyH_take (i := 5) (v := _) rfl (by kernel_rfl) (by kernel_rfl) (by kernel_rfl) (fun _ _ _ h => h) (Or.inl ⟨by rfl, ?hya5⟩) H1 ?resta5
    case hya5 =>
      intro w' hSw
      obtain ⟨s1, s2, s3⟩ := hSw
      go_simp
      try with_reducible rfl
    (try simp only [Act.put, List.getElem_toArray, List.getElem_cons_succ, List.getElem_cons_zero, List.setIfInBounds_toArray, List.set_cons_zero, List.set_cons_succ])
    refine' wpAnyH_take (i := 6) (v := _) rfl (by kernel_rfl) (by kernel_rfl) (by kernel_rfl) (fun _ _ _ h => h) (Or.inl ⟨by rfl, ?hya6⟩) H1 ?resta6
    case hya6 =>
      intro w' hSw
      obtain ⟨s1, s2, s3⟩ := hSw
      go_simp
      try with_reducible rfl
    (try simp only [Act.put, List.getElem_toArray, List.getElem_cons_succ, List.getElem_cons_zero, List.setIfInBounds_toArray, List.set_cons_zero, List.set_cons_succ])
    refine' wpAnyH_take (i := 7) (v := _) rfl (by kernel_rfl) (by kernel_rfl) (by kernel_rfl) (fun _ _ _ h => h) (Or.inl ⟨by rfl, ?hya7⟩) H1 ?resta7
    case hya7 =>
      intro w' hSw
      obtain ⟨s1, s2, s3⟩ := hSw
      go_simp
      try with_reducible rfl
    (try simp only [Act.put, List.getElem_toArray, List.getElem_cons_succ, List.getElem_cons_zero, List.setIfInBounds_toArray, List.set_cons_zero, List.set_cons_succ])
    refine' wpAnyH_take (i := 8) (v := .agg R) rfl (by kernel_rfl) (by kernel_rfl) (by kernel_rfl) (fun _ _ _ h => h) (Or.inl ⟨by rfl, ?hya8⟩) H1 ?resta8
    case hya8 =>
      intro w' hSw
      obtain ⟨s1, s2, s3⟩ := hSw
      have hld := run_load_hash w' _ _ _ _ s3 HR.out
      simp [execOp, Act.eval, hld, Result.andThen]
    (try simp only [Act.put, List.getElem_toArray, List.getElem_cons_succ, List.getElem_cons_zero, List.setIfInBounds_toArray, List.set_cons_zero, List.set_cons_succ])
    refine' wpAnyH_take (i := 9) (v := .slice aoo n co) rfl (by kernel_rfl) (by kernel_rfl) (by kernel_rfl) (fun _ _ _ h => h) (Or.inl ⟨by rfl, ?hya9⟩) H1 ?resta9
    case hya9 =>
      intro w' hSw
      obtain ⟨s1, s2, s3⟩ := hSw
      have hl := HLK.out w' s1
      simp [execOp, Act.eval, hl, Result.andThen]
    (try simp only [Act.put, List.getElem_toArray, List.getElem_cons_succ, List.getElem_cons_zero, List.setIfInBounds_toArray, List.set_cons_zero, List.set_cons_succ])
    refine' wpAnyH_take (i := 10) (v := _) rfl (by kernel_rfl) (by kernel_rfl) (by kernel_rfl) (fun _ _ _ h => h) (Or.inl ⟨by rfl, ?hya10⟩) H1 ?resta10
    case hya10 =>
      intro w' hSw
      obtain ⟨s1, s2, s3⟩ := hSw
      go_simp
      try with_reducible rfl
    (try simp only [Act.put, List.getElem_toArray, List.getElem_cons_succ, List.getElem_cons_zero, List.setIfInBounds_toArray, List.set_cons_zero, List.set_cons_succ])
    refine' wpAnyH_take (i := 11) (v := _) rfl (by kernel_rfl) (by kernel_rfl) (by kernel_rfl) (fun _ _ _ h => h) (Or.inl ⟨by rfl, ?hya11⟩) H1 ?resta11
    case hya11 =>
      intro w' hSw
      obtain ⟨s1, s2, s3⟩ := hSw
      go_simp
      try with_reducible rfl
    (try simp only [Act.put, List.getElem_toArray, List.getElem_cons_succ, List.getElem_cons_zero, List.setIfInBounds_toArray, List.set_cons_zero, List.set_cons_succ])
    refine' wpAnyH_take (i := 12) (v := _) rfl (by kernel_rfl) (by kernel_rfl) (by kernel_rfl) (fun _ _ _ h => h) (Or.inl ⟨by rfl, ?hya12⟩) H1 ?resta12
    case hya12 =>
      intro w' hSw
      obtain ⟨s1, s2, s3⟩ := hSw
      go_simp
      try with_reducible rfl
    (try simp only [Act.put, List.getElem_toArray, List.getElem_cons_succ, List.getElem_cons_zero, List.setIfInBounds_toArray, List.set_cons_zero, List.set_cons_succ])
    refine wpAnyH_done (by kernel_rfl) ?_ _
    obtain ⟨w3, hw3⟩ : ∃ w3, w2.drew = w3 := ⟨_, rfl⟩
    have hx3 := (H1.1.block _ (lt_of_block HX2.out) (by simp)).trans HX2.out
    have C3 := HC12.out.trans H1.1 (by simp)
    try rw [hw3] at hx3 C3 ⊢
    clear hw3 H0 H1 KIS HLK hb1 hq1
    have HSTO := store_pl w3 (q + 1) _ (⟨#[]⟩, 0) hx3 rfl
    go_wp2_with (refine wpList_store_y 57 (.tmp 5) (.tmp 21) rfl rfl (.pointer (some ⟨q + 1, 0, none⟩)) (.agg (plC (⟨#[]⟩, 0))) _ HSTO rfl rfl ?_)
    have hx4 := setRow_heap w3 (q + 1) _ (plC (⟨#[]⟩, 0)) _ _ hx3
    have C4 : Chg [] w (w3.setRow (q + 1) (plC (⟨#[]⟩, 0))) := C3.trans (Chg.setRow (S := [q + 1]) w3 (q + 1) (plC (⟨#[]⟩, 0)) (.inl (by simp))) (fun x hx => .inr (by simp at hx; have := HQ.out; omega))
    refine bodyPost_ret (results_tct rfl _ _ _ _ (plC (⟨#[]⟩, 0)) _ _ rfl hx4 Tryd.underlying57 rfl Tryd.infoPl) rfl ?_
    rw [HF.out]
    exact ⟨C4, rfl⟩
  · have e0 : ¬ ((n : Int) = 0) := by omega
    obtain ⟨p, r, hpr⟩ : ∃ p r, occ F k = p :: r := by
      cases hoc : occ F k with
      | nil => have := HN.out; rw [hoc] at this; exact absurd this.symm hn0
      | cons p r => exact ⟨p, r, rfl⟩
    have hrl : r.length + 1 = n := by have := HN.out; rw [hpr] at this; exact this
    obtain ⟨m, hm⟩ : ∃ m, minTo p r r.length = m := ⟨_, rfl⟩
    have hmm : m ∈ occ F k := by rw [hpr, ← hm]; exact minTo_mem _ _ _
    obtain ⟨v, hmg, hfv⟩ := HFI.out.file HND.out (occ_name hmm)
    obtain ⟨af, cf, rfl, hof⟩ := hfv
    obtain ⟨dn, hdn⟩ : ∃ dn, (dataF F m.1).length = dn := ⟨_, rfl⟩
    have hdc : dn ≤ cf := by obtain ⟨_, _, e, h, _⟩ := ownsRow_slice hof; cases e; omega
    obtain ⟨g, rfl⟩ := ownsRow_head HO2.out (by omega)
    have HFD : Hid (findL F k = some (m, partZ (dataF F m.1) m.2)) := Lib.hid (by
      unfold findL pickP
      rw [hpr]
      simp only [Option.map_some, hm])
    have HLF2 := Lib.hid (fun w' (C : Chg [q + 1] w2 w') => by
      have := look_file (HFI.out.files.chg C (by have := HSW.out _ HFI.out.ff; simp; omega)) m.1 false
      rw [hmg] at this
      exact this)
    have hab : ∀ a, af = some a → a.block ∉ [q + 1] := fun a ha hm => by
      subst ha
      have := HSW.out _ (HFI.out.fo _ (mget_mem hmg) a.block rfl)
      simp at hm
      omega
    obtain ⟨xs, hxs⟩ : ∃ xs, partZ (dataF F m.1) m.2 = xs := ⟨_, rfl⟩
    have KM2 := Lib.hid (fun w' (C : Chg [] w2 w') => by
      have := blk_min p r g co w' (by rw [hrl, ← hpr]; exact ownsRow_chg HO2.out C (by simp)) (by omega)
      rw [hrl, hm] at this
      exact this)
    have KP2 := Lib.hid (fun w' (C : Chg [q + 1] w2 w') => by
      have := blk_Part (dataF F m.1) af cf m.2 w' ((ownsRow_src hof).chg C hab) (by rw [hdn]; exact hdc)
      rw [hdn, hxs] at this
      exact this)
    rw [hdn] at HLF2
    rw [hxs] at HFD
    clear hmg hof hm hmm hpr hrl hdn hdc hab hxs
    refine wp_region_held_drew (S := fun w' => Chg [] w2 w' ∧ w'.cell? ⟨b, 1, none⟩ = some (.map (some bp)) ∧ w'.heap[q]? = some (.cells R 32 (0, 0))) (by kernel_rfl) (⟨Chg.drewN _ w2 1, hb1, hq1⟩) (fun H0 => ?_)
    refine' wpAnyH_take (i := 0) (v := _) rfl (by kernel_rfl) (by kernel_rfl) (by kernel_rfl) (fun _ _ _ h => h) (Or.inl ⟨by rfl, ?hyd0⟩) H0 ?restd0
    case hyd0 =>
      intro w' hSw
      obtain ⟨s1, s2, s3⟩ := hSw
      go_simp
      try with_reducible rfl
    (try simp only [Act.put, List.getElem_toArray, List.getElem_cons_zero, List.setIfInBounds_toArray, List.set_cons_zero, List.set_cons_succ])
    refine wpAnyH_ready (rs := [1]) (by kernel_rfl) (by simp) (AllReadyH.cons rfl (fun K hK => ?_) AllReadyH.nil)
    go_simp
    refine (KIS.out _ (H0).1).mono ?_
    rintro e wx ⟨rfl, rfl⟩
    go_simp
    refine hK.out _ _ H0 (fun H1 => ?_)
    clear hK K
    refine' wpAnyH_take (i := 2) (v := _) rfl (by kernel_rfl) (by kernel_rfl) (by kernel_rfl) (fun _ _ _ h => h) (Or.inl ⟨by rfl, ?hyd2⟩) H1 ?restd2
    case hyd2 =>
      intro w' hSw
      obtain ⟨s1, s2, s3⟩ := hSw
      go_simp
      try with_reducible rfl
    (try simp only [Act.put, List.getElem_toArray, List.getElem_cons_succ, List.getElem_cons_zero, List.setIfInBounds_toArray, List.set_cons_zero, List.set_cons_succ])
    refine' wpAnyH_take (i := 3) (v := _) rfl (by kernel_rfl) (by kernel_rfl) (by kernel_rfl) (fun _ _ _ h => h) (Or.inl ⟨by rfl, ?hyd3⟩) H1 ?restd3
    case hyd3 =>
      intro w' hSw
      obtain ⟨s1, s2, s3⟩ := hSw
      go_simp
      try with_reducible rfl
    (try simp only [Act.put, List.getElem_toArray, List.getElem_cons_succ, List.getElem_cons_zero, List.setIfInBounds_toArray, List.set_cons_zero, List.set_cons_succ])
    refine' wpAnyH_take (i := 4) (v := _) rfl (by kernel_rfl) (by kernel_rfl) (by kernel_rfl) (fun _ _ _ h => h) (Or.inl ⟨by rfl, ?hyd4⟩) H1 ?restd4
    case hyd4 =>
      intro w' hSw
      obtain ⟨s1, s2, s3⟩ := hSw
      go_simp
      try with_reducible rfl
    (try simp only [Act.put, List.getElem_toArray, List.getElem_cons_succ, List.getElem_cons_zero, List.setIfInBounds_toArray, List.set_cons_zero, List.set_cons_succ])
    refine' wpAnyH_take (i := 5) (v := _) rfl (by kernel_rfl) (by kernel_rfl) (by kernel_rfl) (fun _ _ _ h => h) (Or.inl ⟨by rfl, ?hyd5⟩) H1 ?restd5
    case hyd5 =>
      intro w' hSw
      obtain ⟨s1, s2, s3⟩ := hSw
      go_simp
      try with_reducible rfl
    (try simp only [Act.put, List.getElem_toArray, List.getElem_cons_succ, List.getElem_cons_zero, List.setIfInBounds_toArray, List.set_cons_zero, List.set_cons_succ])
    refine' wpAnyH_take (i := 6) (v := _) rfl (by kernel_rfl) (by kernel_rfl) (by kernel_rfl) (fun _ _ _ h => h) (Or.inl ⟨by rfl, ?hyd6⟩) H1 ?restd6
    case hyd6 =>
      intro w' hSw
      obtain ⟨s1, s2, s3⟩ := hSw
      go_simp
      try with_reducible rfl
    (try simp only [Act.put, List.getElem_toArray, List.getElem_cons_succ, List.getElem_cons_zero, List.setIfInBounds_toArray, List.set_cons_zero, List.set_cons_succ])
    refine' wpAnyH_take (i := 7) (v := _) rfl (by kernel_rfl) (by kernel_rfl) (by kernel_rfl) (fun _ _ _ h => h) (Or.inl ⟨by rfl, ?hyd7⟩) H1 ?restd7
    case hyd7 =>
      intro w' hSw
      obtain ⟨s1, s2, s3⟩ := hSw
      go_simp
      try with_reducible rfl
    (try simp only [Act.put, List.getElem_toArray, List.getElem_cons_succ, List.getElem_cons_zero, List.setIfInBounds_toArray, List.set_cons_zero, List.set_cons_succ])
    refine' wpAnyH_take (i := 8) (v := .agg R) rfl (by kernel_rfl) (by kernel_rfl) (by kernel_rfl) (fun _ _ _ h => h) (Or.inl ⟨by rfl, ?hyd8⟩) H1 ?restd8
    case hyd8 =>
      intro w' hSw
      obtain ⟨s1, s2, s3⟩ := hSw
      have hld := run_load_hash w' _ _ _ _ s3 HR.out
      simp [execOp, Act.eval, hld, Result.andThen]
    (try simp only [Act.put, List.getElem_toArray, List.getElem_cons_succ, List.getElem_cons_zero, List.setIfInBounds_toArray, List.set_cons_zero, List.set_cons_succ])
    refine' wpAnyH_take (i := 9) (v := .slice (some ⟨g, 0, none⟩) n co) rfl (by kernel_rfl) (by kernel_rfl) (by kernel_rfl) (fun _ _ _ h => h) (Or.inl ⟨by rfl, ?hyd9⟩) H1 ?restd9
    case hyd9 =>
      intro w' hSw
      obtain ⟨s1, s2, s3⟩ := hSw
      have hl := HLK.out w' s1
      simp [execOp, Act.eval, hl, Result.andThen]
    (try simp only [Act.put, List.getElem_toArray, List.getElem_cons_succ, List.getElem_cons_zero, List.setIfInBounds_toArray, List.set_cons_zero, List.set_cons_succ])
    refine' wpAnyH_take (i := 10) (v := _) rfl (by kernel_rfl) (by kernel_rfl) (by kernel_rfl) (fun _ _ _ h => h) (Or.inl ⟨by rfl, ?hyd10⟩) H1 ?restd10
    case hyd10 =>
      intro w' hSw
      obtain ⟨s1, s2, s3⟩ := hSw
      go_simp
      try with_reducible rfl
    (try simp only [Act.put, List.getElem_toArray, List.getElem_cons_succ, List.getElem_cons_zero, List.setIfInBounds_toArray, List.set_cons_zero, List.set_cons_succ])
    refine' wpAnyH_take (i := 11) (v := _) rfl (by kernel_rfl) (by kernel_rfl) (by kernel_rfl) (fun _ _ _ h => h) (Or.inl ⟨by rfl, ?hyd11⟩) H1 ?restd11
    case hyd11 =>
      intro w' hSw
      obtain ⟨s1, s2, s3⟩ := hSw
      go_simp
      try with_reducible rfl
    (try simp only [Act.put, List.getElem_toArray, List.getElem_cons_succ, List.getElem_cons_zero, List.setIfInBounds_toArray, List.set_cons_zero, List.set_cons_succ])
    refine' wpAnyH_take (i := 12) (v := _) rfl (by kernel_rfl) (by kernel_rfl) (by kernel_rfl) (fun _ _ _ h => h) (Or.inl ⟨by rfl, ?hyd12⟩) H1 ?restd12
    case hyd12 =>
      intro w' hSw
      obtain ⟨s1, s2, s3⟩ := hSw
      go_simp
      try with_reducible rfl
    (try simp only [Act.put, List.getElem_toArray, List.getElem_cons_succ, List.getElem_cons_zero, List.setIfInBounds_toArray, List.set_cons_zero, List.set_cons_succ])
    refine wpAnyH_done (by kernel_rfl) ?_ _
    obtain ⟨w3, hw3⟩ : ∃ w3, w2.drew = w3 := ⟨_, rfl⟩
    try rw [hw3] at H1 ⊢
    obtain ⟨C3, hb3, hq3⟩ := H1
    have HC23 := Lib.hid C3
    have HLK3 := Lib.hid (fun w' (C : Chg [] w3 w') => HLK.out w' (HC23.out.trans C (by simp)))
    have KM := Lib.hid (fun w' (C : Chg [] w3 w') => KM2.out w' (HC23.out.trans C (by simp)))
    have HC3 := Lib.hid (show ∀ w', Chg [] w3 w' → Chg [] w3 w' ∧ w'.cell? ⟨b, 1, none⟩ = some (.map (some bp)) ∧ w'.heap[q]? = some (.cells R 32 (0, 0)) from fun w' C => ⟨C, C.cell_some hb3 (by simp), (C.block _ (lt_of_block hq3) (by simp)).trans hq3⟩)
    clear hw3 C3 H0 KIS HLK KM2 hb1 hq1
    go_upto_region 3 with (fail)
    refine wp_region_held_drew (S := fun w' => Chg [] w3 w' ∧ w'.cell? ⟨b, 1, none⟩ = some (.map (some bp)) ∧ w'.heap[q]? = some (.cells R 32 (0, 0))) (by kernel_rfl) (⟨Chg.drewN _ w3 1, hb3, hq3⟩) (fun H0 => ?_)
    refine' wpAnyH_take (i := 0) (v := _) rfl (by kernel_rfl) (by kernel_rfl) (by kernel_rfl) (fun _ _ _ h => h) (Or.inl ⟨by rfl, ?hyb0⟩) H0 ?restb0
    case hyb0 =>
      intro w' hSw
      obtain ⟨s1, s2, s3⟩ := hSw
      go_simp
      try with_reducible rfl
    (try simp only [Act.put, List.getElem_toArray, List.getElem_cons_zero, List.setIfInBounds_toArray, List.set_cons_zero, List.set_cons_succ])
    refine' wpAnyH_take (i := 1) (v := _) rfl (by kernel_rfl) (by kernel_rfl) (by kernel_rfl) (fun _ _ _ h => h) (Or.inl ⟨by rfl, ?hyb1⟩) H0 ?restb1
    case hyb1 =>
      intro w' hSw
      obtain ⟨s1, s2, s3⟩ := hSw
      go_simp
      try with_reducible rfl
    (try simp only [Act.put, List.getElem_toArray, List.getElem_cons_succ, List.getElem_cons_zero, List.setIfInBounds_toArray, List.set_cons_zero, List.set_cons_succ])
    refine' wpAnyH_take (i := 2) (v := _) rfl (by kernel_rfl) (by kernel_rfl) (by kernel_rfl) (fun _ _ _ h => h) (Or.inl ⟨by rfl, ?hyb2⟩) H0 ?restb2
    case hyb2 =>
      intro w' hSw
      obtain ⟨s1, s2, s3⟩ := hSw
      go_simp
      try with_reducible rfl
    (try simp only [Act.put, List.getElem_toArray, List.getElem_cons_succ, List.getElem_cons_zero, List.setIfInBounds_toArray, List.set_cons_zero, List.set_cons_succ])
    refine' wpAnyH_take (i := 3) (v := _) rfl (by kernel_rfl) (by kernel_rfl) (by kernel_rfl) (fun _ _ _ h => h) (Or.inl ⟨by rfl, ?hyb3⟩) H0 ?restb3
    case hyb3 =>
      intro w' hSw
      obtain ⟨s1, s2, s3⟩ := hSw
      go_simp
      try with_reducible rfl
    (try simp only [Act.put, List.getElem_toArray, List.getElem_cons_succ, List.getElem_cons_zero, List.setIfInBounds_toArray, List.set_cons_zero, List.set_cons_succ])
    refine' wpAnyH_take (i := 4) (v := .agg R) rfl (by kernel_rfl) (by kernel_rfl) (by kernel_rfl) (fun _ _ _ h => h) (Or.inl ⟨by rfl, ?hyb4⟩) H0 ?restb4
    case hyb4 =>
      intro w' hSw
      obtain ⟨s1, s2, s3⟩ := hSw
      have hld := run_load_hash w' _ _ _ _ s3 HR.out
      simp [execOp, Act.eval, hld, Result.andThen]
    (try simp only [Act.put, List.getElem_toArray, List.getElem_cons_succ, List.getElem_cons_zero, List.setIfInBounds_toArray, List.set_cons_zero, List.set_cons_succ])
    refine' wpAnyH_take (i := 5) (v := .slice (some ⟨g, 0, none⟩) n co) rfl (by kernel_rfl) (by kernel_rfl) (by kernel_rfl) (fun _ _ _ h => h) (Or.inl ⟨by rfl, ?hyb5⟩) H0 ?restb5
    case hyb5 =>
      intro w' hSw
      obtain ⟨s1, s2, s3⟩ := hSw
      have hl := HLK3.out w' s1
      simp [execOp, Act.eval, hl, Result.andThen]
    (try simp only [Act.put, List.getElem_toArray, List.getElem_cons_succ, List.getElem_cons_zero, List.setIfInBounds_toArray, List.set_cons_zero, List.set_cons_succ])
    refine wpAnyH_ready (rs := [6, 7]) (by kernel_rfl) (by simp) (AllReadyH.cons rfl (fun K hK => ?_) (AllReadyH.cons rfl (fun K hK => ?_) AllReadyH.nil))
    · go_simp
      refine (KM.out _ (H0).1).mono ?_
      rintro e w4 ⟨rfl, C4⟩
      go_simp
      refine hK.out _ _ (HC3.out _ ((H0).1.trans C4 (by simp))) (fun H1 => ?_)
      clear hK K
      refine wpAnyH_ready (rs := [7]) (by kernel_rfl) (by simp) (AllReadyH.cons rfl (fun K hK => ?_) AllReadyH.nil)
      go_simp
      refine hK.out _ _ (HC3.out _ ((H1).1.trans (Chg.alloc [] w4 _) (by simp))) (fun H2 => ?_)
      clear hK K
      have hx5 := heap_alloc_new w4 (.cells #[.string ⟨#[]⟩, .int .i64 0] 57)
      have hst5 := run_storeAt_new w4 57 #[.string ⟨#[]⟩, .int .i64 0] (plC m) Tryd.infoPl rfl (plC_one m)
      refine wpAnyH_ready (rs := [8]) (by kernel_rfl) (by simp) (AllReadyH.cons rfl (fun K hK => ?_) AllReadyH.nil)
      refine step_store_y 57 (.tmp 7) (.tmp 28) rfl rfl _ _ _ hst5 rfl rfl ?_
      refine hK.out _ _ (HC3.out _ (H1.1.trans (Chg.alloc [] w4 _) (by simp))) (fun H3 => ?_)
      clear hK K hst5
      refine wpAnyH_done (by kernel_rfl) ?_ _
      have hx5 := heap_alloc_new w4 (.cells (plC m) 57)
      have C5 := H1.1.trans (Chg.alloc [] w4 (.cells (plC m) 57)) (by simp)
      have hg4 : w3.heap.size ≤ w4.heap.size := H1.1.size
      obtain ⟨g5, hg5⟩ : ∃ g5, w4.heap.size = g5 := ⟨_, rfl⟩
      rw [hg5] at hx5 hg4 ⊢
      clear hg5
      generalize w4.alloc (.cells (plC m) 57) = w5 at *
      have hx3 := (HC23.out.block _ (lt_of_block HX2.out) (by simp)).trans HX2.out
      obtain ⟨q1, hq1⟩ : ∃ q1, q + 1 = q1 := ⟨_, rfl⟩
      have hqw : q1 < w3.heap.size := by rw [← hq1]; exact lt_of_block hx3
      rw [hq1] at HLF2 KP2 hx3
      try rw [hq1]
      clear HX2
      have HC25 := Lib.hid (HC23.out.trans C5 (by simp))
      have HC5w := Lib.hid C5
      have hb5 : w5.cell? ⟨b, 0, none⟩ = some (.map (some bf)) := (HFI.out.chg HC25.out (by simp)).map.1
      have HLF := Lib.hid (fun w' (C : Chg [q1] w5 w') => HLF2.out w' ((HC25.out.mono (by simp)).trans C (fun x hx => .inl hx)))
      have KP := Lib.hid (fun w' (C : Chg [q1] w5 w') => KP2.out w' ((HC25.out.mono (by simp)).trans C (fun x hx => .inl hx)))
      have hbq : b < q := HSW.out _ HFI.out.fb
      have HC5 := Lib.hid (show ∀ w', Chg [q1] w5 w' → Chg [q1] w5 w' ∧ w'.cell? ⟨b, 0, none⟩ = some (.map (some bf)) ∧ w'.heap[g5]? = some (.cells (plC m) 57 (0, 0)) from fun w' C => ⟨C, C.cell_some hb5 (by simp; omega), (C.block _ (lt_of_block hx5) (by simp; omega)).trans hx5⟩)
      have HX1 : Hid (∀ w6, Chg [] w5.drew w6 → w6.heap[q1]? = some (.cells #[.string ⟨#[]⟩, .int .i64 0] 57 (0, 0))) := Lib.hid (fun w6 C => by
        have C' := (C5.trans (Chg.drewN [] w5 1) (by simp)).trans C (by simp)
        exact (C'.block _ hqw (by simp)).trans hx3)
      have HQW := Lib.hid (show q1 < w5.drew.heap.size from Nat.lt_of_lt_of_le hqw (C5.trans (Chg.drewN [] w5 1) (by simp)).size)
      have HD5 := Lib.hid (show Chg [] w5 w5.drew from Chg.drewN [] w5 1)
      clear H0 HFI H2 H3 HC3 KM HLK3 hb3 hq3 hx3 C5 HLF2 KP2
      go_upto_region 4 with (fail)
      refine wp_region_held_drew (S := fun w' => Chg [q1] w5 w' ∧ w'.cell? ⟨b, 0, none⟩ = some (.map (some bf)) ∧ w'.heap[g5]? = some (.cells (plC m) 57 (0, 0))) (by kernel_rfl) (⟨Chg.drewN _ w5 1, hb5, hx5⟩) (fun H0 => ?_)
      refine' wpAnyH_take (i := 0) (v := _) rfl (by kernel_rfl) (by kernel_rfl) (by kernel_rfl) (fun _ _ _ h => h) (Or.inl ⟨by rfl, ?hyc0⟩) H0 ?restc0
      case hyc0 =>
        intro w' hSw
        obtain ⟨s1, s2, s3⟩ := hSw
        go_simp
        try with_reducible rfl
      (try simp only [Act.put, List.getElem_toArray, List.getElem_cons_zero, List.setIfInBounds_toArray])
      refine' wpAnyH_take (i := 1) (v := _) rfl (by kernel_rfl) (by kernel_rfl) (by kernel_rfl) (fun _ _ _ h => h) (Or.inl ⟨by rfl, ?hyc1⟩) H0 ?restc1
      case hyc1 =>
        intro w' hSw
        obtain ⟨s1, s2, s3⟩ := hSw
        go_simp
        try with_reducible rfl
      (try simp only [Act.put, List.getElem_toArray, List.getElem_cons_succ, List.getElem_cons_zero, List.setIfInBounds_toArray, List.set_cons_zero, List.set_cons_succ])
      refine' wpAnyH_take (i := 2) (v := _) rfl (by kernel_rfl) (by kernel_rfl) (by kernel_rfl) (fun _ _ _ h => h) (Or.inl ⟨by rfl, ?hyc2⟩) H0 ?restc2
      case hyc2 =>
        intro w' hSw
        obtain ⟨s1, s2, s3⟩ := hSw
        go_simp
        try with_reducible rfl
      (try simp only [Act.put, List.getElem_toArray, List.getElem_cons_succ, List.getElem_cons_zero, List.setIfInBounds_toArray, List.set_cons_zero, List.set_cons_succ])
      refine' wpAnyH_take (i := 3) (v := _) rfl (by kernel_rfl) (by kernel_rfl) (by kernel_rfl) (fun _ _ _ h => h) (Or.inl ⟨by rfl, ?hyc3⟩) H0 ?restc3
      case hyc3 =>
        intro w' hSw
        obtain ⟨s1, s2, s3⟩ := hSw
        go_simp
        try with_reducible rfl
      (try simp only [Act.put, List.getElem_toArray, List.getElem_cons_succ, List.getElem_cons_zero, List.setIfInBounds_toArray, List.set_cons_zero, List.set_cons_succ])
      refine' wpAnyH_take (i := 4) (v := _) rfl (by kernel_rfl) (by kernel_rfl) (by kernel_rfl) (fun _ _ _ h => h) (Or.inl ⟨by rfl, ?hyc4⟩) H0 ?restc4
      case hyc4 =>
        intro w' hSw
        obtain ⟨s1, s2, s3⟩ := hSw
        go_simp
        try with_reducible rfl
      (try simp only [Act.put, List.getElem_toArray, List.getElem_cons_succ, List.getElem_cons_zero, List.setIfInBounds_toArray, List.set_cons_zero, List.set_cons_succ])
      refine' wpAnyH_take (i := 5) (v := _) rfl (by kernel_rfl) (by kernel_rfl) (by kernel_rfl) (fun _ _ _ h => h) (Or.inl ⟨by rfl, ?hyc5⟩) H0 ?restc5
      case hyc5 =>
        intro w' hSw
        obtain ⟨s1, s2, s3⟩ := hSw
        have z0 : w'.cell? ⟨g5, 0, none⟩ = some (.string m.1) := by rw [cell_of_row _ _ _ _ _ _ s3]; rfl
        have z1 : w'.cell? ⟨g5, 1, none⟩ = some (.int .i64 m.2) := by rw [cell_of_row _ _ _ _ _ _ s3]; rfl
        go_simp
        try with_reducible rfl
      (try simp only [Act.put, List.getElem_toArray, List.getElem_cons_succ, List.getElem_cons_zero, List.setIfInBounds_toArray, List.set_cons_zero, List.set_cons_succ])
      refine' wpAnyH_take (i := 6) (v := .slice af dn cf) rfl (by kernel_rfl) (by kernel_rfl) (by kernel_rfl) (fun _ _ _ h => h) (Or.inl ⟨by rfl, ?hyc6⟩) H0 ?restc6
      case hyc6 =>
        intro w' hSw
        obtain ⟨s1, s2, s3⟩ := hSw
        have hl := HLF.out w' s1
        simp [execOp, Act.eval, hl, Result.andThen]
      (try simp only [Act.put, List.getElem_toArray, List.getElem_cons_succ, List.getElem_cons_zero, List.setIfInBounds_toArray, List.set_cons_zero, List.set_cons_succ])
      refine' wpAnyH_take (i := 7) (v := _) rfl (by kernel_rfl) (by kernel_rfl) (by kernel_rfl) (fun _ _ _ h => h) (Or.inl ⟨by rfl, ?hyc7⟩) H0 ?restc7
      case hyc7 =>
        intro w' hSw
        obtain ⟨s1, s2, s3⟩ := hSw
        go_simp
        try with_reducible rfl
      (try simp only [Act.put, List.getElem_toArray, List.getElem_cons_succ, List.getElem_cons_zero, List.setIfInBounds_toArray, List.set_cons_zero, List.set_cons_succ])
      refine' wpAnyH_take (i := 8) (v := _) rfl (by kernel_rfl) (by kernel_rfl) (by kernel_rfl) (fun _ _ _ h => h) (Or.inl ⟨by rfl, ?hyc8⟩) H0 ?restc8
      case hyc8 =>
        intro w' hSw
        obtain ⟨s1, s2, s3⟩ := hSw
        have z0 : w'.cell? ⟨g5, 0, none⟩ = some (.string m.1) := by rw [cell_of_row _ _ _ _ _ _ s3]; rfl
        have z1 : w'.cell? ⟨g5, 1, none⟩ = some (.int .i64 m.2) := by rw [cell_of_row _ _ _ _ _ _ s3]; rfl
        go_simp
        try with_reducible rfl
      (try simp only [Act.put, List.getElem_toArray, List.getElem_cons_succ, List.getElem_cons_zero, List.setIfInBounds_toArray, List.set_cons_zero, List.set_cons_succ])
      refine' wpAnyH_take (i := 10) (v := .agg (plC m)) rfl (by kernel_rfl) (by kernel_rfl) (by kernel_rfl) (fun _ _ _ h => h) (Or.inl ⟨by rfl, ?hyc10⟩) H0 ?restc10
      case hyc10 =>
        intro w' hSw
        obtain ⟨s1, s2, s3⟩ := hSw
        have hl := load_pl w' g5 m s3
        simp [execOp, Act.eval, hl, Result.andThen]
      (try simp only [Act.put, List.getElem_toArray, List.getElem_cons_succ, List.getElem_cons_zero, List.setIfInBounds_toArray, List.set_cons_zero, List.set_cons_succ])
      refine wpAnyH_ready (rs := [9]) (by kernel_rfl) (by simp) (AllReadyH.cons rfl (fun K hK => ?_) AllReadyH.nil)
      go_simp
      refine (KP.out _ (H0).1).mono ?_
      rintro e w6 ⟨a6, c6, rfl, ho6, hn6, C6⟩
      go_simp
      refine hK.out _ _ (HC5.out _ ((H0).1.trans (C6.mono (T := [q1]) (by simp)) (fun x hx => .inl hx))) (fun H1 => ?_)
      clear hK K
      have hx6 := HX1.out w6 C6
      have hst6 := run_storeAt_row (P := Tryd.prog) w6 q1 57 _ _ (plC m) hx6 Tryd.infoPl rfl (plC_one m)
      refine' wpAnyH_take (i := 11) (v := _) rfl (by kernel_rfl) (by kernel_rfl) (by kernel_rfl) (fun _ _ _ h => h) (Or.inl ⟨by rfl, ?hyc11⟩) H1 ?restc11
      case hyc11 =>
        intro w' hSw
        obtain ⟨s1, s2, s3⟩ := hSw
        go_simp
        try with_reducible rfl
      (try simp only [Act.put, List.getElem_toArray, List.getElem_cons_succ, List.getElem_cons_zero, List.setIfInBounds_toArray, List.set_cons_zero, List.set_cons_succ])
      refine wpAnyH_ready (rs := [12]) (by kernel_rfl) (by simp) (AllReadyH.cons rfl (fun K hK => ?_) AllReadyH.nil)
      refine step_store_y 57 (.tmp 5) (.tmp 39) rfl rfl _ _ _ hst6 rfl rfl ?_
      refine hK.out _ _ (HC5.out _ (H1.1.trans (Chg.setRow (S := [q1]) w6 q1 (plC m) (.inl (by simp))) (fun x hx => .inl hx))) (fun H2 => ?_)
      clear hK K
      refine' wpAnyH_take (i := 13) (v := _) rfl (by kernel_rfl) (by kernel_rfl) (by kernel_rfl) (fun _ _ _ h => h) (Or.inl ⟨by rfl, ?hyc13⟩) H2 ?restc13
      case hyc13 =>
        intro w' hSw
        obtain ⟨s1, s2, s3⟩ := hSw
        go_simp
        try with_reducible rfl
      (try simp only [Act.put, List.getElem_toArray, List.getElem_cons_succ, List.getElem_cons_zero, List.setIfInBounds_toArray, List.set_cons_zero, List.set_cons_succ])
      refine wpAnyH_done (by kernel_rfl) ?_ _
      have HX6 := Lib.hid (setRow_heap w6 q1 _ (plC m) _ _ hx6)
      go_wp2_with fail
      refine bodyPost_ret (results_tct rfl _ _ _ _ (plC m) _ _ rfl HX6.out Tryd.underlying57 rfl Tryd.infoPl) rfl ?_
      have C06 := (HC12.out.trans HC25.out (by simp)).trans (HD5.out.trans C6 (by simp)) (by simp)
      have hqq : w.heap.size ≤ q1 := by have := HQ.out; omega
      rw [HFD.out]
      refine ⟨C06.trans (Chg.setRow (S := [q1]) w6 q1 (plC m) (.inl (by simp))) (fun x hx => .inr (by simp at hx; rw [hx]; exact hqq)), a6, c6, rfl, ownsRow_chg ho6 (Chg.setRow (S := [q1]) w6 q1 (plC m) (.inl (by simp))) (fun x hx hm => ?_), fun x hx => ?_⟩
      · have h1 := hn6 x hx
        have h2 := HQW.out
        simp at hm
        omega
      · have h1 := hn6 x hx
        have h2 := (HC12.out.trans HC25.out (by simp)).size
        have h3 := HD5.out.size
        omega
    · have CB : Chg [] w3 (w3.alloc (.cells #[.string ⟨#[]⟩, .int .i64 0] 57)).drew := (Chg.alloc [] w3 _).trans (Chg.drewN [] _ 1) (by simp)
      go_simp
      refine hK.out _ _ (HC3.out _ CB) (fun H1 => ?_)
      clear hK K
      have hx4 := heap_alloc_new w3 (.cells #[.string ⟨#[]⟩, .int .i64 0] 57)
      refine wpAnyH_ready (rs := [6]) (by kernel_rfl) (by simp) (AllReadyH.cons rfl (fun K hK => ?_) AllReadyH.nil)
      go_simp
      refine (KM.out _ (H1).1).mono ?_
      rintro e w4 ⟨rfl, C4⟩
      go_simp
      refine hK.out _ _ (HC3.out _ ((H1).1.trans C4 (by simp))) (fun H2 => ?_)
      clear hK K
      have hx4 := (C4.block w3.heap.size (lt_of_block (w := (w3.alloc (.cells #[.string ⟨#[]⟩, .int .i64 0] 57)).drew) hx4) (by simp)).trans hx4
      have hst5 := run_storeAt_row (P := Tryd.prog) w4 w3.heap.size 57 _ _ (plC m) hx4 Tryd.infoPl rfl (plC_one m)
      have CS : Chg [] w3 (w4.setRow w3.heap.size (plC m)) := (CB.trans C4 (by simp)).trans (Chg.setRow (S := [w3.heap.size]) w4 w3.heap.size (plC m) (.inl (by simp))) (by simp)
      refine wpAnyH_ready (rs := [8]) (by kernel_rfl) (by simp) (AllReadyH.cons rfl (fun K hK => ?_) AllReadyH.nil)
      refine step_store_y 57 (.tmp 7) (.tmp 28) rfl rfl _ _ _ hst5 rfl rfl ?_
      refine hK.out _ _ (HC3.out _ CS) (fun H3 => ?_)
      clear hK K hst5
      refine wpAnyH_done (by kernel_rfl) ?_ _
      have hx5 := setRow_heap w4 w3.heap.size _ (plC m) _ _ hx4
      have C5 := CS
      have hg4 : w3.heap.size ≤ w3.heap.size := Nat.le_refl _
      obtain ⟨g5, hg5⟩ : ∃ g5, w3.heap.size = g5 := ⟨_, rfl⟩
      generalize w4.setRow w3.heap.size (plC m) = w5 at *
      rw [hg5] at hx5 ⊢
      have hg4 : w3.heap.size ≤ g5 := by omega
      clear hg5 hx4 CB CS C4
      have hx3 := (HC23.out.block _ (lt_of_block HX2.out) (by simp)).trans HX2.out
      obtain ⟨q1, hq1⟩ : ∃ q1, q + 1 = q1 := ⟨_, rfl⟩
      have hqw : q1 < w3.heap.size := by rw [← hq1]; exact lt_of_block hx3
      rw [hq1] at HLF2 KP2 hx3
      try rw [hq1]
      clear HX2
      have HC25 := Lib.hid (HC23.out.trans C5 (by simp))
      have HC5w := Lib.hid C5
      have hb5 : w5.cell? ⟨b, 0, none⟩ = some (.map (some bf)) := (HFI.out.chg HC25.out (by simp)).map.1
      have HLF := Lib.hid (fun w' (C : Chg [q1] w5 w') => HLF2.out w' ((HC25.out.mono (by simp)).trans C (fun x hx => .inl hx)))
      have KP := Lib.hid (fun w' (C : Chg [q1] w5 w') => KP2.out w' ((HC25.out.mono (by simp)).trans C (fun x hx => .inl hx)))
      have hbq : b < q := HSW.out _ HFI.out.fb
      have HC5 := Lib.hid (show ∀ w', Chg [q1] w5 w' → Chg [q1] w5 w' ∧ w'.cell? ⟨b, 0, none⟩ = some (.map (some bf)) ∧ w'.heap[g5]? = some (.cells (plC m) 57 (0, 0)) from fun w' C => ⟨C, C.cell_some hb5 (by simp; omega), (C.block _ (lt_of_block hx5) (by simp; omega)).trans hx5⟩)
      have HX1 : Hid (∀ w6, Chg [] w5.drew w6 → w6.heap[q1]? = some (.cells #[.string ⟨#[]⟩, .int .i64 0] 57 (0, 0))) := Lib.hid (fun w6 C => by
        have C' := (C5.trans (Chg.drewN [] w5 1) (by simp)).trans C (by simp)
        exact (C'.block _ hqw (by simp)).trans hx3)
      have HQW := Lib.hid (show q1 < w5.drew.heap.size from Nat.lt_of_lt_of_le hqw (C5.trans (Chg.drewN [] w5 1) (by simp)).size)
      have HD5 := Lib.hid (show Chg [] w5 w5.drew from Chg.drewN [] w5 1)
      clear H0 HFI H2 H3 HC3 KM HLK3 hb3 hq3 hx3 C5 HLF2 KP2
      go_upto_region 4 with (fail)
      refine wp_region_held_drew (S := fun w' => Chg [q1] w5 w' ∧ w'.cell? ⟨b, 0, none⟩ = some (.map (some bf)) ∧ w'.heap[g5]? = some (.cells (plC m) 57 (0, 0))) (by kernel_rfl) (⟨Chg.drewN _ w5 1, hb5, hx5⟩) (fun H0 => ?_)
      refine' wpAnyH_take (i := 0) (v := _) rfl (by kernel_rfl) (by kernel_rfl) (by kernel_rfl) (fun _ _ _ h => h) (Or.inl ⟨by rfl, ?hyg0⟩) H0 ?restg0
      case hyg0 =>
        intro w' hSw
        obtain ⟨s1, s2, s3⟩ := hSw
        go_simp
        try with_reducible rfl
      (try simp only [Act.put, List.getElem_toArray, List.getElem_cons_zero, List.setIfInBounds_toArray])
      refine' wpAnyH_take (i := 1) (v := _) rfl (by kernel_rfl) (by kernel_rfl) (by kernel_rfl) (fun _ _ _ h => h) (Or.inl ⟨by rfl, ?hyg1⟩) H0 ?restg1
      case hyg1 =>
        intro w' hSw
        obtain ⟨s1, s2, s3⟩ := hSw
        go_simp
        try with_reducible rfl
      (try simp only [Act.put, List.getElem_toArray, List.getElem_cons_succ, List.getElem_cons_zero, List.setIfInBounds_toArray, List.set_cons_zero, List.set_cons_succ])
      refine' wpAnyH_take (i := 2) (v := _) rfl (by kernel_rfl) (by kernel_rfl) (by kernel_rfl) (fun _ _ _ h => h) (Or.inl ⟨by rfl, ?hyg2⟩) H0 ?restg2
      case hyg2 =>
        intro w' hSw
        obtain ⟨s1, s2, s3⟩ := hSw
        go_simp
        try with_reducible rfl
      (try simp only [Act.put, List.getElem_toArray, List.getElem_cons_succ, List.getElem_cons_zero, List.setIfInBounds_toArray, List.set_cons_zero, List.set_cons_succ])
      refine' wpAnyH_take (i := 3) (v := _) rfl (by kernel_rfl) (by kernel_rfl) (by kernel_rfl) (fun _ _ _ h => h) (Or.inl ⟨by rfl, ?hyg3⟩) H0 ?restg3
      case hyg3 =>
        intro w' hSw
        obtain ⟨s1, s2, s3⟩ := hSw
        go_simp
        try with_reducible rfl
      (try simp only [Act.put, List.getElem_toArray, List.getElem_cons_succ, List.getElem_cons_zero, List.setIfInBounds_toArray, List.set_cons_zero, List.set_cons_succ])
      refine' wpAnyH_take (i := 4) (v := _) rfl (by kernel_rfl) (by kernel_rfl) (by kernel_rfl) (fun _ _ _ h => h) (Or.inl ⟨by rfl, ?hyg4⟩) H0 ?restg4
      case hyg4 =>
        intro w' hSw
        obtain ⟨s1, s2, s3⟩ := hSw
        go_simp
        try with_reducible rfl
      (try simp only [Act.put, List.getElem_toArray, List.getElem_cons_succ, List.getElem_cons_zero, List.setIfInBounds_toArray, List.set_cons_zero, List.set_cons_succ])
      refine' wpAnyH_take (i := 5) (v := _) rfl (by kernel_rfl) (by kernel_rfl) (by kernel_rfl) (fun _ _ _ h => h) (Or.inl ⟨by rfl, ?hyg5⟩) H0 ?restg5
      case hyg5 =>
        intro w' hSw
        obtain ⟨s1, s2, s3⟩ := hSw
        have z0 : w'.cell? ⟨g5, 0, none⟩ = some (.string m.1) := by rw [cell_of_row _ _ _ _ _ _ s3]; rfl
        have z1 : w'.cell? ⟨g5, 1, none⟩ = some (.int .i64 m.2) := by rw [cell_of_row _ _ _ _ _ _ s3]; rfl
        go_simp
        try with_reducible rfl
      (try simp only [Act.put, List.getElem_toArray, List.getElem_cons_succ, List.getElem_cons_zero, List.setIfInBounds_toArray, List.set_cons_zero, List.set_cons_succ])
      refine' wpAnyH_take (i := 6) (v := .slice af dn cf) rfl (by kernel_rfl) (by kernel_rfl) (by kernel_rfl) (fun _ _ _ h => h) (Or.inl ⟨by rfl, ?hyg6⟩) H0 ?restg6
      case hyg6 =>
        intro w' hSw
        obtain ⟨s1, s2, s3⟩ := hSw
        have hl := HLF.out w' s1
        simp [execOp, Act.eval, hl, Result.andThen]
      (try simp only [Act.put, List.getElem_toArray, List.getElem_cons_succ, List.getElem_cons_zero, List.setIfInBounds_toArray, List.set_cons_zero, List.set_cons_succ])
      refine' wpAnyH_take (i := 7) (v := _) rfl (by kernel_rfl) (by kernel_rfl) (by kernel_rfl) (fun _ _ _ h => h) (Or.inl ⟨by rfl, ?hyg7⟩) H0 ?restg7
      case hyg7 =>
        intro w' hSw
        obtain ⟨s1, s2, s3⟩ := hSw
        go_simp
        try with_reducible rfl
      (try simp only [Act.put, List.getElem_toArray, List.getElem_cons_succ, List.getElem_cons_zero, List.setIfInBounds_toArray, List.set_cons_zero, List.set_cons_succ])
      refine' wpAnyH_take (i := 8) (v := _) rfl (by kernel_rfl) (by kernel_rfl) (by kernel_rfl) (fun _ _ _ h => h) (Or.inl ⟨by rfl, ?hyg8⟩) H0 ?restg8
      case hyg8 =>
        intro w' hSw
        obtain ⟨s1, s2, s3⟩ := hSw
        have z0 : w'.cell? ⟨g5, 0, none⟩ = some (.string m.1) := by rw [cell_of_row _ _ _ _ _ _ s3]; rfl
        have z1 : w'.cell? ⟨g5, 1, none⟩ = some (.int .i64 m.2) := by rw [cell_of_row _ _ _ _ _ _ s3]; rfl
        go_simp
        try with_reducible rfl
      (try simp only [Act.put, List.getElem_toArray, List.getElem_cons_succ, List.getElem_cons_zero, List.setIfInBounds_toArray, List.set_cons_zero, List.set_cons_succ])
      refine' wpAnyH_take (i := 10) (v := .agg (plC m)) rfl (by kernel_rfl) (by kernel_rfl) (by kernel_rfl) (fun _ _ _ h => h) (Or.inl ⟨by rfl, ?hyg10⟩) H0 ?restg10
      case hyg10 =>
        intro w' hSw
        obtain ⟨s1, s2, s3⟩ := hSw
        have hl := load_pl w' g5 m s3
        simp [execOp, Act.eval, hl, Result.andThen]
      (try simp only [Act.put, List.getElem_toArray, List.getElem_cons_succ, List.getElem_cons_zero, List.setIfInBounds_toArray, List.set_cons_zero, List.set_cons_succ])
      refine wpAnyH_ready (rs := [9]) (by kernel_rfl) (by simp) (AllReadyH.cons rfl (fun K hK => ?_) AllReadyH.nil)
      go_simp
      refine (KP.out _ (H0).1).mono ?_
      rintro e w6 ⟨a6, c6, rfl, ho6, hn6, C6⟩
      go_simp
      refine hK.out _ _ (HC5.out _ ((H0).1.trans (C6.mono (T := [q1]) (by simp)) (fun x hx => .inl hx))) (fun H1 => ?_)
      clear hK K
      have hx6 := HX1.out w6 C6
      have hst6 := run_storeAt_row (P := Tryd.prog) w6 q1 57 _ _ (plC m) hx6 Tryd.infoPl rfl (plC_one m)
      refine' wpAnyH_take (i := 11) (v := _) rfl (by kernel_rfl) (by kernel_rfl) (by kernel_rfl) (fun _ _ _ h => h) (Or.inl ⟨by rfl, ?hyg11⟩) H1 ?restg11
      case hyg11 =>
        intro w' hSw
        obtain ⟨s1, s2, s3⟩ := hSw
        go_simp
        try with_reducible rfl
      (try simp only [Act.put, List.getElem_toArray, List.getElem_cons_succ, List.getElem_cons_zero, List.setIfInBounds_toArray, List.set_cons_zero, List.set_cons_succ])
      refine wpAnyH_ready (rs := [12]) (by kernel_rfl) (by simp) (AllReadyH.cons rfl (fun K hK => ?_) AllReadyH.nil)
      refine step_store_y 57 (.tmp 5) (.tmp 39) rfl rfl _ _ _ hst6 rfl rfl ?_
      refine hK.out _ _ (HC5.out _ (H1.1.trans (Chg.setRow (S := [q1]) w6 q1 (plC m) (.inl (by simp))) (fun x hx => .inl hx))) (fun H2 => ?_)
      clear hK K
      refine' wpAnyH_take (i := 13) (v := _) rfl (by kernel_rfl) (by kernel_rfl) (by kernel_rfl) (fun _ _ _ h => h) (Or.inl ⟨by rfl, ?hyg13⟩) H2 ?restg13
      case hyg13 =>
        intro w' hSw
        obtain ⟨s1, s2, s3⟩ := hSw
        go_simp
        try with_reducible rfl
      (try simp only [Act.put, List.getElem_toArray, List.getElem_cons_succ, List.getElem_cons_zero, List.setIfInBounds_toArray, List.set_cons_zero, List.set_cons_succ])
      refine wpAnyH_done (by kernel_rfl) ?_ _
      have HX6 := Lib.hid (setRow_heap w6 q1 _ (plC m) _ _ hx6)
      go_wp2_with fail
      refine bodyPost_ret (results_tct rfl _ _ _ _ (plC m) _ _ rfl HX6.out Tryd.underlying57 rfl Tryd.infoPl) rfl ?_
      have C06 := (HC12.out.trans HC25.out (by simp)).trans (HD5.out.trans C6 (by simp)) (by simp)
      have hqq : w.heap.size ≤ q1 := by have := HQ.out; omega
      rw [HFD.out]
      refine ⟨C06.trans (Chg.setRow (S := [q1]) w6 q1 (plC m) (.inl (by simp))) (fun x hx => .inr (by simp at hx; rw [hx]; exact hqq)), a6, c6, rfl, ownsRow_chg ho6 (Chg.setRow (S := [q1]) w6 q1 (plC m) (.inl (by simp))) (fun x hx hm => ?_), fun x hx => ?_⟩
      · have h1 := hn6 x hx
        have h2 := HQW.out
        simp at hm
        omega
      · have h1 := hn6 x hx
        have h2 := (HC12.out.trans HC25.out (by simp)).size
        have h3 := HD5.out.size
        omega
end Go.Proofs.YtfdhpjflkimihaaDoor
