/- Forget, walked. No conditions beyond those that each statement types. -/
import Derived.Test.YtfdhpjflkimihaaDoorBkJi
namespace Go.Proofs.YtfdhpjflkimihaaDoor
open Go.RowKit

theorem zero_bytes (w : World) : (zeroValue 25).run Tryd.prog w = .ok (.slice none 0 0) w := by kernel_rfl
theorem zero_pls (w : World) : (zeroValue 119).run Tryd.prog w = .ok (.slice none 0 0) w := by kernel_rfl
theorem look_file {w : World} {bf : Nat} {fv : List (ByteArray × Value)} (h : MapAt (fun s : ByteArray => Value.string s) w bf fv) (nm : ByteArray) (ok : Bool) :
    (Instr.lookup 66 (.map (some bf)) (.string nm) ok).run Tryd.prog w = .ok (if ok then .tuple #[(mget fv nm).getD (.slice none 0 0), .bool (mget fv nm).isSome] else (mget fv nm).getD (.slice none 0 0)) w :=
  run_lookup_x (keyOk_string Tryd.underlying9) Tryd.underlying66 (zero_bytes w) h nm ok
theorem look_place {w : World} {bp : Nat} {pv : List (HKey × Value)} (h : MapAt hkV w bp pv) (k : HKey) :
    (Instr.lookup 67 (.map (some bp)) (hkV k) false).run Tryd.prog w = .ok (plOf pv k) w :=
  run_lookup_x keyOk_hash Tryd.underlying67 (zero_pls w) h k false
def Cleared (w : World) (v : Value) (ps : List Pl) (nm : ByteArray) (e : Ending) (w' : World) : Prop :=
  ∃ v', e = .returned v' ∧ PVal w' v' (wo nm ps) ∧ (∀ x, v'.ownBlock = some x → v.ownBlock = some x) ∧ Chg v.ownBlock.toList w w'
theorem blk_delete (v : Value) (ps : List Pl) (nm : ByteArray) (gb : Nat) (w : World) (hv : PVal w v ps) (hn : ps.length ≤ 1000000) (hb : w.cell? ⟨gb, 0, none⟩ = some (.string nm)) (hgb : v.ownBlock ≠ some gb) :
    Calls Tryd.prog 66 #[v, .func (.func 67) #[] #[.pointer (some ⟨gb, 0, none⟩)]] w (Cleared w v ps nm) := by
  obtain ⟨ao, c, rfl, ho⟩ := hv
  rcases first_named nm ps with h | ⟨n, x, hx, hxn, hbe⟩
  · refine (blk_delete_none ps nm ao c gb (Value.slice ao ps.length c).ownBlock.toList w ho hn hb h).mono ?_
    rintro e w' ⟨c', rfl, ho', C⟩
    refine ⟨_, rfl, ⟨ao, c', rfl, ho'⟩, fun x hx => ?_, C⟩
    cases ao with
    | none => cases hx
    | some a => exact hx
  · have hlt := (List.getElem?_eq_some_iff.1 hx).1
    obtain ⟨g, rfl⟩ := ownsRow_head ho (by omega)
    refine (blk_delete_some ps nm g c gb [g] w ho hn hb (by simp) (fun e => hgb (by rw [e]; rfl)) n x hx hxn hbe).mono ?_
    rintro e w' ⟨c', rfl, ho', C⟩
    exact ⟨_, rfl, ⟨_, c', rfl, ho'⟩, fun x hx => hx, C⟩
theorem occTo_len (nm : ByteArray) (ks : List HKey) (h : HKey) : ∀ n, (occTo nm ks h n).length ≤ n
  | 0 => Nat.le_refl _
  | n + 1 => by
    rw [occTo, List.length_append]
    have := occTo_len nm ks h n
    split <;> simp <;> omega
theorem occ_len (F : Files) (h : HKey) : (occ F h).length ≤ F.length * 32 := by
  unfold occ
  induction F with
  | nil => simp
  | cons p F ih =>
    rw [List.flatMap_cons, List.length_append, List.length_cons]
    have h1 := occTo_len p.1 (keysL p.2) h (keysL p.2).length
    have h2 : (keysL p.2).length ≤ 32 := by rw [keysL, List.length_map, listL_length]; exact cntN_le _
    have h3 : (occ1 p.1 p.2 h).length ≤ 32 := by unfold occ1; omega
    omega
/-- Places when the first digests of a file are done. -/
def Gto (nm : ByteArray) (F : Files) (ks : List HKey) (j : Nat) : HKey → List Pl := fun h => if h ∈ ks.take j then wo nm (occ F h) else occ F h
theorem Gto_zero (nm : ByteArray) (F : Files) (ks : List HKey) : Gto nm F ks 0 = occ F := by
  funext h
  simp [Gto]
theorem Gto_succ {nm : ByteArray} {F : Files} {ks : List HKey} {j : Nat} {k : HKey} (hk : ks[j]? = some k) (h : HKey) : (if h = k then wo nm (Gto nm F ks j k) else Gto nm F ks j h) = Gto nm F ks (j + 1) h := by
  unfold Gto
  rw [List.take_add_one, hk]
  simp only [Option.toList_some, List.mem_append, List.mem_singleton]
  by_cases hh : h = k
  · subst hh
    by_cases h1 : h ∈ ks.take j <;> simp [h1, wo_idem]
  · rw [if_neg hh]
    by_cases h1 : h ∈ ks.take j
    · rw [if_pos h1, if_pos (.inl h1)]
    · rw [if_neg h1, if_neg (by simp [h1, hh])]
theorem Gto_len (nm : ByteArray) (F : Files) (ks : List HKey) (j : Nat) (h : HKey) : (Gto nm F ks j h).length ≤ F.length * 32 := by
  unfold Gto
  have := occ_len F h
  split
  · exact Nat.le_trans (wo_le _ _) this
  · exact this
theorem Gto_all {nm : ByteArray} {F : Files} {d : List UInt8} (hn : (F.map (·.1)).Nodup) (hm : (nm, d) ∈ F) {j : Nat} (hj : (keysL d).length ≤ j) (h : HKey) : Gto nm F (keysL d) j h = occ (Fdel F nm) h := by
  unfold Gto
  rw [List.take_of_length_le hj, ← wo_occ]
  split
  · rfl
  · rename_i hh
    exact (wo_out_of hn hm hh).symm
theorem mget_at {κ : Type} [DecidableEq κ] {kvs : List (κ × Value)} {k : κ} {i : Nat} {v : Value} (hn : (kvs.map (·.1)).Nodup) (h : kvs[i]? = some (k, v)) : midx kvs k = some i ∧ mget kvs k = some v := by
  cases hi : midx kvs k with
  | none => exact absurd rfl (midx_none hi _ (List.mem_of_getElem? h))
  | some j =>
    obtain ⟨u, hu⟩ := midx_key hi
    have := key_at hn h hu
    subst this
    rw [h] at hu
    refine ⟨rfl, ?_⟩
    unfold mget
    rw [hi, Option.bind_some, h]
    rfl
def Forgot (w : World) (b : Nat) (F : Files) (S : List Nat) (nm : ByteArray) (r : Bool) (e : Ending) (w' : World) : Prop :=
  e = .returned (.bool r) ∧ ∃ S', FinderAt w' b (Fdel F nm) S' ∧ Chg S w w' ∧ ∀ k ∈ S', k ∈ S ∨ w.heap.size ≤ k
theorem mget_none_of {κ : Type} [DecidableEq κ] {kvs : List (κ × Value)} {k : κ} (h : k ∉ kvs.map (·.1)) : mget kvs k = none := by
  cases hg : mget kvs k with
  | none => rfl
  | some v => exact absurd (List.mem_map.2 ⟨_, mget_mem hg, rfl⟩) h
theorem Fdel_none {F : Files} {nm : ByteArray} (h : nm ∉ F.map (·.1)) : Fdel F nm = F := by
  unfold Fdel
  rw [List.filter_eq_self]
  intro p hp
  have : p.1 ≠ nm := fun e => h (List.mem_map.2 ⟨p, hp, e⟩)
  simpa using this
set_option maxRecDepth 100000 in
set_option maxHeartbeats 4000000 in
theorem blk_forget_none (b : Nat) (F : Files) (S : List Nat) (nm : ByteArray) (w : World) (H : FinderAt w b F S) (hn : nm ∉ F.map (·.1)) :
    Calls Tryd.prog 28 #[.pointer (some ⟨b, 0, none⟩), .string nm] w (Forgot w b F S nm false) := by
  have HF := H
  obtain ⟨_, _, bf, bp, fv, pv, HI, _⟩ := H
  have C1 := Chg.alloc [] w (.cells #[.string nm] 9)
  have hx := heap_alloc_new w (.cells #[.string nm] 9)
  have HQ := Lib.hid (show Forgot w b F S nm false (.returned (.bool false)) w from ⟨rfl, S, by rw [Fdel_none hn]; exact HF, Chg.refl _ _, fun k hk => .inl hk⟩)
  have HW := Lib.hid (fun w' (C : Chg [] w w') => show Forgot w b F S nm false (.returned (.bool false)) w' from ⟨rfl, S, by rw [Fdel_none hn]; exact HF.chg C (by simp), C.mono (by simp), fun k hk => .inl hk⟩)
  have hg : mget fv nm = none := mget_none_of (by rw [HI.names]; exact hn)
  go_enter Tryd.func28, Tryd.ntmps28
  go_upto_region 1 with (fail)
  have H1 := HI.chg C1 (by simp)
  obtain ⟨q, hq⟩ : ∃ q, w.heap.size = q := ⟨_, rfl⟩
  rw [hq] at hx ⊢
  generalize w.alloc (.cells #[.string nm] 9) = w1 at *
  have hb0 := H1.map.1
  have hq0 : w1.cell? ⟨q, 0, none⟩ = some (.string nm) := by rw [cell_of_row _ _ _ _ _ _ hx]; rfl
  have K := Lib.hid (blk_is_map b (some bf) w1 hb0)
  have HLK := Lib.hid (fun w' (C : Chg [] w1 w') => by
    have := look_file (H1.files.chg C (by simp)) nm true
    rw [hg] at this
    exact this)
  have HC1 := Lib.hid C1
  clear HF HI H1 hx hg hn C1 HQ
  go_wp2_with fail
  refine K.out.mono ?_
  rintro e w5 ⟨rfl, rfl⟩
  go_wp2_with fail
  refine wp_region_held_drew (S := fun w' => Chg [] w1 w' ∧ w'.cell? ⟨b, 0, none⟩ = some (.map (some bf)) ∧ w'.cell? ⟨q, 0, none⟩ = some (.string nm)) (by kernel_rfl) (⟨Chg.drewN [] w1 1, hb0, hq0⟩) (fun H0 => ?_)
  refine' wpAnyH_take (i := 0) (v := _) rfl (by kernel_rfl) (by kernel_rfl) (by kernel_rfl) (fun _ _ _ h => h) (Or.inl ⟨by rfl, ?hya0⟩) H0 ?resta0
  case hya0 =>
    intro w' hSw
    obtain ⟨s1, s2, s3⟩ := hSw
    go_simp
    try with_reducible rfl
  (try simp only [Act.put, List.getElem_toArray, List.getElem_cons_zero, List.setIfInBounds_toArray, List.set_cons_zero, List.set_cons_succ])
  refine' wpAnyH_take (i := 1) (v := _) rfl (by kernel_rfl) (by kernel_rfl) (by kernel_rfl) (fun _ _ _ h => h) (Or.inl ⟨by rfl, ?hya1⟩) H0 ?resta1
  case hya1 =>
    intro w' hSw
    obtain ⟨s1, s2, s3⟩ := hSw
    go_simp
    try with_reducible rfl
  (try simp only [Act.put, List.getElem_toArray, List.getElem_cons_succ, List.getElem_cons_zero, List.setIfInBounds_toArray, List.set_cons_zero, List.set_cons_succ])
  refine' wpAnyH_take (i := 2) (v := _) rfl (by kernel_rfl) (by kernel_rfl) (by kernel_rfl) (fun _ _ _ h => h) (Or.inl ⟨by rfl, ?hya2⟩) H0 ?resta2
  case hya2 =>
    intro w' hSw
    obtain ⟨s1, s2, s3⟩ := hSw
    go_simp
    try with_reducible rfl
  (try simp only [Act.put, List.getElem_toArray, List.getElem_cons_succ, List.getElem_cons_zero, List.setIfInBounds_toArray, List.set_cons_zero, List.set_cons_succ])
  refine' wpAnyH_take (i := 3) (v := _) rfl (by kernel_rfl) (by kernel_rfl) (by kernel_rfl) (fun _ _ _ h => h) (Or.inl ⟨by rfl, ?hya3⟩) H0 ?resta3
  case hya3 =>
    intro w' hSw
    obtain ⟨s1, s2, s3⟩ := hSw
    go_simp
    try with_reducible rfl
  (try simp only [Act.put, List.getElem_toArray, List.getElem_cons_succ, List.getElem_cons_zero, List.setIfInBounds_toArray, List.set_cons_zero, List.set_cons_succ])
  refine' wpAnyH_take (i := 4) (v := _) rfl (by kernel_rfl) (by kernel_rfl) (by kernel_rfl) (fun _ _ _ h => h) (Or.inl ⟨by rfl, ?hya4⟩) H0 ?resta4
  case hya4 =>
    intro w' hSw
    obtain ⟨s1, s2, s3⟩ := hSw
    go_simp
    try with_reducible rfl
  (try simp only [Act.put, List.getElem_toArray, List.getElem_cons_succ, List.getElem_cons_zero, List.setIfInBounds_toArray, List.set_cons_zero, List.set_cons_succ])
  refine' wpAnyH_take (i := 5) (v := .tuple #[.slice none 0 0, .bool false]) rfl (by kernel_rfl) (by kernel_rfl) (by kernel_rfl) (fun _ _ _ h => h) (Or.inl ⟨by rfl, ?hya5⟩) H0 ?resta5
  case hya5 =>
    intro w' hSw
    obtain ⟨s1, s2, s3⟩ := hSw
    have hl := HLK.out w' s1
    simp [execOp, Act.eval, hl, Result.andThen]
  (try simp only [Act.put, List.getElem_toArray, List.getElem_cons_succ, List.getElem_cons_zero, List.setIfInBounds_toArray, List.set_cons_zero, List.set_cons_succ])
  refine' wpAnyH_take (i := 6) (v := _) rfl (by kernel_rfl) (by kernel_rfl) (by kernel_rfl) (fun _ _ _ h => h) (Or.inl ⟨by rfl, ?hya6⟩) H0 ?resta6
  case hya6 =>
    intro w' hSw
    obtain ⟨s1, s2, s3⟩ := hSw
    go_simp
    try with_reducible rfl
  (try simp only [Act.put, List.getElem_toArray, List.getElem_cons_succ, List.getElem_cons_zero, List.setIfInBounds_toArray, List.set_cons_zero, List.set_cons_succ])
  refine' wpAnyH_take (i := 7) (v := _) rfl (by kernel_rfl) (by kernel_rfl) (by kernel_rfl) (fun _ _ _ h => h) (Or.inl ⟨by rfl, ?hya7⟩) H0 ?resta7
  case hya7 =>
    intro w' hSw
    obtain ⟨s1, s2, s3⟩ := hSw
    go_simp
    try with_reducible rfl
  (try simp only [Act.put, List.getElem_toArray, List.getElem_cons_succ, List.getElem_cons_zero, List.setIfInBounds_toArray, List.set_cons_zero, List.set_cons_succ])
  refine' wpAnyH_take (i := 8) (v := _) rfl (by kernel_rfl) (by kernel_rfl) (by kernel_rfl) (fun _ _ _ h => h) (Or.inl ⟨by rfl, ?hya8⟩) H0 ?resta8
  case hya8 =>
    intro w' hSw
    obtain ⟨s1, s2, s3⟩ := hSw
    go_simp
    try with_reducible rfl
  (try simp only [Act.put, List.getElem_toArray, List.getElem_cons_succ, List.getElem_cons_zero, List.setIfInBounds_toArray, List.set_cons_zero, List.set_cons_succ])
  refine' wpAnyH_take (i := 9) (v := _) rfl (by kernel_rfl) (by kernel_rfl) (by kernel_rfl) (fun _ _ _ h => h) (Or.inl ⟨by rfl, ?hya9⟩) H0 ?resta9
  case hya9 =>
    intro w' hSw
    obtain ⟨s1, s2, s3⟩ := hSw
    go_simp
    try with_reducible rfl
  (try simp only [Act.put, List.getElem_toArray, List.getElem_cons_succ, List.getElem_cons_zero, List.setIfInBounds_toArray, List.set_cons_zero, List.set_cons_succ])
  refine' wpAnyH_take (i := 10) (v := _) rfl (by kernel_rfl) (by kernel_rfl) (by kernel_rfl) (fun _ _ _ h => h) (Or.inl ⟨by rfl, ?hya10⟩) H0 ?resta10
  case hya10 =>
    intro w' hSw
    obtain ⟨s1, s2, s3⟩ := hSw
    go_simp
    try with_reducible rfl
  (try simp only [Act.put, List.getElem_toArray, List.getElem_cons_succ, List.getElem_cons_zero, List.setIfInBounds_toArray, List.set_cons_zero, List.set_cons_succ])
  refine wpAnyH_done (by kernel_rfl) ?_ _
  go_wp2_with fail
  go_ret
  exact HW.out _ (HC1.out.trans H0.1 (by simp))
theorem hvs_at : ∀ {L : List (Nat → UInt8)} {i : Nat} {f : Nat → UInt8} {t : Nat}, L[i]? = some f → t < 32 → (hvs L)[i * 32 + t]? = (hashC f).toList[t]?
  | [], i, f, t, h, _ => by simp at h
  | g :: L, 0, f, t, h, ht => by
    simp at h
    subst h
    rw [show hvs (g :: L) = (hashC g).toList ++ hvs L from rfl, Nat.zero_mul, Nat.zero_add, List.getElem?_append_left (by rw [Array.length_toList, hashC_size]; exact ht)]
  | g :: L, i + 1, f, t, h, ht => by
    have := hvs_at (L := L) (i := i) (f := f) (t := t) (by simpa using h) ht
    rw [show hvs (g :: L) = (hashC g).toList ++ hvs L from rfl, List.getElem?_append_right (by rw [Array.length_toList, hashC_size]; omega), Array.length_toList, hashC_size, ← this]
    congr 1
    omega
/-- A digest of a list, loaded. -/
theorem load_of_list {w : World} {ao : Option Addr} {c : Nat} {L : List (Nat → UInt8)} (ho : w.ownsRow 0 32 32 (.slice ao L.length c) L.length (hvs L)) {g : Nat} (hg : ao = some ⟨g, 0, none⟩) {i : Nat} {f : Nat → UInt8} (hi : L[i]? = some f) :
    (Instr.loadAt 32 (.pointer (some ⟨g, i * 32, none⟩))).run Tryd.prog w = .ok (.agg (hashC f)) w := by
  subst hg
  have := run_loadAt_mid (P := Tryd.prog) w g (i * 32) 32 (hashC f).toList _ (fun j v hv => ?_) Tryd.underlying32 rfl (by rw [Array.length_toList, hashC_size]; exact infoHash)
  · simpa using this
  · have hj := (List.getElem?_eq_some_iff.1 hv).1
    rw [Array.length_toList, hashC_size] at hj
    have h1 := hvs_at hi hj
    rw [hv] at h1
    have := ho.cells (g := g) rfl _ _ h1
    rwa [addr_add0] at this
theorem mget_mput {κ : Type} [DecidableEq κ] {kvs : List (κ × Value)} (hn : (kvs.map (·.1)).Nodup) (k : κ) (v : Value) : mget (mput kvs k v) k = some v := by
  obtain ⟨i, hi⟩ := List.mem_iff_getElem?.1 (mput_self (kvs := kvs) (k := k) v)
  exact (mget_at (mput_nodup hn v) hi).2
/-- The map of files, one of them deleted, beside the files. -/
theorem files_del {fv : List (ByteArray × Value)} {F : Files} {nm : ByteArray} {i : Nat} {v : Value} {d : List UInt8} (hn : fv.map (·.1) = F.map (·.1)) (hd : (F.map (·.1)).Nodup) (hp : fv[i]? = some (nm, v)) (hi : F[i]? = some (nm, d)) :
    mdel fv nm = fv.eraseIdx i ∧ Fdel F nm = F.eraseIdx i ∧ (mdel fv nm).map (·.1) = (Fdel F nm).map (·.1) := by
  have hfd : (fv.map (·.1)).Nodup := by rw [hn]; exact hd
  have h1 : mdel fv nm = fv.eraseIdx i := by unfold mdel; rw [(mget_at hfd hp).1]
  have h2 : Fdel F nm = F.eraseIdx i := (erase_named hd hi).symm
  refine ⟨h1, h2, ?_⟩
  rw [h1, erase_named hfd hp]
  unfold Fdel
  have key : ∀ {α : Type} (l : List (ByteArray × α)), (l.filter fun p => !decide (p.1 = nm)).map (·.1) = (l.map (·.1)).filter fun s => !decide (s = nm) := fun l => by rw [List.filter_map]; rfl
  rw [key, key, hn]
set_option maxRecDepth 100000 in
set_option maxHeartbeats 4000000 in
theorem blk_forget_some (b : Nat) (F : Files) (S : List Nat) (nm : ByteArray) (d : List UInt8) (w : World) (hL : Laid w) (H : FinderAt w b F S) (hm : (nm, d) ∈ F) (hFl : F.length ≤ 30000) :
    Calls Tryd.prog 28 #[.pointer (some ⟨b, 0, none⟩), .string nm] w (Forgot w b F S nm true) := by
  obtain ⟨hnd, hlen, bf, bp, fv, pv, HI, hne⟩ := H
  obtain ⟨i, hi⟩ := List.mem_iff_getElem?.1 hm
  obtain ⟨v, hp⟩ : ∃ v, fv[i]? = some (nm, v) := by
    have h1 : (F.map (·.1))[i]? = some nm := by rw [List.getElem?_map, hi]; rfl
    rw [← HI.names, List.getElem?_map] at h1
    cases h2 : fv[i]? with
    | none => rw [h2] at h1; cases h1
    | some p => rw [h2] at h1; cases h1; exact ⟨p.2, rfl⟩
  have hmg := (mget_at (by rw [HI.names]; exact hnd) hp).2
  obtain ⟨ao, c, hv, ho⟩ := HI.fval i _ _ hp hi
  simp only [] at hv ho
  rw [hv] at hmg
  have C1 := Chg.alloc [] w (.cells #[.string nm] 9)
  have hx := heap_alloc_new w (.cells #[.string nm] 9)
  have hd4 : d.length ≤ 4096 := hlen _ hm
  have hlc : d.length ≤ c := by obtain ⟨_, _, e, h, _⟩ := ownsRow_slice ho; cases e; exact h
  have HLEN := Lib.hid hlen
  have HND := Lib.hid hnd
  have HMEM := Lib.hid hm
  have HNE := Lib.hid hne
  have HFD := Lib.hid (files_del HI.names hnd hp hi)
  have HIX := Lib.hid hi
  have HLT := Lib.hid HI.lt
  have HWS : Hid (∀ k ∈ S, k < w.heap.size) := Lib.hid HI.lt
  go_enter Tryd.func28, Tryd.ntmps28
  go_upto_region 1 with (fail)
  have H1 := HI.chg C1 (by simp)
  have L1 := hL.chg C1 (by simp)
  have s1 := (ownsRow_src ho).chg C1 (by simp)
  have hqS : ∀ k ∈ S, k ≠ w.heap.size := fun k hk => by have := HI.lt k hk; omega
  have HQW := Lib.hid (show ∀ w', Chg S (w.alloc (.cells #[.string nm] 9)) w' → Chg S w w' from fun w' C => C1.mono (by simp) |>.trans C (fun k hk => .inl hk))
  have hwsz : (w.alloc (.cells #[.string nm] 9)).heap.size = w.heap.size + 1 := by simp
  obtain ⟨q, hq⟩ : ∃ q, w.heap.size = q := ⟨_, rfl⟩
  rw [hq] at hx hqS hwsz ⊢
  have HQ := Lib.hid hq
  generalize w.alloc (.cells #[.string nm] 9) = w1 at *
  have hb0 := H1.map.1
  have hq0 : w1.cell? ⟨q, 0, none⟩ = some (.string nm) := by rw [cell_of_row _ _ _ _ _ _ hx]; rfl
  have K := Lib.hid (blk_is_map b (some bf) w1 hb0)
  have HLK := Lib.hid (fun w' (C : Chg [] w1 w') => by
    have := look_file (H1.files.chg C (by simp)) nm true
    rw [hmg] at this
    exact this)
  have HH1 := Lib.hid H1
  have HL1 := Lib.hid L1
  have HS1 := Lib.hid s1
  have HLC := Lib.hid hlc
  have HX := Lib.hid hx
  have HQS := Lib.hid hqS
  have HOL : Hid (listO d = some (listL d)) := Lib.hid (by unfold listO; rw [if_neg (by omega)])
  clear HI H1 hx hmg hp hi hm hv ho C1 hnd hlen hne L1 s1 hL hlc hqS hwsz hq hd4
  go_wp2_with fail
  refine K.out.mono ?_
  rintro e w5 ⟨rfl, rfl⟩
  go_wp2_with fail
  refine wp_region_held_drew (S := fun w' => Chg [] w1 w' ∧ w'.cell? ⟨b, 0, none⟩ = some (.map (some bf)) ∧ w'.cell? ⟨q, 0, none⟩ = some (.string nm)) (by kernel_rfl) (⟨Chg.drewN [] w1 1, hb0, hq0⟩) (fun H0 => ?_)
  refine' wpAnyH_take (i := 0) (v := _) rfl (by kernel_rfl) (by kernel_rfl) (by kernel_rfl) (fun _ _ _ h => h) (Or.inl ⟨by rfl, ?hya0⟩) H0 ?resta0
  case hya0 =>
    intro w' hSw
    obtain ⟨s1, s2, s3⟩ := hSw
    go_simp
    try with_reducible rfl
  (try simp only [Act.put, List.getElem_toArray, List.getElem_cons_zero, List.setIfInBounds_toArray, List.set_cons_zero, List.set_cons_succ])
  refine' wpAnyH_take (i := 1) (v := _) rfl (by kernel_rfl) (by kernel_rfl) (by kernel_rfl) (fun _ _ _ h => h) (Or.inl ⟨by rfl, ?hya1⟩) H0 ?resta1
  case hya1 =>
    intro w' hSw
    obtain ⟨s1, s2, s3⟩ := hSw
    go_simp
    try with_reducible rfl
  (try simp only [Act.put, List.getElem_toArray, List.getElem_cons_succ, List.getElem_cons_zero, List.setIfInBounds_toArray, List.set_cons_zero, List.set_cons_succ])
  refine' wpAnyH_take (i := 2) (v := _) rfl (by kernel_rfl) (by kernel_rfl) (by kernel_rfl) (fun _ _ _ h => h) (Or.inl ⟨by rfl, ?hya2⟩) H0 ?resta2
  case hya2 =>
    intro w' hSw
    obtain ⟨s1, s2, s3⟩ := hSw
    go_simp
    try with_reducible rfl
  (try simp only [Act.put, List.getElem_toArray, List.getElem_cons_succ, List.getElem_cons_zero, List.setIfInBounds_toArray, List.set_cons_zero, List.set_cons_succ])
  refine' wpAnyH_take (i := 3) (v := _) rfl (by kernel_rfl) (by kernel_rfl) (by kernel_rfl) (fun _ _ _ h => h) (Or.inl ⟨by rfl, ?hya3⟩) H0 ?resta3
  case hya3 =>
    intro w' hSw
    obtain ⟨s1, s2, s3⟩ := hSw
    go_simp
    try with_reducible rfl
  (try simp only [Act.put, List.getElem_toArray, List.getElem_cons_succ, List.getElem_cons_zero, List.setIfInBounds_toArray, List.set_cons_zero, List.set_cons_succ])
  refine' wpAnyH_take (i := 4) (v := _) rfl (by kernel_rfl) (by kernel_rfl) (by kernel_rfl) (fun _ _ _ h => h) (Or.inl ⟨by rfl, ?hya4⟩) H0 ?resta4
  case hya4 =>
    intro w' hSw
    obtain ⟨s1, s2, s3⟩ := hSw
    go_simp
    try with_reducible rfl
  (try simp only [Act.put, List.getElem_toArray, List.getElem_cons_succ, List.getElem_cons_zero, List.setIfInBounds_toArray, List.set_cons_zero, List.set_cons_succ])
  refine' wpAnyH_take (i := 5) (v := .tuple #[.slice ao d.length c, .bool true]) rfl (by kernel_rfl) (by kernel_rfl) (by kernel_rfl) (fun _ _ _ h => h) (Or.inl ⟨by rfl, ?hya5⟩) H0 ?resta5
  case hya5 =>
    intro w' hSw
    obtain ⟨s1, s2, s3⟩ := hSw
    have hl := HLK.out w' s1
    simp [execOp, Act.eval, hl, Result.andThen]
  (try simp only [Act.put, List.getElem_toArray, List.getElem_cons_succ, List.getElem_cons_zero, List.setIfInBounds_toArray, List.set_cons_zero, List.set_cons_succ])
  refine' wpAnyH_take (i := 6) (v := _) rfl (by kernel_rfl) (by kernel_rfl) (by kernel_rfl) (fun _ _ _ h => h) (Or.inl ⟨by rfl, ?hya6⟩) H0 ?resta6
  case hya6 =>
    intro w' hSw
    obtain ⟨s1, s2, s3⟩ := hSw
    go_simp
    try with_reducible rfl
  (try simp only [Act.put, List.getElem_toArray, List.getElem_cons_succ, List.getElem_cons_zero, List.setIfInBounds_toArray, List.set_cons_zero, List.set_cons_succ])
  refine' wpAnyH_take (i := 7) (v := _) rfl (by kernel_rfl) (by kernel_rfl) (by kernel_rfl) (fun _ _ _ h => h) (Or.inl ⟨by rfl, ?hya7⟩) H0 ?resta7
  case hya7 =>
    intro w' hSw
    obtain ⟨s1, s2, s3⟩ := hSw
    go_simp
    try with_reducible rfl
  (try simp only [Act.put, List.getElem_toArray, List.getElem_cons_succ, List.getElem_cons_zero, List.setIfInBounds_toArray, List.set_cons_zero, List.set_cons_succ])
  refine' wpAnyH_take (i := 8) (v := _) rfl (by kernel_rfl) (by kernel_rfl) (by kernel_rfl) (fun _ _ _ h => h) (Or.inl ⟨by rfl, ?hya8⟩) H0 ?resta8
  case hya8 =>
    intro w' hSw
    obtain ⟨s1, s2, s3⟩ := hSw
    go_simp
    try with_reducible rfl
  (try simp only [Act.put, List.getElem_toArray, List.getElem_cons_succ, List.getElem_cons_zero, List.setIfInBounds_toArray, List.set_cons_zero, List.set_cons_succ])
  refine' wpAnyH_take (i := 9) (v := _) rfl (by kernel_rfl) (by kernel_rfl) (by kernel_rfl) (fun _ _ _ h => h) (Or.inl ⟨by rfl, ?hya9⟩) H0 ?resta9
  case hya9 =>
    intro w' hSw
    obtain ⟨s1, s2, s3⟩ := hSw
    go_simp
    try with_reducible rfl
  (try simp only [Act.put, List.getElem_toArray, List.getElem_cons_succ, List.getElem_cons_zero, List.setIfInBounds_toArray, List.set_cons_zero, List.set_cons_succ])
  refine' wpAnyH_take (i := 10) (v := _) rfl (by kernel_rfl) (by kernel_rfl) (by kernel_rfl) (fun _ _ _ h => h) (Or.inl ⟨by rfl, ?hya10⟩) H0 ?resta10
  case hya10 =>
    intro w' hSw
    obtain ⟨s1, s2, s3⟩ := hSw
    go_simp
    try with_reducible rfl
  (try simp only [Act.put, List.getElem_toArray, List.getElem_cons_succ, List.getElem_cons_zero, List.setIfInBounds_toArray, List.set_cons_zero, List.set_cons_succ])
  refine wpAnyH_done (by kernel_rfl) ?_ _
  obtain ⟨w2, hw2⟩ : ∃ w2, w1.drew = w2 := ⟨_, rfl⟩
  try rw [hw2] at H0 ⊢
  have C2 := H0.1
  have HC2 := Lib.hid C2
  have KL := blk_List d ao c w2 (HL1.out.chg C2 (by simp)) (HS1.out.chg C2 (by simp)) HLC.out
  rw [HOL.out] at KL
  have HKL := Lib.hid KL
  have HH2 := Lib.hid (HH1.out.chg C2 (by simp))
  clear KL C2 H0 hb0 hq0 HLK K hw2
  generalize d.length = dn at *
  go_wp2_with fail
  refine HKL.out.mono ?_
  rintro e w3 ⟨C3, ao', c', rfl, ho3, hb3⟩
  obtain ⟨n, hn⟩ : ∃ n, (listL d).length = n := ⟨_, rfl⟩
  have hn32 : n ≤ 32 := by rw [← hn, listL_length]; exact cntN_le _
  have HDIG : Hid (∀ wr j, Chg S w3 wr → j < n → ∃ gl k R, ao' = some ⟨gl, 0, none⟩ ∧ (keysL d)[j]? = some k ∧ R.size = 32 ∧ R.all (·.oneCell') = true ∧ hkV k = .agg R ∧ (Instr.loadAt 32 (.pointer (some ⟨gl, j * 32, none⟩))).run Tryd.prog wr = .ok (.agg R) wr) := Lib.hid (fun wr j C hj => by
    obtain ⟨f, hf⟩ : ∃ f, (listL d)[j]? = some f := ⟨_, List.getElem?_eq_getElem (by omega)⟩
    obtain ⟨gl, hgl⟩ := ownsRow_head ho3 (by omega)
    refine ⟨gl, hkey f, hashC f, hgl, by rw [keysL, List.getElem?_map, hf]; rfl, hashC_size _, hashC_one _, by rw [hkV_hkey]; rfl, ?_⟩
    refine load_of_list (ownsRow_chg ho3 C (fun x hx hm => ?_)) hgl hf
    have h1 := hb3 x hx
    have h2 := HH2.out.lt x hm
    omega)
  have HNL : Hid ((keysL d).length = n) := Lib.hid (by rw [keysL, List.length_map, hn])
  have H3 := Lib.hid (show FinderIs w3 b bf bp F (Gto nm F (keysL d) 0) fv pv S by rw [Gto_zero]; exact HH2.out.chg C3 (by simp))
  have HN3 : Hid (∀ p ∈ pv, Gto nm F (keysL d) 0 p.1 ≠ []) := Lib.hid (by rw [Gto_zero]; exact HNE.out)
  have C13 := HC2.out.trans C3 (by simp)
  have HC13 := Lib.hid C13
  have hx3 := (C13.block _ (lt_of_block HX.out) (by simp)).trans HX.out
  have HBOX : Hid (∀ wr, Chg S w3 wr → wr.cell? ⟨q, 0, none⟩ = some (.string nm)) := Lib.hid (fun wr C => by
    have h := (C.block q (lt_of_block hx3) (fun hm => HQS.out q hm rfl)).trans hx3
    rw [cell_of_row _ _ _ _ _ _ h]; rfl)
  have HQ3 : Hid (q < w3.heap.size) := Lib.hid (lt_of_block hx3)
  rw [hn]
  clear ho3 hb3 hn C13 hx3 C3 HH2 HKL HH1 HL1 HS1 HLC HOL HX
  go_wp2_with fail
  go_loopw [32] (fun v32 wr => ∃ (j : Nat) (pv : List (HKey × Value)), v32 = .int .i64 (j : Int) ∧ j ≤ n ∧ Hid (FinderIs wr b bf bp F (Gto nm F (keysL d) j) fv pv S) ∧ Hid (∀ p ∈ pv, Gto nm F (keysL d) j p.1 ≠ []) ∧ Hid (Chg S w3 wr)) (fun v32 _ => n - (intOf v32).toNat)
  case atStart => exact ⟨0, pv, rfl, by omega, H3, HN3, Lib.hid (Chg.refl _ _)⟩
  case round =>
    clear H3 HN3 HNE
    obtain ⟨j, pv, rfl, hjn, HI, HNE, HC⟩ := hrel
    by_cases hlt : j < n
    · have e1 : (j : Int) < n := by omega
      have e0 : (0 : Int) ≤ j := by omega
      obtain ⟨gl, k, R, rfl, hk, hRs, hR1, hkv, hld⟩ := HDIG.out wr j HC.out hlt
      obtain ⟨Z, hZ, hz, hs, h1⟩ := zeroHash
      have HSTO := run_storeAt_new wr 32 Z R (by rw [hRs]; exact infoHash) (by rw [hs, hRs]) hR1
      clear hZ
      go_upto_region 10 with (first | (refine wpList_load_y 32 (.tmp 34) rfl rfl (.pointer (some ⟨gl, j * 32, none⟩)) (.agg R) hld rfl ?_) | (refine wpList_store_y 32 (.tmp 10) (.tmp 35) rfl rfl (.pointer (some ⟨wr.heap.size, 0, none⟩)) (.agg R) _ HSTO rfl rfl ?_))
      clear HSTO hld hz hs h1
      have CA := Chg.alloc [] wr (.cells R 32)
      have hq2 := heap_alloc_new wr (.cells R 32)
      have HIK := HI.out.chg CA (by simp)
      obtain ⟨q2, hqe⟩ : ∃ q2, wr.heap.size = q2 := ⟨_, rfl⟩
      have hq2S : ∀ x ∈ S, x < q2 := fun x hx => by have := HI.out.lt x hx; omega
      rw [hqe] at hq2 ⊢
      generalize wr.alloc (.cells R 32) = wk at *
      have HCK := Lib.hid (HC.out.trans CA (by simp))
      have HR := Lib.hid hRs
      have HKV := Lib.hid hkv
      have hb1 := HIK.map.2
      have hold := HIK.old k
      have hbS : ∀ x, (plOf pv k).ownBlock = some x → x ∈ S := fun x hx => by
        unfold plOf at hx
        cases hg : mget pv k with
        | none => rw [hg] at hx; cases hx
        | some v => rw [hg] at hx; exact HIK.po _ (mget_mem hg) x hx
      have hcb : ∀ x ∈ (plOf pv k).ownBlock.toList, x ≠ b ∧ x ≠ bp := fun x hx => by
        obtain ⟨cur, hcur⟩ := hold.block (by simpa using hx)
        refine ⟨fun e => ?_, fun e => ?_⟩
        · subst e; rw [HIK.head] at hcur; cases hcur
        · subst e; exact HIK.places.not_cells hcur
      have hbb : b ≠ bp := fun e => by subst e; exact HIK.places.not_cells HIK.head
      have D1 := (show Chg [] wk wk.drew from Chg.drewN [] wk 1)
      have HID := Lib.hid (HIK.chg D1 (by simp))
      have HLK := Lib.hid (show (Instr.lookup 67 (.map (some bp)) (hkV k) false).run Tryd.prog wk.drew = .ok (plOf pv k) wk.drew from look_place (HIK.places.chg D1 (by simp)) k)
      rw [hkv] at HLK
      have KD := Lib.hid (blk_delete (plOf pv k) _ nm q _ (HID.out.old k) (by have := Gto_len nm F (keysL d) j k; omega) (HBOX.out _ (HCK.out.trans D1 (by simp))) (fun e => by have := hbS q e; exact HQS.out q this rfl))
      have HS5 : Hid (∀ w5, Chg (plOf pv k).ownBlock.toList wk.drew w5 → Chg (bp :: (plOf pv k).ownBlock.toList) wk w5 ∧ w5.cell? ⟨b, 1, none⟩ = some (.map (some bp)) ∧ w5.heap[q2]? = some (.cells R 32 (0, 0))) := Lib.hid (fun w5 C => by
        have C' := (D1.mono (T := (plOf pv k).ownBlock.toList) (by simp)).trans C (fun x hx => .inl hx)
        refine ⟨C'.mono (fun x hx => by simp [hx]), C'.cell_some hb1 (fun hm => (hcb _ hm).1 rfl), (C'.block _ (lt_of_block hq2) (fun hm => ?_)).trans hq2⟩
        have := hq2S _ (hbS _ (by simpa using hm))
        omega)
      have HPL : Hid (∀ w5, Chg (plOf pv k).ownBlock.toList wk.drew w5 → MapAt hkV w5 bp pv) := Lib.hid (fun w5 C => HID.out.places.chg C (fun hm => (hcb _ hm).2 rfl))
      have HS6 : Hid (∀ w5 w6, Chg (plOf pv k).ownBlock.toList wk.drew w5 → Chg [bp] w5 w6 → Chg (bp :: (plOf pv k).ownBlock.toList) wk w6 ∧ w6.cell? ⟨b, 1, none⟩ = some (.map (some bp)) ∧ w6.heap[q2]? = some (.cells R 32 (0, 0))) := Lib.hid (fun w5 w6 C D => by
        obtain ⟨h1, h2, h3⟩ := HS5.out w5 C
        refine ⟨h1.trans D (fun x hx => .inl (by simp at hx; simp [hx])), D.cell_some h2 (by simpa using hbb), (D.block _ (lt_of_block h3) (fun hm => ?_)).trans h3⟩
        simp at hm
        have := hq2S _ HIK.fp
        omega)
      have HK1 := Lib.hid hk
      have HQ2S := Lib.hid hq2S
      have HBS := Lib.hid hbS
      have HHK := Lib.hid HIK
      clear hk hkv hRs hR1 CA HIK hold hbS hcb hqe hq2S D1 HI HC
      refine wp_region_held_drew (S := fun w' => Chg (bp :: (plOf pv k).ownBlock.toList) wk w' ∧ w'.cell? ⟨b, 1, none⟩ = some (.map (some bp)) ∧ w'.heap[q2]? = some (.cells R 32 (0, 0))) (by kernel_rfl) (⟨Chg.drewN _ wk 1, hb1, hq2⟩) (fun H0 => ?_)
      refine' wpAnyH_take (i := 0) (v := _) rfl (by kernel_rfl) (by kernel_rfl) (by kernel_rfl) (fun _ _ _ h => h) (Or.inl ⟨by rfl, ?hyb0⟩) H0 ?restb0
      case hyb0 =>
        intro w' hSw
        obtain ⟨s1, s2, s3⟩ := hSw
        go_simp
        try with_reducible rfl
      (try simp only [Act.put, List.getElem_toArray, List.getElem_cons_zero, List.setIfInBounds_toArray, List.set_cons_zero, List.set_cons_succ])
      refine' wpAnyH_take (i := 1) (v := _) rfl (by kernel_rfl) (by kernel_rfl) (by kernel_rfl) (fun _ _ _ h => h) (Or.inl ⟨by rfl, ?hyb1⟩) H0 ?restb1
      case hyb1 =>
        intro w' hSw
        obtain ⟨s1, s2, s3⟩ := hSw
        go_simp
        try with_reducible rfl
      (try simp only [Act.put, List.getElem_toArray, List.getElem_cons_succ, List.getElem_cons_zero, List.setIfInBounds_toArray, List.set_cons_zero, List.set_cons_succ])
      refine' wpAnyH_take (i := 2) (v := _) rfl (by kernel_rfl) (by kernel_rfl) (by kernel_rfl) (fun _ _ _ h => h) (Or.inl ⟨by rfl, ?hyb2⟩) H0 ?restb2
      case hyb2 =>
        intro w' hSw
        obtain ⟨s1, s2, s3⟩ := hSw
        go_simp
        try with_reducible rfl
      (try simp only [Act.put, List.getElem_toArray, List.getElem_cons_succ, List.getElem_cons_zero, List.setIfInBounds_toArray, List.set_cons_zero, List.set_cons_succ])
      refine' wpAnyH_take (i := 3) (v := _) rfl (by kernel_rfl) (by kernel_rfl) (by kernel_rfl) (fun _ _ _ h => h) (Or.inl ⟨by rfl, ?hyb3⟩) H0 ?restb3
      case hyb3 =>
        intro w' hSw
        obtain ⟨s1, s2, s3⟩ := hSw
        go_simp
        try with_reducible rfl
      (try simp only [Act.put, List.getElem_toArray, List.getElem_cons_succ, List.getElem_cons_zero, List.setIfInBounds_toArray, List.set_cons_zero, List.set_cons_succ])
      refine' wpAnyH_take (i := 4) (v := .agg R) rfl (by kernel_rfl) (by kernel_rfl) (by kernel_rfl) (fun _ _ _ h => h) (Or.inl ⟨by rfl, ?hyb4⟩) H0 ?restb4
      case hyb4 =>
        intro w' hSw
        obtain ⟨s1, s2, s3⟩ := hSw
        have hld := run_load_hash w' _ _ _ _ s3 HR.out
        simp [execOp, Act.eval, hld, Result.andThen]
      (try simp only [Act.put, List.getElem_toArray, List.getElem_cons_succ, List.getElem_cons_zero, List.setIfInBounds_toArray, List.set_cons_zero, List.set_cons_succ])
      refine' wpAnyH_take (i := 5) (v := _) rfl (by kernel_rfl) (by kernel_rfl) (by kernel_rfl) (fun _ _ _ h => h) (Or.inl ⟨by rfl, ?hyb5⟩) H0 ?restb5
      case hyb5 =>
        intro w' hSw
        obtain ⟨s1, s2, s3⟩ := hSw
        go_simp
        try with_reducible rfl
      (try simp only [Act.put, List.getElem_toArray, List.getElem_cons_succ, List.getElem_cons_zero, List.setIfInBounds_toArray, List.set_cons_zero, List.set_cons_succ])
      refine' wpAnyH_take (i := 6) (v := _) rfl (by kernel_rfl) (by kernel_rfl) (by kernel_rfl) (fun _ _ _ h => h) (Or.inl ⟨by rfl, ?hyb6⟩) H0 ?restb6
      case hyb6 =>
        intro w' hSw
        obtain ⟨s1, s2, s3⟩ := hSw
        go_simp
        try with_reducible rfl
      (try simp only [Act.put, List.getElem_toArray, List.getElem_cons_succ, List.getElem_cons_zero, List.setIfInBounds_toArray, List.set_cons_zero, List.set_cons_succ])
      refine' wpAnyH_take (i := 7) (v := _) rfl (by kernel_rfl) (by kernel_rfl) (by kernel_rfl) (fun _ _ _ h => h) (Or.inl ⟨by rfl, ?hyb7⟩) H0 ?restb7
      case hyb7 =>
        intro w' hSw
        obtain ⟨s1, s2, s3⟩ := hSw
        go_simp
        try with_reducible rfl
      (try simp only [Act.put, List.getElem_toArray, List.getElem_cons_succ, List.getElem_cons_zero, List.setIfInBounds_toArray, List.set_cons_zero, List.set_cons_succ])
      refine' wpAnyH_take (i := 8) (v := _) rfl (by kernel_rfl) (by kernel_rfl) (by kernel_rfl) (fun _ _ _ h => h) (Or.inl ⟨by rfl, ?hyb8⟩) H0 ?restb8
      case hyb8 =>
        intro w' hSw
        obtain ⟨s1, s2, s3⟩ := hSw
        go_simp
        try with_reducible rfl
      (try simp only [Act.put, List.getElem_toArray, List.getElem_cons_succ, List.getElem_cons_zero, List.setIfInBounds_toArray, List.set_cons_zero, List.set_cons_succ])
      refine' wpAnyH_take (i := 9) (v := .agg R) rfl (by kernel_rfl) (by kernel_rfl) (by kernel_rfl) (fun _ _ _ h => h) (Or.inl ⟨by rfl, ?hyb9⟩) H0 ?restb9
      case hyb9 =>
        intro w' hSw
        obtain ⟨s1, s2, s3⟩ := hSw
        have hld := run_load_hash w' _ _ _ _ s3 HR.out
        simp [execOp, Act.eval, hld, Result.andThen]
      (try simp only [Act.put, List.getElem_toArray, List.getElem_cons_succ, List.getElem_cons_zero, List.setIfInBounds_toArray, List.set_cons_zero, List.set_cons_succ])
      refine' wpAnyH_take (i := 11) (v := _) rfl (by kernel_rfl) (by kernel_rfl) (by kernel_rfl) (fun _ _ _ h => h) (Or.inl ⟨by rfl, ?hyb11⟩) H0 ?restb11
      case hyb11 =>
        intro w' hSw
        obtain ⟨s1, s2, s3⟩ := hSw
        go_simp
        try with_reducible rfl
      (try simp only [Act.put, List.getElem_toArray, List.getElem_cons_succ, List.getElem_cons_zero, List.setIfInBounds_toArray, List.set_cons_zero, List.set_cons_succ])
      refine wpAnyH_ready (rs := [10]) (by kernel_rfl) (by simp) (AllReadyH.cons rfl (fun K hK => ?_) AllReadyH.nil)
      have hlk10 := HLK.out
      go_simp
      refine hK.out _ _ H0 (fun H1 => ?_)
      clear hK K hlk10
      refine wpAnyH_ready (rs := [12]) (by kernel_rfl) (by simp) (AllReadyH.cons rfl (fun K hK => ?_) AllReadyH.nil)
      go_simp
      refine KD.out.mono ?_
      rintro e w5 ⟨v1, rfl, hv1, hb5, C5⟩
      go_simp
      refine hK.out _ _ (HS5.out w5 C5) (fun H2 => ?_)
      clear hK K
      obtain ⟨w6, hr6, M6⟩ := run_mapUpdate_x keyOk_hash Tryd.underlying67 (HPL.out w5 C5) k v1
      rw [HKV.out] at hr6
      refine wpAnyH_ready (rs := [13]) (by kernel_rfl) (by simp) (AllReadyH.cons rfl (fun K hK => ?_) AllReadyH.nil)
      go_simp
      refine hK.out _ _ (HS6.out w5 w6 C5 M6.chg) (fun H3 => ?_)
      clear hK K hr6
      refine wpAnyH_done (by kernel_rfl) ?_ _
      have HFI : Hid (FinderIs w6 b bf bp F (Gto nm F (keysL d) (j + 1)) fv (mput pv k v1) S) := Lib.hid ((HID.out.put k C5 (fun x hx => .inr (by simpa using hx)) hv1 (fun x hx => .inr (hb5 x hx)) (fun x hx => hx) (fun x hx => HBS.out x (hb5 x hx)) (fun x hx => Nat.lt_of_lt_of_le (HID.out.lt x hx) C5.size) M6).congr (Gto_succ HK1.out))
      have HC6 : Hid (Chg S w3 w6) := Lib.hid (HCK.out.trans H3.1 (fun x hx => .inl (by
        simp at hx
        rcases hx with rfl | hx
        · exact HHK.out.fp
        · exact HBS.out x hx)))
      have hb6 := H3.2.1
      have hq6 := H3.2.2
      have HLK6 := Lib.hid (fun w' (C : Chg [] w6 w') => by
        have := look_place (HFI.out.places.chg C (by simp)) k
        rw [HKV.out, show plOf (mput pv k v1) k = v1 from by unfold plOf; rw [mget_mput HID.out.keys]; rfl] at this
        exact this)
      have HKN : Hid (Gto nm F (keysL d) (j + 1) k = wo nm (Gto nm F (keysL d) j k)) := Lib.hid (by have := Gto_succ (nm := nm) (F := F) HK1.out k; rw [if_pos rfl] at this; exact this.symm)
      have HN6 : Hid (∀ p ∈ mput pv k v1, p.1 ≠ k → Gto nm F (keysL d) (j + 1) p.1 ≠ []) := Lib.hid (fun p hp hpk => by
        rcases mput_mem HID.out.keys hp with rfl | ⟨hp, _⟩
        · exact absurd rfl hpk
        · have h := Gto_succ (nm := nm) (F := F) HK1.out p.1
          rw [if_neg hpk] at h
          rw [← h]
          exact HNE.out p hp)
      clear M6 hb5 C5 H0 H1 H2 H3 HS5 HS6 HPL KD HLK HCK HHK HBS HK1 hb1 hq2 HNE
      obtain ⟨ao2, c2, rfl, ho2⟩ := hv1
      have HO2 := Lib.hid ho2
      clear ho2
      obtain ⟨m, hm⟩ : ∃ m, (wo nm (Gto nm F (keysL d) j k)).length = m := ⟨_, rfl⟩
      rw [hm] at HLK6 HFI HN6
      have HM := Lib.hid hm
      clear HO2
      go_wp2_with fail
      refine wp_region_held_drew (S := fun w' => Chg [] w6 w' ∧ w'.cell? ⟨b, 1, none⟩ = some (.map (some bp)) ∧ w'.heap[q2]? = some (.cells R 32 (0, 0))) (by kernel_rfl) (⟨Chg.drewN _ w6 1, hb6, hq6⟩) (fun H0 => ?_)
      refine' wpAnyH_take (i := 0) (v := _) rfl (by kernel_rfl) (by kernel_rfl) (by kernel_rfl) (fun _ _ _ h => h) (Or.inl ⟨by rfl, ?hyc0⟩) H0 ?restc0
      case hyc0 =>
        intro w' hSw
        obtain ⟨s1, s2, s3⟩ := hSw
        go_simp
        try with_reducible rfl
      (try simp only [Act.put, List.getElem_toArray, List.getElem_cons_zero, List.setIfInBounds_toArray, List.set_cons_zero, List.set_cons_succ])
      refine' wpAnyH_take (i := 1) (v := _) rfl (by kernel_rfl) (by kernel_rfl) (by kernel_rfl) (fun _ _ _ h => h) (Or.inl ⟨by rfl, ?hyc1⟩) H0 ?restc1
      case hyc1 =>
        intro w' hSw
        obtain ⟨s1, s2, s3⟩ := hSw
        go_simp
        try with_reducible rfl
      (try simp only [Act.put, List.getElem_toArray, List.getElem_cons_succ, List.getElem_cons_zero, List.setIfInBounds_toArray, List.set_cons_zero, List.set_cons_succ])
      refine' wpAnyH_take (i := 2) (v := _) rfl (by kernel_rfl) (by kernel_rfl) (by kernel_rfl) (fun _ _ _ h => h) (Or.inl ⟨by rfl, ?hyc2⟩) H0 ?restc2
      case hyc2 =>
        intro w' hSw
        obtain ⟨s1, s2, s3⟩ := hSw
        go_simp
        try with_reducible rfl
      (try simp only [Act.put, List.getElem_toArray, List.getElem_cons_succ, List.getElem_cons_zero, List.setIfInBounds_toArray, List.set_cons_zero, List.set_cons_succ])
      refine' wpAnyH_take (i := 3) (v := _) rfl (by kernel_rfl) (by kernel_rfl) (by kernel_rfl) (fun _ _ _ h => h) (Or.inl ⟨by rfl, ?hyc3⟩) H0 ?restc3
      case hyc3 =>
        intro w' hSw
        obtain ⟨s1, s2, s3⟩ := hSw
        go_simp
        try with_reducible rfl
      (try simp only [Act.put, List.getElem_toArray, List.getElem_cons_succ, List.getElem_cons_zero, List.setIfInBounds_toArray, List.set_cons_zero, List.set_cons_succ])
      refine' wpAnyH_take (i := 4) (v := .agg R) rfl (by kernel_rfl) (by kernel_rfl) (by kernel_rfl) (fun _ _ _ h => h) (Or.inl ⟨by rfl, ?hyc4⟩) H0 ?restc4
      case hyc4 =>
        intro w' hSw
        obtain ⟨s1, s2, s3⟩ := hSw
        have hld := run_load_hash w' _ _ _ _ s3 HR.out
        simp [execOp, Act.eval, hld, Result.andThen]
      (try simp only [Act.put, List.getElem_toArray, List.getElem_cons_succ, List.getElem_cons_zero, List.setIfInBounds_toArray, List.set_cons_zero, List.set_cons_succ])
      refine' wpAnyH_take (i := 5) (v := .slice ao2 m c2) rfl (by kernel_rfl) (by kernel_rfl) (by kernel_rfl) (fun _ _ _ h => h) (Or.inl ⟨by rfl, ?hyc5⟩) H0 ?restc5
      case hyc5 =>
        intro w' hSw
        obtain ⟨s1, s2, s3⟩ := hSw
        have hl := HLK6.out w' s1
        simp [execOp, Act.eval, hl, Result.andThen]
      (try simp only [Act.put, List.getElem_toArray, List.getElem_cons_succ, List.getElem_cons_zero, List.setIfInBounds_toArray, List.set_cons_zero, List.set_cons_succ])
      refine' wpAnyH_take (i := 6) (v := _) rfl (by kernel_rfl) (by kernel_rfl) (by kernel_rfl) (fun _ _ _ h => h) (Or.inl ⟨by rfl, ?hyc6⟩) H0 ?restc6
      case hyc6 =>
        intro w' hSw
        obtain ⟨s1, s2, s3⟩ := hSw
        go_simp
        try with_reducible rfl
      (try simp only [Act.put, List.getElem_toArray, List.getElem_cons_succ, List.getElem_cons_zero, List.setIfInBounds_toArray, List.set_cons_zero, List.set_cons_succ])
      refine' wpAnyH_take (i := 7) (v := _) rfl (by kernel_rfl) (by kernel_rfl) (by kernel_rfl) (fun _ _ _ h => h) (Or.inl ⟨by rfl, ?hyc7⟩) H0 ?restc7
      case hyc7 =>
        intro w' hSw
        obtain ⟨s1, s2, s3⟩ := hSw
        go_simp
        try with_reducible rfl
      (try simp only [Act.put, List.getElem_toArray, List.getElem_cons_succ, List.getElem_cons_zero, List.setIfInBounds_toArray, List.set_cons_zero, List.set_cons_succ])
      refine wpAnyH_done (by kernel_rfl) ?_ _
      obtain ⟨w7, hw7⟩ : ∃ w7, w6.drew = w7 := ⟨_, rfl⟩
      try rw [hw7] at H0 ⊢
      obtain ⟨C7, hb7, hq7⟩ := H0
      have HFI7 := Lib.hid (HFI.out.chg C7 (by simp))
      have HC7 := Lib.hid (HC6.out.trans C7 (by simp))
      clear hw7 C7 HFI HC6 hb6 hq6 HLK6 hm
      by_cases hm0 : m = 0
      · subst hm0
        have e2 : (((0 : Nat) : Int) = 0) := rfl
        have hGk : Gto nm F (keysL d) (j + 1) k = [] := by rw [HKN.out]; exact List.eq_nil_of_length_eq_zero HM.out
        obtain ⟨w8, hr8, M8⟩ := run_delete_x keyOk_hash Tryd.underlying67 (HFI7.out.places.chg (show Chg [] w7 w7.drew from Chg.drewN [] w7 1) (by simp)) k #[67, 32] rfl 0
        rw [HKV.out] at hr8
        have HS8 : Hid (∀ w8, Chg [bp] w7.drew w8 → Chg [bp] w7 w8 ∧ w8.cell? ⟨b, 1, none⟩ = some (.map (some bp)) ∧ w8.heap[q2]? = some (.cells R 32 (0, 0))) := Lib.hid (fun w8 D => by
          have D' := (show Chg [bp] w7 w7.drew from Chg.drewN [bp] w7 1).trans D (fun x hx => .inl hx)
          refine ⟨D', D'.cell_some hb7 (by simpa using hbb), (D'.block _ (lt_of_block hq7) (fun hm => ?_)).trans hq7⟩
          simp at hm
          have := HQ2S.out _ HFI7.out.fp
          omega)
        have HF8 := Lib.hid ((HFI7.out.chg (show Chg [] w7 w7.drew from Chg.drewN [] w7 1) (by simp)).drop k hGk M8)
        have HC8 := Lib.hid (HC7.out.trans (HS8.out w8 M8.chg).1 (fun x hx => .inl (by simp at hx; rw [hx]; exact HFI7.out.fp)))
        have HN8 : Hid (∀ p ∈ mdel (mput pv k (.slice ao2 0 c2)) k, Gto nm F (keysL d) (j + 1) p.1 ≠ []) := Lib.hid (fun p hp => by
          obtain ⟨h1, h2⟩ := mdel_mem HFI7.out.keys hp
          exact HN6.out p h1 h2)
        clear hGk
        go_wp2_with fail
        refine wp_region_held_drew (S := fun w' => Chg [bp] w7 w' ∧ w'.cell? ⟨b, 1, none⟩ = some (.map (some bp)) ∧ w'.heap[q2]? = some (.cells R 32 (0, 0))) (by kernel_rfl) (⟨Chg.drewN _ w7 1, hb7, hq7⟩) (fun H0 => ?_)
        refine' wpAnyH_take (i := 0) (v := _) rfl (by kernel_rfl) (by kernel_rfl) (by kernel_rfl) (fun _ _ _ h => h) (Or.inl ⟨by rfl, ?hyd0⟩) H0 ?restd0
        case hyd0 =>
          intro w' hSw
          obtain ⟨s1, s2, s3⟩ := hSw
          go_simp
          try with_reducible rfl
        (try simp only [Act.put, List.getElem_toArray, List.getElem_cons_zero, List.setIfInBounds_toArray, List.set_cons_zero, List.set_cons_succ])
        refine' wpAnyH_take (i := 1) (v := _) rfl (by kernel_rfl) (by kernel_rfl) (by kernel_rfl) (fun _ _ _ h => h) (Or.inl ⟨by rfl, ?hyd1⟩) H0 ?restd1
        case hyd1 =>
          intro w' hSw
          obtain ⟨s1, s2, s3⟩ := hSw
          go_simp
          try with_reducible rfl
        (try simp only [Act.put, List.getElem_toArray, List.getElem_cons_succ, List.getElem_cons_zero, List.setIfInBounds_toArray, List.set_cons_zero, List.set_cons_succ])
        refine' wpAnyH_take (i := 2) (v := _) rfl (by kernel_rfl) (by kernel_rfl) (by kernel_rfl) (fun _ _ _ h => h) (Or.inl ⟨by rfl, ?hyd2⟩) H0 ?restd2
        case hyd2 =>
          intro w' hSw
          obtain ⟨s1, s2, s3⟩ := hSw
          go_simp
          try with_reducible rfl
        (try simp only [Act.put, List.getElem_toArray, List.getElem_cons_succ, List.getElem_cons_zero, List.setIfInBounds_toArray, List.set_cons_zero, List.set_cons_succ])
        refine' wpAnyH_take (i := 3) (v := _) rfl (by kernel_rfl) (by kernel_rfl) (by kernel_rfl) (fun _ _ _ h => h) (Or.inl ⟨by rfl, ?hyd3⟩) H0 ?restd3
        case hyd3 =>
          intro w' hSw
          obtain ⟨s1, s2, s3⟩ := hSw
          go_simp
          try with_reducible rfl
        (try simp only [Act.put, List.getElem_toArray, List.getElem_cons_succ, List.getElem_cons_zero, List.setIfInBounds_toArray, List.set_cons_zero, List.set_cons_succ])
        refine' wpAnyH_take (i := 4) (v := .agg R) rfl (by kernel_rfl) (by kernel_rfl) (by kernel_rfl) (fun _ _ _ h => h) (Or.inl ⟨by rfl, ?hyd4⟩) H0 ?restd4
        case hyd4 =>
          intro w' hSw
          obtain ⟨s1, s2, s3⟩ := hSw
          have hld := run_load_hash w' _ _ _ _ s3 HR.out
          simp [execOp, Act.eval, hld, Result.andThen]
        (try simp only [Act.put, List.getElem_toArray, List.getElem_cons_succ, List.getElem_cons_zero, List.setIfInBounds_toArray, List.set_cons_zero, List.set_cons_succ])
        refine wpAnyH_ready (rs := [5]) (by kernel_rfl) (by simp) (AllReadyH.cons rfl (fun K hK => ?_) AllReadyH.nil)
        go_simp
        refine hK.out _ _ (HS8.out w8 M8.chg) (fun H1 => ?_)
        clear hK K hr8
        refine wpAnyH_done (by kernel_rfl) ?_ _
        go_wp2_with fail
        go_roundw
        case rel => exact ⟨j + 1, _, by go_num, by omega, HF8, HN8, HC8⟩
        case measure => simp [intOf] <;> omega
      · have e2 : ¬ ((m : Int) = 0) := by omega
        have HN8 : Hid (∀ p ∈ mput pv k (.slice ao2 m c2), Gto nm F (keysL d) (j + 1) p.1 ≠ []) := Lib.hid (fun p hp => by
          by_cases hpk : p.1 = k
          · rw [hpk, HKN.out]
            intro h
            have := HM.out
            rw [h] at this
            exact hm0 this.symm
          · exact HN6.out p hp hpk)
        go_wp2_with fail
        go_roundw
        case rel => exact ⟨j + 1, _, by go_num, by omega, HFI7, HN8, HC7⟩
        case measure => simp [intOf] <;> omega
    · have e1 : ¬ ((j : Int) < n) := by omega
      have hj : (keysL d).length ≤ j := by rw [HNL.out]; omega
      have HFIN := HI.out.congr (Gto_all HND.out HMEM.out hj)
      have HNF : Hid (∀ p ∈ pv, occ (Fdel F nm) p.1 ≠ []) := Lib.hid (fun p hp => by rw [← Gto_all HND.out HMEM.out hj]; exact HNE.out p hp)
      have hb1 := HFIN.map.1
      have hq1 := HBOX.out wr HC.out
      have hbf : b ≠ bf := fun e => by subst e; exact HFIN.files.not_cells HFIN.head
      have hqf : q ≠ bf := fun e => HQS.out _ HFIN.ff e.symm
      obtain ⟨w8, hr8, M8⟩ := run_delete_x (keyOk_string Tryd.underlying9) Tryd.underlying66 (HFIN.files.chg (show Chg [] wr wr.drew from Chg.drewN [] wr 1) (by simp)) nm #[66, 9] rfl 0
      have HS8 : Hid (∀ w8, Chg [bf] wr.drew w8 → Chg [bf] wr w8 ∧ w8.cell? ⟨b, 0, none⟩ = some (.map (some bf)) ∧ w8.cell? ⟨q, 0, none⟩ = some (.string nm)) := Lib.hid (fun w8 D => by
        have D' := (show Chg [bf] wr wr.drew from Chg.drewN [bf] wr 1).trans D (fun x hx => .inl hx)
        exact ⟨D', D'.cell_some hb1 (by simpa using hbf), D'.cell_some hq1 (by simpa using hqf)⟩)
      have HWR := Lib.hid (HFIN.chg (show Chg [] wr wr.drew from Chg.drewN [] wr 1) (by simp))
      have HF8 : Hid (FinderIs w8 b bf bp (Fdel F nm) (occ (Fdel F nm)) (mdel fv nm) pv S) := Lib.hid (by
        obtain ⟨hf1, hf2, hf3⟩ := HFD.out
        refine HWR.out.refile (T := []) (Chg.refl _ _) (by simp) M8 hf3 (fun t p z hp hz => ?_) (fun x hx => hx) (fun p hp => ?_) HWR.out.lt
        · rw [hf1, List.getElem?_eraseIdx] at hp
          rw [hf2, List.getElem?_eraseIdx] at hz
          split at hp
          · rename_i h; rw [if_pos h] at hz; exact HWR.out.fval _ _ _ hp hz
          · rename_i h; rw [if_neg h] at hz; exact HWR.out.fval _ _ _ hp hz
        · rw [hf1] at hp
          exact HWR.out.fo p (List.mem_of_mem_eraseIdx hp))
      have HC8 := Lib.hid (HC.out.trans (HS8.out w8 M8.chg).1 (fun x hx => .inl (by simp at hx; rw [hx]; exact HWR.out.ff)))
      clear HFIN hj HDIG
      go_wp2_with fail
      refine wp_region_held_drew (S := fun w' => Chg [bf] wr w' ∧ w'.cell? ⟨b, 0, none⟩ = some (.map (some bf)) ∧ w'.cell? ⟨q, 0, none⟩ = some (.string nm)) (by kernel_rfl) (⟨Chg.drewN _ wr 1, hb1, hq1⟩) (fun H0 => ?_)
      refine' wpAnyH_take (i := 0) (v := _) rfl (by kernel_rfl) (by kernel_rfl) (by kernel_rfl) (fun _ _ _ h => h) (Or.inl ⟨by rfl, ?hye0⟩) H0 ?reste0
      case hye0 =>
        intro w' hSw
        obtain ⟨s1, s2, s3⟩ := hSw
        go_simp
        try with_reducible rfl
      (try simp only [Act.put, List.getElem_toArray, List.getElem_cons_zero, List.setIfInBounds_toArray, List.set_cons_zero, List.set_cons_succ])
      refine' wpAnyH_take (i := 1) (v := _) rfl (by kernel_rfl) (by kernel_rfl) (by kernel_rfl) (fun _ _ _ h => h) (Or.inl ⟨by rfl, ?hye1⟩) H0 ?reste1
      case hye1 =>
        intro w' hSw
        obtain ⟨s1, s2, s3⟩ := hSw
        go_simp
        try with_reducible rfl
      (try simp only [Act.put, List.getElem_toArray, List.getElem_cons_succ, List.getElem_cons_zero, List.setIfInBounds_toArray, List.set_cons_zero, List.set_cons_succ])
      refine' wpAnyH_take (i := 2) (v := _) rfl (by kernel_rfl) (by kernel_rfl) (by kernel_rfl) (fun _ _ _ h => h) (Or.inl ⟨by rfl, ?hye2⟩) H0 ?reste2
      case hye2 =>
        intro w' hSw
        obtain ⟨s1, s2, s3⟩ := hSw
        go_simp
        try with_reducible rfl
      (try simp only [Act.put, List.getElem_toArray, List.getElem_cons_succ, List.getElem_cons_zero, List.setIfInBounds_toArray, List.set_cons_zero, List.set_cons_succ])
      refine' wpAnyH_take (i := 3) (v := _) rfl (by kernel_rfl) (by kernel_rfl) (by kernel_rfl) (fun _ _ _ h => h) (Or.inl ⟨by rfl, ?hye3⟩) H0 ?reste3
      case hye3 =>
        intro w' hSw
        obtain ⟨s1, s2, s3⟩ := hSw
        go_simp
        try with_reducible rfl
      (try simp only [Act.put, List.getElem_toArray, List.getElem_cons_succ, List.getElem_cons_zero, List.setIfInBounds_toArray, List.set_cons_zero, List.set_cons_succ])
      refine' wpAnyH_take (i := 4) (v := _) rfl (by kernel_rfl) (by kernel_rfl) (by kernel_rfl) (fun _ _ _ h => h) (Or.inl ⟨by rfl, ?hye4⟩) H0 ?reste4
      case hye4 =>
        intro w' hSw
        obtain ⟨s1, s2, s3⟩ := hSw
        go_simp
        try with_reducible rfl
      (try simp only [Act.put, List.getElem_toArray, List.getElem_cons_succ, List.getElem_cons_zero, List.setIfInBounds_toArray, List.set_cons_zero, List.set_cons_succ])
      refine wpAnyH_ready (rs := [5]) (by kernel_rfl) (by simp) (AllReadyH.cons rfl (fun K hK => ?_) AllReadyH.nil)
      go_simp
      refine hK.out _ _ (HS8.out w8 M8.chg) (fun H1 => ?_)
      clear hK K hr8
      refine wpAnyH_done (by kernel_rfl) ?_ _
      go_wp2_with fail
      go_ret
      refine ⟨rfl, S, ⟨?_, fun p hp => HLEN.out p (List.mem_filter.1 hp).1, bf, bp, _, pv, HF8.out, HNF.out⟩, HQW.out _ ((HC13.out.mono (by simp)).trans HC8.out (fun x hx => .inl hx)), fun x hx => .inl hx⟩
      exact HND.out.sublist (List.filter_sublist.map _)
end Go.Proofs.YtfdhpjflkimihaaDoor
