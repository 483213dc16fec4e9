/- Add, walked. No conditions beyond those that each statement types. -/
import Derived.Test.YtfdhpjflkimihaaDoorBkT
namespace Go.Proofs.YtfdhpjflkimihaaDoor
open Go.RowKit

theorem FinderIs.put2 {w w2 : World} {b bf bp : Nat} {F : Files} {G : HKey → List Pl} {fv : List (ByteArray × Value)} {pv : List (HKey × Value)} {S : List Nat} (H : FinderIs w b bf bp F G fv pv S) (k : HKey) {T : List Nat} (C : Chg T w w2) (hT : ∀ x ∈ T, w.heap.size ≤ x ∨ x = bp ∨ (plOf pv k).ownBlock = some x)
    {v1 : Value} {ps' : List Pl} (hv : PVal w2 v1 ps') (hb : ∀ x, v1.ownBlock = some x → w.heap.size ≤ x ∨ (plOf pv k).ownBlock = some x)
    {S' : List Nat} (hS : ∀ x ∈ S, x ∈ S') (hvS : ∀ x, v1.ownBlock = some x → x ∈ S') (hlt : ∀ x ∈ S', x < w2.heap.size)
    (M : MapAt hkV w2 bp (mput pv k v1)) : FinderIs w2 b bf bp F (fun h => if h = k then ps' else G h) fv (mput pv k v1) S' := by
  have hcells : ∀ {x : Nat} {cs : Array Value} {t : TypeId} {fr : Nat × Nat}, w.heap[x]? = some (.cells cs t fr) → t ≠ 57 → x ∉ T := by
    intro x cs t fr hx ht hm
    rcases hT x hm with h | h | h
    · have := lt_of_block hx; omega
    · subst h; exact H.places.not_cells hx
    · obtain ⟨cur, hc⟩ := (H.old k).block h
      rw [hx] at hc
      cases hc
      exact ht rfl
  have hbf : bf ∉ T := by
    obtain ⟨es, c, hx, _⟩ := H.files
    intro hm
    rcases hT _ hm with h | h | h
    · have := lt_of_block hx; omega
    · exact H.ne h
    · obtain ⟨cur, hc⟩ := (H.old k).block h
      rw [hx] at hc
      cases hc
  have hb0 : b ∉ T := hcells H.head (by decide)
  have hout : ∀ p ∈ pv, p.1 ≠ k → ∀ x, p.2.ownBlock = some x → x ∉ T := by
    intro p hp hk x hx hm
    rcases hT x hm with h | h | h
    · have := H.lt x (H.po p hp x hx); omega
    · obtain ⟨cur, hc⟩ := (H.pval p hp).block hx
      subst h
      exact H.places.not_cells hc
    · unfold plOf at h
      cases hg : mget pv k with
      | none => rw [hg] at h; simp [Value.ownBlock] at h
      | some v => rw [hg] at h; exact H.apart p hp _ (mget_mem hg) hk x hx h
  have hone : ∀ p ∈ pv, p.1 ≠ k → ∀ x, v1.ownBlock = some x → p.2.ownBlock ≠ some x := by
    intro p hp hk x hx hpx
    rcases hb x hx with h | h
    · have := H.lt x (H.po p hp x hpx); omega
    · unfold plOf at h
      cases hg : mget pv k with
      | none => rw [hg] at h; simp [Value.ownBlock] at h
      | some v => rw [hg] at h; exact H.apart p hp _ (mget_mem hg) hk x hpx h
  refine ⟨?_, ?_, M, H.names, fun i p q hp hq => ?_, mput_nodup H.keys _, fun p hp => ?_, fun x hx => ?_, H.ne, hS _ H.fb, hS _ H.ff, hS _ H.fp, fun p hp x hx => hS _ (H.fo p hp x hx), fun p hp x hx => ?_, fun p hp q hq hpq x hx => ?_, hlt⟩
  · exact (C.block _ (lt_of_block H.head) hb0).trans H.head
  · exact H.files.chg C hbf
  · have hf := H.fval i p q hp hq
    refine hf.chg C (fun x hx => ?_)
    obtain ⟨cur, hc⟩ := hf.block hx
    exact hcells hc (by decide)
  · rcases mput_mem H.keys hp with rfl | ⟨hp, hk⟩
    · simpa using hv
    · have h1 := H.pval p hp
      simp only [if_neg hk]
      exact h1.chg C (hout p hp hk)
  · rw [mput_has]
    by_cases hk : x = k
    · exact .inl hk
    · simp only [if_neg hk] at hx
      exact .inr (H.has x hx)
  · rcases mput_mem H.keys hp with rfl | ⟨hp, hk⟩
    · exact hvS x hx
    · exact hS _ (H.po p hp x hx)
  · rcases mput_mem H.keys hp with rfl | ⟨hp, hk⟩
    · rcases mput_mem H.keys hq with rfl | ⟨hq, hk'⟩
      · exact absurd rfl hpq
      · exact hone q hq hk' x hx
    · rcases mput_mem H.keys hq with rfl | ⟨hq, hk'⟩
      · intro he
        exact hone p hp hk x he hx
      · exact H.apart p hp q hq hpq x hx
theorem mfill_modify {κ : Type} [DecidableEq κ] (kvs : List (κ × Value)) (k : κ) (z v : Value) : ((mfill kvs k z).modify (mat kvs k) fun p => (p.1, v)) = mput kvs k v := by
  unfold mfill mat mput
  cases hi : midx kvs k with
  | none =>
    simp only [Option.getD_none]
    apply List.ext_getElem?
    intro j
    rw [List.getElem?_modify]
    rcases Nat.lt_trichotomy j kvs.length with h | h | h
    · have hne : ¬ kvs.length = j := by omega
      simp [hne, List.getElem?_append_left h]
    · subst h; simp
    · rw [List.getElem?_eq_none (by simp; omega), List.getElem?_eq_none (by simp; omega)]; rfl
  | some i =>
    obtain ⟨u, hu⟩ := midx_key hi
    simp only [Option.getD_some]
    apply List.ext_getElem?
    intro j
    rw [List.getElem?_modify, List.getElem?_set]
    split
    · rename_i e
      subst e
      rw [if_pos (midx_lt hi), hu]
      rfl
    · simp
def hasF (F : Files) (nm : ByteArray) : Bool := F.any fun p => decide (p.1 = nm)
theorem hasF_mem {F : Files} {nm : ByteArray} : hasF F nm = true ↔ nm ∈ F.map (·.1) := by
  unfold hasF
  rw [List.any_eq_true]
  constructor
  · rintro ⟨p, hp, h⟩
    exact List.mem_map.2 ⟨p, hp, by simpa using h⟩
  · intro h
    obtain ⟨p, hp, h⟩ := List.mem_map.1 h
    exact ⟨p, hp, by simpa using h⟩
theorem blk_forget (b : Nat) (F : Files) (S : List Nat) (nm : ByteArray) (w : World) (hL : Laid w) (H : FinderAt w b F S) (hFl : F.length ≤ 30000) :
    Calls Tryd.prog 28 #[.pointer (some ⟨b, 0, none⟩), .string nm] w (Forgot w b F S nm (hasF F nm)) := by
  by_cases h : nm ∈ F.map (·.1)
  · rw [hasF_mem.2 h]
    obtain ⟨p, hp, e⟩ := List.mem_map.1 h
    obtain ⟨n, d⟩ := p
    subst e
    exact blk_forget_some b F S n d w hL H hp hFl
  · rw [show hasF F nm = false from by rw [Bool.eq_false_iff]; exact fun e => h (hasF_mem.1 e)]
    exact blk_forget_none b F S nm w H h
def Fadd (F : Files) (nm : ByteArray) (d : List UInt8) : Files := Fdel F nm ++ [(nm, d)]
/-- Places when the first digests of a file are put. -/
def Gad (nm : ByteArray) (F : Files) (ks : List HKey) (j : Nat) : HKey → List Pl := fun h => occ F h ++ occTo nm ks h j
theorem Gad_zero (nm : ByteArray) (F : Files) (ks : List HKey) : Gad nm F ks 0 = occ F := by
  funext h
  simp [Gad, occTo]
theorem Gad_succ {nm : ByteArray} {F : Files} {ks : List HKey} {j : Nat} {k : HKey} (hk : ks[j]? = some k) (h : HKey) : (if h = k then Gad nm F ks j k ++ [(nm, j)] else Gad nm F ks j h) = Gad nm F ks (j + 1) h := by
  unfold Gad
  rw [occTo, hk]
  by_cases hh : h = k
  · subst hh
    simp
  · have : ¬ (some k = some h) := fun e => hh (Option.some.inj e).symm
    simp [hh, this]
theorem Gad_len (nm : ByteArray) (F : Files) (ks : List HKey) (j : Nat) (h : HKey) : (Gad nm F ks j h).length ≤ F.length * 32 + j := by
  unfold Gad
  have := occ_len F h
  have := occTo_len nm ks h j
  rw [List.length_append]
  omega
theorem Gad_all {nm : ByteArray} {F : Files} {d : List UInt8} {j : Nat} (hj : j = (keysL d).length) (h : HKey) : Gad nm (Fdel F nm) (keysL d) j h = occ (Fadd F nm d) h := by
  subst hj
  unfold Gad Fadd occ
  rw [List.flatMap_append]
  simp [occ1]
theorem Fadd_nodup {F : Files} {nm : ByteArray} {d : List UInt8} (h : (F.map (·.1)).Nodup) : ((Fadd F nm d).map (·.1)).Nodup ∧ nm ∉ (Fdel F nm).map (·.1) := by
  have hn : nm ∉ (Fdel F nm).map (·.1) := by
    intro hm
    obtain ⟨p, hp, e⟩ := List.mem_map.1 hm
    have := (List.mem_filter.1 hp).2
    simp [e] at this
  refine ⟨?_, hn⟩
  unfold Fadd
  rw [List.map_append, List.nodup_append]
  refine ⟨h.sublist (List.filter_sublist.map _), by simp, fun a ha c hc e => ?_⟩
  simp at hc
  subst hc
  subst e
  exact hn ha
def Added (w : World) (b : Nat) (F' : Files) (S : List Nat) (r : Int) (e : Ending) (w' : World) : Prop :=
  e = .returned (.int .i64 r) ∧ ∃ S', FinderAt w' b F' S' ∧ Chg S w w' ∧ ∀ k ∈ S', k ∈ S ∨ w.heap.size ≤ k
theorem infoPlU : (Tryd.prog.info? 57).map (fun i => (i.zero, i.size, i.bytes)) = some (some (.agg #[.string ⟨#[]⟩, .int .i64 0]), 2, 24) := by kernel_rfl
set_option maxRecDepth 100000 in
set_option maxHeartbeats 4000000 in
theorem blk_add_long (b : Nat) (F : Files) (S : List Nat) (nm : ByteArray) (d : List UInt8) (ao : Option Addr) (c : Nat) (w : World) (hL : Laid w) (H : FinderAt w b F S) (hs : Src w ao (bvs d)) (hlc : d.length ≤ c) (hlong : 4096 < d.length) :
    Calls Tryd.prog 31 #[.pointer (some ⟨b, 0, none⟩), .string nm, .slice ao d.length c] w (Added w b F S 3) := by
  have HF := Lib.hid H
  obtain ⟨_, _, bf, bp, fv, pv, HI, _⟩ := H
  have K := Lib.hid (blk_is_map b (some bf) w HI.map.1)
  have KL := blk_List d ao c w hL hs hlc
  rw [show listO d = none by unfold listO; rw [if_pos hlong]] at KL
  have HKL := Lib.hid KL
  clear HI KL hL hs hlc hlong
  generalize d.length = n at *
  go_enter Tryd.func31, Tryd.ntmps31
  go_wp2_with fail
  refine K.out.mono ?_
  rintro e w5 ⟨rfl, rfl⟩
  go_wp2_with fail
  refine HKL.out.mono ?_
  rintro e w6 ⟨C, rfl⟩
  go_wp2_with fail
  go_ret
  exact ⟨rfl, S, HF.out.chg C (by simp), C.mono (by simp), fun k hk => .inl hk⟩
/-- Bytes that are read stay, if there are none or nobody writes there. -/
theorem Src.chgN {w w' : World} {S : List Nat} {ao : Option Addr} {xs : List Value} (h : Src w ao xs) (hc : Chg S w w') (hn : 0 < xs.length → ∀ a, ao = some a → a.block ∉ S) : Src w' ao xs := by
  cases xs with
  | nil => exact Src.empty _ _
  | cons x xs => exact h.chg hc (hn (Nat.succ_pos _))
set_option maxRecDepth 100000 in
set_option maxHeartbeats 4000000 in
theorem blk_addN (b : Nat) (F : Files) (S : List Nat) (nm : ByteArray) (d : List UInt8) (ao : Option Addr) (c : Nat) (w : World) (hL : Laid w) (H : FinderAt w b F S) (hFl : F.length ≤ 29000) (hs : Src w ao (bvs d)) (hlc : d.length ≤ c) (hc0 : ao = none → c = 0) (hsep : 0 < d.length → ∀ a, ao = some a → a.block ∉ S) (hd4 : d.length ≤ 4096) :
    Calls Tryd.prog 31 #[.pointer (some ⟨b, 0, none⟩), .string nm, .slice ao d.length c] w (Added w b (Fadd F nm d) S 0) := by
  have HF := Lib.hid H
  have HSLT : Hid (∀ k ∈ S, k < w.heap.size) := Lib.hid (by obtain ⟨_, _, bf, bp, fv, pv, HI, _⟩ := H; exact HI.lt)
  have K : ∃ bf, w.cell? ⟨b, 0, none⟩ = some (.map (some bf)) := by
    obtain ⟨_, _, bf, bp, fv, pv, HI, _⟩ := H
    exact ⟨bf, HI.map.1⟩
  obtain ⟨bf0, K⟩ := K
  have K := Lib.hid (blk_is_map b (some bf0) w K)
  have KL := blk_List d ao c w hL hs hlc
  rw [show listO d = some (listL d) by unfold listO; rw [if_neg (by omega)]] at KL
  have HKL := Lib.hid KL
  have HL := Lib.hid hL
  have HS := Lib.hid hs
  have HC0 := Lib.hid hc0
  have HSEP := Lib.hid hsep
  have HD4 := Lib.hid hd4
  obtain ⟨dn, hdn⟩ : ∃ dn, d.length = dn := ⟨_, rfl⟩
  have HDN := Lib.hid hdn
  rw [hdn] at hd4 hlc HKL ⊢
  have hFe : (Fdel F nm).length ≤ 29000 := Nat.le_trans (List.length_filter_le _ _) hFl
  clear H KL hL hs hc0 hsep hdn
  go_enter Tryd.func31, Tryd.ntmps31
  go_wp2_with fail
  refine K.out.mono ?_
  rintro e w2 ⟨rfl, rfl⟩
  go_wp2_with fail
  refine HKL.out.mono ?_
  rintro e w3 ⟨C3, ao', c', rfl, ho3, hb3⟩
  obtain ⟨n, hn⟩ : ∃ n, (listL d).length = n := ⟨_, rfl⟩
  have hn32 : n ≤ 32 := by rw [← hn, listL_length]; exact cntN_le _
  have KF := Lib.hid (blk_forget b F S nm w3 (HL.out.chg C3 (by simp)) (HF.out.chg C3 (by simp)) (by omega))
  have HNL : Hid ((keysL d).length = n) := Lib.hid (by rw [keysL, List.length_map, hn])
  have HC3 := Lib.hid C3
  rw [hn] at ho3 hb3 ⊢
  have HN := Lib.hid hn
  have HO3 := Lib.hid ho3
  have HB3 := Lib.hid hb3
  have HS3 := Lib.hid (HS.out.chg C3 (by simp))
  clear hn C3 ho3 hb3 HKL K HS
  go_wp2_with fail
  refine KF.out.mono ?_
  rintro e w4 ⟨rfl, S4, HF4, C4, hS4⟩
  obtain ⟨hnd4, hl4, bf, bp, fv, pv, HI4, hne4⟩ := HF4
  have hb4 := HI4.map.1
  have D4 : Chg [] w4 w4.drew := Chg.drewN [] w4 1
  have hbf : b ≠ bf := fun e => by subst e; exact HI4.files.not_cells HI4.head
  have HS7 : Hid (∀ w', Chg [] w4 w' → Chg [bf] w4 w' ∧ w'.cell? ⟨b, 0, none⟩ = some (.map (some bf))) := Lib.hid (fun w' C => ⟨C.mono (by simp), C.cell_some hb4 (by simp)⟩)
  have HS7b : Hid (∀ w5 w6, Chg [] w4.drew w5 → Chg [bf] w5 w6 → Chg [bf] w4 w6 ∧ w6.cell? ⟨b, 0, none⟩ = some (.map (some bf))) := Lib.hid (fun w5 w6 C D => by
    have h := (D4.trans C (by simp)).mono (T := [bf]) (by simp)
    have h2 := h.trans D (fun x hx => .inl hx)
    exact ⟨h2, h2.cell_some hb4 (by simpa using hbf)⟩)
  have HMF : Hid (∀ w5, Chg [] w4.drew w5 → MapAt (fun s : ByteArray => Value.string s) w5 bf fv) := Lib.hid (fun w5 C => HI4.files.chg (D4.trans C (by simp)) (by simp))
  have HOW : Hid ((w4.drew.alloc (.cells #[] 5)).ownsRow 0 5 1 (.slice (some ⟨w4.drew.heap.size, 0, none⟩) 0 0) 0 []) := Lib.hid (World.ownsRow_made w4.drew #[] 0 (Nat.zero_le _) (Nat.zero_le _) rfl)
  have HBL : Hid ((bvs d).length = dn * 1) := Lib.hid (by rw [bvs_length, HDN.out, Nat.mul_one])
  have HS4 : Hid (Src (w4.drew.alloc (.cells #[] 5)) ao (bvs d)) := Lib.hid ((HS3.out.chgN C4 (by rw [bvs_length]; exact HSEP.out)).chg (D4.trans (Chg.alloc [] _ _) (by simp)) (by simp))
  have HI4' := Lib.hid HI4
  have HC4 := Lib.hid C4
  have HSS4 := Lib.hid hS4
  have HL4 := Lib.hid hl4
  have HND := Lib.hid hnd4
  have HNE := Lib.hid hne4
  obtain ⟨i0, hi0, hi1, hi2, hi3⟩ := info_parts Tryd.infoU8'
  clear HI4 C4 hS4 hl4 hnd4 hne4 KF HS3 hbf
  go_upto_region 7 with (fail)
  refine wp_region_held_drew (S := fun w' => Chg [bf] w4 w' ∧ w'.cell? ⟨b, 0, none⟩ = some (.map (some bf))) (by kernel_rfl) (⟨Chg.drewN _ w4 1, hb4⟩) (fun H0 => ?_)
  refine' wpAnyH_take (i := 0) (v := _) rfl (by kernel_rfl) (by kernel_rfl) (by kernel_rfl) (fun _ _ _ h => h) (Or.inl ⟨by rfl, ?hya0⟩) H0 ?resta0
  case hya0 =>
    intro w' hSw
    obtain ⟨s1, s2⟩ := hSw
    go_simp
    try with_reducible rfl
  (try simp only [Act.put, List.getElem_toArray, List.getElem_cons_zero, List.setIfInBounds_toArray, List.set_cons_zero, List.set_cons_succ])
  refine' wpAnyH_take (i := 1) (v := _) rfl (by kernel_rfl) (by kernel_rfl) (by kernel_rfl) (fun _ _ _ h => h) (Or.inl ⟨by rfl, ?hya1⟩) H0 ?resta1
  case hya1 =>
    intro w' hSw
    obtain ⟨s1, s2⟩ := hSw
    go_simp
    try with_reducible rfl
  (try simp only [Act.put, List.getElem_toArray, List.getElem_cons_succ, List.getElem_cons_zero, List.setIfInBounds_toArray, List.set_cons_zero, List.set_cons_succ])
  refine' wpAnyH_take (i := 2) (v := _) rfl (by kernel_rfl) (by kernel_rfl) (by kernel_rfl) (fun _ _ _ h => h) (Or.inl ⟨by rfl, ?hya2⟩) H0 ?resta2
  case hya2 =>
    intro w' hSw
    obtain ⟨s1, s2⟩ := hSw
    go_simp
    try with_reducible rfl
  (try simp only [Act.put, List.getElem_toArray, List.getElem_cons_succ, List.getElem_cons_zero, List.setIfInBounds_toArray, List.set_cons_zero, List.set_cons_succ])
  refine' wpAnyH_take (i := 3) (v := _) rfl (by kernel_rfl) (by kernel_rfl) (by kernel_rfl) (fun _ _ _ h => h) (Or.inl ⟨by rfl, ?hya3⟩) H0 ?resta3
  case hya3 =>
    intro w' hSw
    obtain ⟨s1, s2⟩ := hSw
    go_simp
    try with_reducible rfl
  (try simp only [Act.put, List.getElem_toArray, List.getElem_cons_succ, List.getElem_cons_zero, List.setIfInBounds_toArray, List.set_cons_zero, List.set_cons_succ])
  refine' wpAnyH_take (i := 4) (v := _) rfl (by kernel_rfl) (by kernel_rfl) (by kernel_rfl) (fun _ _ _ h => h) (Or.inl ⟨by rfl, ?hya4⟩) H0 ?resta4
  case hya4 =>
    intro w' hSw
    obtain ⟨s1, s2⟩ := hSw
    go_simp
    try with_reducible rfl
  (try simp only [Act.put, List.getElem_toArray, List.getElem_cons_succ, List.getElem_cons_zero, List.setIfInBounds_toArray, List.set_cons_zero, List.set_cons_succ])
  refine' wpAnyH_take (i := 6) (v := _) rfl (by kernel_rfl) (by kernel_rfl) (by kernel_rfl) (fun _ _ _ h => h) (Or.inl ⟨by rfl, ?hya6⟩) H0 ?resta6
  case hya6 =>
    intro w' hSw
    obtain ⟨s1, s2⟩ := hSw
    go_simp
    try with_reducible rfl
  (try simp only [Act.put, List.getElem_toArray, List.getElem_cons_succ, List.getElem_cons_zero, List.setIfInBounds_toArray, List.set_cons_zero, List.set_cons_succ])
  refine wpAnyH_ready (rs := [5]) (by kernel_rfl) (by simp) (AllReadyH.cons rfl (fun K hK => ?_) AllReadyH.nil)
  go_simp
  refine hK.out _ _ (HS7.out _ (D4.trans (Chg.alloc [] w4.drew _) (by simp))) (fun H1 => ?_)
  clear hK K
  refine wpAnyH_ready (rs := [7]) (by kernel_rfl) (by simp) (AllReadyH.cons rfl (fun K hK => ?_) AllReadyH.nil)
  refine step_append_x _ rfl _ _ 25 rfl 5 i0 _ 1 1 Tryd.underlying25 hi0 hi1 hi2 hi3 rfl (by decide) (.slice (some ⟨w4.drew.heap.size, 0, none⟩) 0 0) 0 [] rfl HOW.out ao dn c (bvs d) rfl HBL.out HS4.out HC0.out (bvs_one _) (by unfold maxLen; omega) (by omega) ?_
  intro ao5 c5 w5 hown5 hgr5 hblk5
  rw [Nat.zero_add] at hown5 hblk5 ⊢
  rw [List.nil_append] at hown5
  have CG5 := Chg.grown hgr5 (S := [w4.drew.heap.size]) (fun x hx => .inl (by simpa [Value.ownBlock] using hx.symm))
  have C5 : Chg [] w4.drew w5 := (Chg.alloc [] w4.drew _).trans CG5 (fun x hx => .inr (Nat.le_of_eq (List.mem_singleton.1 hx).symm))
  have HC5 := Lib.hid C5
  have HN5 : Hid (∀ x, (Value.slice ao5 dn c5).ownBlock = some x → w4.drew.heap.size ≤ x) := Lib.hid (fun x hx => by
    rcases hblk5 with h | h <;> rw [h] at hx
    · exact Nat.le_of_eq (Option.some.inj hx)
    · rw [← Option.some.inj hx]
      exact (Chg.alloc [] w4.drew _).size)
  have HO5 := Lib.hid hown5
  clear hown5 hgr5 hblk5 CG5
  refine hK.out _ _ (HS7.out _ (D4.trans C5 (by simp))) (fun H2 => ?_)
  clear hK K
  obtain ⟨w6, hr6, M6⟩ := run_mapUpdate_x (keyOk_string Tryd.underlying9) Tryd.underlying66 (HMF.out w5 C5) nm (.slice ao5 dn c5)
  refine wpAnyH_ready (rs := [8]) (by kernel_rfl) (by simp) (AllReadyH.cons rfl (fun K hK => ?_) AllReadyH.nil)
  go_simp
  refine hK.out _ _ (HS7b.out w5 w6 C5 M6.chg) (fun H3 => ?_)
  clear hK K hr6
  refine wpAnyH_done (by kernel_rfl) ?_ _
  have HNN : Hid (nm ∉ (Fdel F nm).map (·.1) ∧ ((Fadd F nm d).map (·.1)).Nodup) := Lib.hid (by
    have h : (F.map (·.1)).Nodup := by obtain ⟨h, _⟩ := HF.out; exact h
    exact ⟨(Fadd_nodup (d := d) h).2, (Fadd_nodup h).1⟩)
  have hput : mput fv nm (.slice ao5 dn c5) = fv ++ [(nm, .slice ao5 dn c5)] := by
    unfold mput
    cases hi : midx fv nm with
    | none => rfl
    | some i =>
      obtain ⟨u, hu⟩ := midx_key hi
      have : nm ∈ fv.map (·.1) := List.mem_map.2 ⟨_, List.mem_of_getElem? hu, rfl⟩
      rw [HI4'.out.names] at this
      exact absurd this HNN.out.1
  rw [hput] at M6
  obtain ⟨S6, hS6⟩ : ∃ S6, S4 ++ (Value.slice ao5 dn c5).ownBlock.toList = S6 := ⟨_, rfl⟩
  have hfl : fv.length = (Fdel F nm).length := by have := congrArg List.length HI4'.out.names; simpa using this
  have H6 : Hid (FinderIs w6 b bf bp (Fadd F nm d) (Gad nm (Fdel F nm) (keysL d) 0) (fv ++ [(nm, .slice ao5 dn c5)]) pv S6) := Lib.hid (by
    rw [Gad_zero, ← hS6]
    refine (HI4'.out.chg D4 (by simp)).refile (T := []) HC5.out (by simp) M6 (by rw [Fadd, List.map_append, List.map_append, HI4'.out.names]; rfl) (fun i p q hp hq => ?_) (fun x hx => by simp [hx]) (fun p hp x hx => ?_) (fun x hx => ?_)
    · rcases Nat.lt_or_ge i fv.length with h | h
      · rw [List.getElem?_append_left h] at hp
        rw [Fadd, List.getElem?_append_left (by omega)] at hq
        exact (HI4'.out.fval i p q hp hq).chg (D4.trans HC5.out (by simp)) (by simp)
      · rw [List.getElem?_append_right h] at hp
        rw [Fadd, List.getElem?_append_right (by omega), ← hfl] at hq
        have h0 : i - fv.length = 0 := by have := (List.getElem?_eq_some_iff.1 hp).1; simp at this; omega
        rw [h0] at hp hq
        cases hp
        cases hq
        exact ⟨ao5, c5, by rw [HDN.out], by rw [HDN.out]; exact HO5.out⟩
    · rcases List.mem_append.1 hp with h | h
      · simp [HI4'.out.fo p h x hx]
      · simp at h
        subst h
        simp only [] at hx
        simp [hx]
    · rcases List.mem_append.1 hx with h | h
      · have h1 := HI4'.out.lt x h
        have h2 := (D4.trans HC5.out (by simp)).size
        omega
      · exact ownsRow_lt HO5.out x (by simpa using h))
  have HS6 : Hid (∀ x ∈ S6, x ∈ S ∨ w3.heap.size ≤ x) := Lib.hid (fun x hx => by
    rw [← hS6] at hx
    rcases List.mem_append.1 hx with h | h
    · exact HSS4.out x h
    · have h1 := HN5.out x (by simpa using h)
      have h2 := HC4.out.size
      have h3 := D4.size
      omega)
  have HC46 : Hid (Chg [bf] w4 w6) := Lib.hid H3.1
  have HDIG : Hid (∀ wr j, Chg S6 w6 wr → j < n → ∃ gl k R, ao' = some ⟨gl, 0, none⟩ ∧ (keysL d)[j]? = some k ∧ R.size = 32 ∧ R.all (·.oneCell') = true ∧ hkV k = .agg R ∧ (Instr.loadAt 32 (.pointer (some ⟨gl, j * 32, none⟩))).run Tryd.prog wr = .ok (.agg R) wr) := Lib.hid (fun wr j C hj => by
    obtain ⟨f, hf⟩ : ∃ f, (listL d)[j]? = some f := ⟨_, List.getElem?_eq_getElem (by rw [HN.out]; omega)⟩
    obtain ⟨gl, hgl⟩ := ownsRow_head HO3.out (by omega)
    have hlt3 := ownsRow_lt HO3.out
    have hno : ∀ x, (Value.slice ao' n c').ownBlock = some x → x ∉ S6 ∧ x ∉ S ∧ x ≠ bf := fun x hx => by
      have h1 := HB3.out x hx
      have h2 := hlt3 x hx
      refine ⟨fun hm => ?_, fun hm => ?_, fun e => ?_⟩
      · rcases HS6.out x hm with h | h
        · have := HSLT.out x h; omega
        · omega
      · have := HSLT.out x hm; omega
      · subst e
        rcases HSS4.out _ HI4'.out.ff with h | h
        · have := HSLT.out _ h; omega
        · omega
    refine ⟨gl, hkey f, hashC f, hgl, by rw [keysL, List.getElem?_map, hf]; rfl, hashC_size _, hashC_one _, by rw [hkV_hkey]; rfl, ?_⟩
    have hrow := ownsRow_chg (ownsRow_chg (ownsRow_chg HO3.out HC4.out (fun x hx => (hno x hx).2.1)) HC46.out (fun x hx => by simpa using (hno x hx).2.2)) C (fun x hx => (hno x hx).1)
    rw [← HN.out] at hrow
    exact load_of_list hrow hgl hf)
  have HN6 : Hid (∀ p ∈ pv, Gad nm (Fdel F nm) (keysL d) 0 p.1 ≠ []) := Lib.hid (by rw [Gad_zero]; exact HNE.out)
  have HCW : Hid (∀ wr, Chg S6 w6 wr → Chg S w wr) := Lib.hid (fun wr C => by
    have h1 := (HC3.out.mono (T := S) (by simp)).trans HC4.out (fun x hx => .inl hx)
    have h2 := h1.trans HC46.out (fun x hx => by
      simp at hx
      subst hx
      rcases HSS4.out _ HI4'.out.ff with h | h
      · exact .inl h
      · exact .inr (Nat.le_trans HC3.out.size h))
    exact h2.trans C (fun x hx => by
      rcases HS6.out x hx with h | h
      · exact .inl h
      · exact .inr (Nat.le_trans HC3.out.size h)))
  generalize fv ++ [(nm, Value.slice ao5 dn c5)] = fv6 at *
  clear hfl hput hS6 HC5 HO5 HN5 H0 H1 H2 H3 hb4 D4 HS7 HS7b HMF HOW HBL HS4 hi0 hi1 hi2 hi3 M6 C5 HNE HO3 HB3 HSEP HC0
  obtain ⟨i0, hi0, hi1, hi2, hi3⟩ := info_parts infoPlU
  go_wp2_with fail
  go_loopw [35] (fun v35 wr => ∃ (j : Nat) (pv : List (HKey × Value)) (Sj : List Nat), v35 = .int .i64 (j : Int) ∧ j ≤ n ∧ Hid (FinderIs wr b bf bp (Fadd F nm d) (Gad nm (Fdel F nm) (keysL d) j) fv6 pv Sj) ∧ Hid (∀ p ∈ pv, Gad nm (Fdel F nm) (keysL d) j p.1 ≠ []) ∧ Hid (Chg S6 w6 wr) ∧ Hid (∀ x ∈ Sj, x ∈ S6 ∨ w6.heap.size ≤ x)) (fun v35 _ => n - (intOf v35).toNat)
  case atStart => exact ⟨0, pv, S6, rfl, by omega, H6, HN6, Lib.hid (Chg.refl _ _), Lib.hid (fun x hx => .inl hx)⟩
  case round =>
    clear H6 HN6
    obtain ⟨j, pv, Sj, rfl, hjn, HI, HNE, HC, HSJ⟩ := hrel
    by_cases hlt : j < n
    · have e1 : (j : Int) < n := by omega
      have e0 : (0 : Int) ≤ j := by omega
      obtain ⟨gl, k, R, rfl, hk, hRs, hR1, hkv, hld⟩ := HDIG.out wr j HC.out hlt
      obtain ⟨Z, hZ, hz, hs, h1⟩ := zeroHash
      have HSTO := run_storeAt_new wr 32 Z R (by rw [hRs]; exact infoHash) (by rw [hs, hRs]) hR1
      clear hZ
      go_upto_region 11 with (first | (refine wpList_load_y 32 (.tmp 38) rfl rfl (.pointer (some ⟨gl, j * 32, none⟩)) (.agg R) hld rfl ?_) | (refine wpList_store_y 32 (.tmp 10) (.tmp 39) rfl rfl (.pointer (some ⟨wr.heap.size, 0, none⟩)) (.agg R) _ HSTO rfl rfl ?_))
      clear HSTO hld hz hs h1
      have CA := Chg.alloc [] wr (.cells R 32)
      have hq2 := heap_alloc_new wr (.cells R 32)
      have HIK := HI.out.chg CA (by simp)
      have HIK := HIK
      obtain ⟨q2, hqe⟩ : ∃ q2, wr.heap.size = q2 := ⟨_, rfl⟩
      have hq2S : ∀ x ∈ Sj, x < q2 := fun x hx => by have := HI.out.lt x hx; omega
      rw [hqe] at hq2 ⊢
      generalize wr.alloc (.cells R 32) = wk at *
      have HCK := Lib.hid (HC.out.trans CA (by simp))
      have HR := Lib.hid hRs
      have HKV := Lib.hid hkv
      have hb1 := HIK.map.2
      have hold := HIK.old k
      have hbS : ∀ x, (plOf pv k).ownBlock = some x → x ∈ Sj := fun x hx => by
        unfold plOf at hx
        cases hg : mget pv k with
        | none => rw [hg] at hx; cases hx
        | some v => rw [hg] at hx; exact HIK.po _ (mget_mem hg) x hx
      have hcb : ∀ x ∈ (plOf pv k).ownBlock.toList, x ≠ b ∧ x ≠ bp := fun x hx => by
        obtain ⟨cur, hcur⟩ := hold.block (by simpa using hx)
        refine ⟨fun e => ?_, fun e => ?_⟩
        · subst e; rw [HIK.head] at hcur; cases hcur
        · subst e; exact HIK.places.not_cells hcur
      have hbb : b ≠ bp := fun e => by subst e; exact HIK.places.not_cells HIK.head
      have D1 : Chg [] wk wk.drew := Chg.drewN [] wk 1
      have HIK := Lib.hid HIK
      have HME : Hid (∀ wx, Chg [] wk wx → ∃ (wy : World) (st : Nat), (Instr.mapEntry 67 (.map (some bp)) (.agg R)).run Tryd.prog wx = .ok (.tuple #[plOf pv k, .int .i64 st]) wy ∧ Chg [bp] wx wy ∧ MapSt hkV wy bp (mfill pv k (.slice none 0 0)) (mat pv k) st ∧ wy.heap.size = wx.heap.size) := Lib.hid (fun wx C => by
        have := run_mapEntry_x keyOk_hash Tryd.underlying67 (zero_pls wx) (HIK.out.places.chg C (by simp)) k
        rw [hkv] at this
        exact this)
      obtain ⟨gN, hgN⟩ : ∃ gN, (Gad nm (Fdel F nm) (keysL d) j k).length = gN := ⟨_, rfl⟩
      have hgl : gN ≤ 1000000 := by have := Gad_len nm (Fdel F nm) (keysL d) j k; omega
      have HOP : Hid (∀ wy, Chg [bp] wk wy → wy.ownsRow 0 57 2 (plOf pv k) gN (plvs (Gad nm (Fdel F nm) (keysL d) j k))) := Lib.hid (fun wy C => by
        have h := hold.chg C (fun x hx hm => (hcb x (by simp [hx])).2 (by simpa using hm))
        obtain ⟨a1, c1, e, h⟩ := h
        rw [e, ← hgN]
        exact h)
      have HCELL : Hid (∀ w', Chg (bp :: (plOf pv k).ownBlock.toList) wk w' → Chg (bp :: (plOf pv k).ownBlock.toList) wk w' ∧ w'.cell? ⟨b, 1, none⟩ = some (.map (some bp)) ∧ w'.heap[q2]? = some (.cells R 32 (0, 0))) := Lib.hid (fun w' C => by
        refine ⟨C, C.cell_some hb1 (fun hm => ?_), (C.block _ (lt_of_block hq2) (fun hm => ?_)).trans hq2⟩
        · rcases List.mem_cons.1 hm with h | h
          · exact hbb h
          · exact (hcb _ h).1 rfl
        · have : q2 ∈ Sj := by
            rcases List.mem_cons.1 hm with h | h
            · rw [h]; exact HIK.out.fp
            · exact hbS _ (by simpa using h)
          have := hq2S _ this
          omega)
      have HFIN : Hid (∀ wy w5 ao5 c5, Chg [bp] wk wy → w5.ownsRow 0 57 2 (.slice ao5 (gN + 1) c5) (gN + 1) (plvs (Gad nm (Fdel F nm) (keysL d) j k) ++ plvs [(nm, j)]) → wy.grownBy w5 (plOf pv k).ownBlock → ((Value.slice ao5 (gN + 1) c5).ownBlock = (plOf pv k).ownBlock ∨ (Value.slice ao5 (gN + 1) c5).ownBlock = some wy.heap.size) →
          Chg (bp :: (plOf pv k).ownBlock.toList) wk w5 ∧ ∀ w7, Chg [bp] w5 w7 → MapAt hkV w7 bp (mput pv k (.slice ao5 (gN + 1) c5)) →
            PVal w7 (.slice ao5 (gN + 1) c5) (Gad nm (Fdel F nm) (keysL d) j k ++ [(nm, j)]) ∧ (∀ x, (Value.slice ao5 (gN + 1) c5).ownBlock = some x → wk.heap.size ≤ x ∨ (plOf pv k).ownBlock = some x) ∧ (∀ x, (Value.slice ao5 (gN + 1) c5).ownBlock = some x → x < w7.heap.size) ∧ MapAt hkV w7 bp (mput pv k (.slice ao5 (gN + 1) c5)) ∧ Chg (bp :: (plOf pv k).ownBlock.toList) wk w7) := Lib.hid (fun wy w5 ao5 c5 C h1 hg hb => by
        have C5 : Chg (bp :: (plOf pv k).ownBlock.toList) wk w5 := (C.mono (T := bp :: (plOf pv k).ownBlock.toList) (by simp)).trans (Chg.grown hg (S := (plOf pv k).ownBlock.toList) (fun x hx => .inl (by simp [hx]))) (fun x hx => .inl (by simp [hx]))
        refine ⟨C5, fun w7 C7 M7 => ?_⟩
        have hn : ∀ x, (Value.slice ao5 (gN + 1) c5).ownBlock = some x → wk.heap.size ≤ x ∨ (plOf pv k).ownBlock = some x := fun x hx => by
          rcases hb with h | h <;> rw [h] at hx
          · exact .inr hx
          · exact .inl (by rw [← Option.some.inj hx]; exact C.size)
        have h7 := ownsRow_chg h1 C7 (fun x hx hm => by
          have hm' : x = bp := by simpa using hm
          rcases hn x hx with h | h
          · have := HIK.out.places.lt; omega
          · exact (hcb x (by simp [h])).2 hm')
        have hl : (Gad nm (Fdel F nm) (keysL d) j k ++ [(nm, j)]).length = gN + 1 := by rw [List.length_append, hgN]; rfl
        refine ⟨⟨ao5, c5, by rw [hl], by rw [hl, plvs_append]; exact h7⟩, hn, ownsRow_lt h7, M7, C5.trans C7 (fun x hx => .inl (by simp at hx; simp [hx]))⟩)
      have HEND : Hid (∀ w7 v1, (PVal w7 v1 (Gad nm (Fdel F nm) (keysL d) j k ++ [(nm, j)]) ∧ (∀ x, v1.ownBlock = some x → wk.heap.size ≤ x ∨ (plOf pv k).ownBlock = some x) ∧ (∀ x, v1.ownBlock = some x → x < w7.heap.size) ∧ MapAt hkV w7 bp (mput pv k v1) ∧ Chg (bp :: (plOf pv k).ownBlock.toList) wk w7) →
          ∃ S7, FinderIs w7 b bf bp (Fadd F nm d) (Gad nm (Fdel F nm) (keysL d) (j + 1)) fv6 (mput pv k v1) S7 ∧ (∀ p ∈ mput pv k v1, Gad nm (Fdel F nm) (keysL d) (j + 1) p.1 ≠ []) ∧ Chg S6 w6 w7 ∧ ∀ x ∈ S7, x ∈ S6 ∨ w6.heap.size ≤ x) := Lib.hid (fun w7 v1 ⟨h1, h2, h3, h4, h5⟩ => by
        have hTs : ∀ x ∈ bp :: (plOf pv k).ownBlock.toList, x ∈ Sj := fun x hx => by
          rcases List.mem_cons.1 hx with h | h
          · rw [h]; exact HIK.out.fp
          · exact hbS _ (by simpa using h)
        refine ⟨Sj ++ v1.ownBlock.toList, (HIK.out.put2 k h5 (fun x hx => ?_) h1 h2 (fun x hx => by simp [hx]) (fun x hx => by simp [hx]) (fun x hx => ?_) h4).congr (Gad_succ hk), fun p hp => ?_, HCK.out.trans h5 (fun x hx => HSJ.out x (hTs x hx)), fun x hx => ?_⟩
        · rcases List.mem_cons.1 hx with h | h
          · exact .inr (.inl h)
          · exact .inr (.inr (by simpa using h))
        · rcases List.mem_append.1 hx with h | h
          · exact Nat.lt_of_lt_of_le (HIK.out.lt x h) h5.size
          · exact h3 x (by simpa using h)
        · rcases mput_mem HIK.out.keys hp with rfl | ⟨hp, hpk⟩
          · simp only []
            rw [← Gad_succ (nm := nm) (F := Fdel F nm) hk k, if_pos rfl]
            simp
          · rw [← Gad_succ (nm := nm) (F := Fdel F nm) hk p.1, if_neg hpk]
            exact HNE.out p hp
        · rcases List.mem_append.1 hx with h | h
          · exact HSJ.out x h
          · rcases h2 x (by simpa using h) with h | h
            · exact .inr (Nat.le_trans HCK.out.size h)
            · exact HSJ.out x (hbS x h))
      clear hkv hRs hR1 CA hold hbS hqe hq2S hgN HNE HI HC HCK
      refine wp_region_held_drew (S := fun w' => Chg (bp :: (plOf pv k).ownBlock.toList) wk w' ∧ w'.cell? ⟨b, 1, none⟩ = some (.map (some bp)) ∧ w'.heap[q2]? = some (.cells R 32 (0, 0))) (by kernel_rfl) (⟨Chg.drewN _ wk 1, hb1, hq2⟩) (fun H0 => ?_)
      refine' wpAnyH_take (i := 0) (v := _) rfl (by kernel_rfl) (by kernel_rfl) (by kernel_rfl) (fun _ _ _ h => h) (Or.inl ⟨by rfl, ?hyb0⟩) H0 ?restb0
      case hyb0 =>
        intro w' hSw
        obtain ⟨s1, s2, s3⟩ := hSw
        go_simp
        try with_reducible rfl
      (try simp only [Act.put, List.getElem_toArray, List.getElem_cons_zero, List.setIfInBounds_toArray, List.set_cons_zero, List.set_cons_succ])
      refine' wpAnyH_take (i := 1) (v := _) rfl (by kernel_rfl) (by kernel_rfl) (by kernel_rfl) (fun _ _ _ h => h) (Or.inl ⟨by rfl, ?hyb1⟩) H0 ?restb1
      case hyb1 =>
        intro w' hSw
        obtain ⟨s1, s2, s3⟩ := hSw
        go_simp
        try with_reducible rfl
      (try simp only [Act.put, List.getElem_toArray, List.getElem_cons_succ, List.getElem_cons_zero, List.setIfInBounds_toArray, List.set_cons_zero, List.set_cons_succ])
      refine' wpAnyH_take (i := 2) (v := _) rfl (by kernel_rfl) (by kernel_rfl) (by kernel_rfl) (fun _ _ _ h => h) (Or.inl ⟨by rfl, ?hyb2⟩) H0 ?restb2
      case hyb2 =>
        intro w' hSw
        obtain ⟨s1, s2, s3⟩ := hSw
        go_simp
        try with_reducible rfl
      (try simp only [Act.put, List.getElem_toArray, List.getElem_cons_succ, List.getElem_cons_zero, List.setIfInBounds_toArray, List.set_cons_zero, List.set_cons_succ])
      refine' wpAnyH_take (i := 3) (v := _) rfl (by kernel_rfl) (by kernel_rfl) (by kernel_rfl) (fun _ _ _ h => h) (Or.inl ⟨by rfl, ?hyb3⟩) H0 ?restb3
      case hyb3 =>
        intro w' hSw
        obtain ⟨s1, s2, s3⟩ := hSw
        go_simp
        try with_reducible rfl
      (try simp only [Act.put, List.getElem_toArray, List.getElem_cons_succ, List.getElem_cons_zero, List.setIfInBounds_toArray, List.set_cons_zero, List.set_cons_succ])
      refine' wpAnyH_take (i := 4) (v := .agg R) rfl (by kernel_rfl) (by kernel_rfl) (by kernel_rfl) (fun _ _ _ h => h) (Or.inl ⟨by rfl, ?hyb4⟩) H0 ?restb4
      case hyb4 =>
        intro w' hSw
        obtain ⟨s1, s2, s3⟩ := hSw
        have hld := run_load_hash w' _ _ _ _ s3 HR.out
        simp [execOp, Act.eval, hld, Result.andThen]
      (try simp only [Act.put, List.getElem_toArray, List.getElem_cons_succ, List.getElem_cons_zero, List.setIfInBounds_toArray, List.set_cons_zero, List.set_cons_succ])
      refine' wpAnyH_take (i := 5) (v := _) rfl (by kernel_rfl) (by kernel_rfl) (by kernel_rfl) (fun _ _ _ h => h) (Or.inl ⟨by rfl, ?hyb5⟩) H0 ?restb5
      case hyb5 =>
        intro w' hSw
        obtain ⟨s1, s2, s3⟩ := hSw
        go_simp
        try with_reducible rfl
      (try simp only [Act.put, List.getElem_toArray, List.getElem_cons_succ, List.getElem_cons_zero, List.setIfInBounds_toArray, List.set_cons_zero, List.set_cons_succ])
      refine' wpAnyH_take (i := 6) (v := _) rfl (by kernel_rfl) (by kernel_rfl) (by kernel_rfl) (fun _ _ _ h => h) (Or.inl ⟨by rfl, ?hyb6⟩) H0 ?restb6
      case hyb6 =>
        intro w' hSw
        obtain ⟨s1, s2, s3⟩ := hSw
        go_simp
        try with_reducible rfl
      (try simp only [Act.put, List.getElem_toArray, List.getElem_cons_succ, List.getElem_cons_zero, List.setIfInBounds_toArray, List.set_cons_zero, List.set_cons_succ])
      refine' wpAnyH_take (i := 7) (v := _) rfl (by kernel_rfl) (by kernel_rfl) (by kernel_rfl) (fun _ _ _ h => h) (Or.inl ⟨by rfl, ?hyb7⟩) H0 ?restb7
      case hyb7 =>
        intro w' hSw
        obtain ⟨s1, s2, s3⟩ := hSw
        go_simp
        try with_reducible rfl
      (try simp only [Act.put, List.getElem_toArray, List.getElem_cons_succ, List.getElem_cons_zero, List.setIfInBounds_toArray, List.set_cons_zero, List.set_cons_succ])
      have CA8 : Chg [] wk (wk.alloc (.cells #[.string nm, .int .i64 j] 57)).drew := (Chg.alloc [] wk _).trans (Chg.drewN [] _ 1) (by simp)
      refine wpAnyH_ready (rs := [8]) (by kernel_rfl) (by simp) (AllReadyH.cons rfl (fun K hK => ?_) AllReadyH.nil)
      go_simp
      refine hK.out _ _ (HCELL.out _ (CA8.mono (by simp))) (fun H1 => ?_)
      clear hK K
      refine wpAnyH_ready (rs := [9]) (by kernel_rfl) (by simp) (AllReadyH.cons rfl (fun K hK => ?_) AllReadyH.nil)
      obtain ⟨wy, st, hme, Cy, Ms, hsz⟩ := HME.out ((wk.alloc (.cells #[.string nm, .int .i64 j] 57)).drew) (CA8)
      go_simp
      refine hK.out _ _ (HCELL.out _ (((CA8).mono (T := bp :: (plOf pv k).ownBlock.toList) (by simp)).trans Cy (fun x hx => .inl (by simp at hx; simp [hx])))) (fun H2 => ?_)
      clear hK K hme
      refine' wpAnyH_take (i := 10) (v := _) rfl (by kernel_rfl) (by kernel_rfl) (by kernel_rfl) (fun _ _ _ h => h) (Or.inl ⟨by rfl, ?hyb10⟩) H2 ?restb10
      case hyb10 =>
        intro w' hSw
        obtain ⟨s1, s2, s3⟩ := hSw
        go_simp
        try with_reducible rfl
      (try simp only [Act.put, List.getElem_toArray, List.getElem_cons_succ, List.getElem_cons_zero, List.setIfInBounds_toArray, List.set_cons_zero, List.set_cons_succ])
      refine' wpAnyH_take (i := 12) (v := _) rfl (by kernel_rfl) (by kernel_rfl) (by kernel_rfl) (fun _ _ _ h => h) (Or.inl ⟨by rfl, ?hyb12⟩) H2 ?restb12
      case hyb12 =>
        intro w' hSw
        obtain ⟨s1, s2, s3⟩ := hSw
        go_simp
        try with_reducible rfl
      (try simp only [Act.put, List.getElem_toArray, List.getElem_cons_succ, List.getElem_cons_zero, List.setIfInBounds_toArray, List.set_cons_zero, List.set_cons_succ])
      have HCY : Hid (Chg [bp] wk wy) := Lib.hid ((CA8.mono (T := [bp]) (by simp)).trans Cy (fun x hx => .inl hx))
      have HSY : Hid (Src wy (some ⟨wk.heap.size, 0, none⟩) (plvs [(nm, j)])) := Lib.hid (((src_row wk #[.string nm, .int .i64 j] 57 (0, 0)).chg (Chg.drewN [] _ 1) (by simp)).chg Cy (fun a ha => by
        cases ha
        intro hm
        have h1 := HIK.out.places.lt
        have h2 : wk.heap.size = bp := by simpa using hm
        omega))
      have MS := Lib.hid Ms
      clear Cy Ms hsz
      refine wpAnyH_ready (rs := [11]) (by kernel_rfl) (by simp) (AllReadyH.cons rfl (fun K hK => ?_) AllReadyH.nil)
      refine step_append_x _ rfl _ _ 119 rfl 57 i0 _ 2 24 Tryd.underlying119 hi0 hi1 hi2 hi3 rfl (by decide) (plOf pv k) gN (plvs (Gad nm (Fdel F nm) (keysL d) j k)) rfl (HOP.out _ HCY.out) (some ⟨wk.heap.size, 0, none⟩) 1 1 (plvs [(nm, j)]) rfl rfl HSY.out (fun h => by cases h) (plvs_one _) (by unfold maxLen; omega) (by omega) ?_
      intro ao5 c5 w5 hown5 hgr5 hblk5
      have HE5 := Lib.hid (HFIN.out _ w5 ao5 c5 HCY.out hown5 hgr5 hblk5)
      have MS5 := Lib.hid (MS.out.chg (Chg.grown hgr5 (S := (plOf pv k).ownBlock.toList) (fun x hx => .inl (by simp [hx]))) (fun hm => (hcb _ hm).2 rfl))
      clear hown5 hgr5 hblk5
      refine hK.out _ _ (HCELL.out _ HE5.out.1) (fun H3 => ?_)
      clear hK K
      obtain ⟨w7, hr7, C7, M7, hsz7⟩ := run_entryStore_x (P := Tryd.prog) (t := 67) MS5.out (.slice ao5 (gN + 1) c5)
      rw [mfill_modify] at M7
      have HE7 := Lib.hid (HE5.out.2 w7 C7 M7)
      refine wpAnyH_ready (rs := [13]) (by kernel_rfl) (by simp) (AllReadyH.cons rfl (fun K hK => ?_) AllReadyH.nil)
      go_simp
      refine hK.out _ _ (HCELL.out _ HE7.out.2.2.2.2) (fun H4 => ?_)
      clear hK K hr7
      refine wpAnyH_done (by kernel_rfl) ?_ _
      obtain ⟨S7, HF7, HN7, HC7, HS7⟩ := HEND.out w7 _ HE7.out
      clear hi0 hi1 hi2 hi3
      go_wp2_with fail
      go_roundw
      case rel => exact ⟨j + 1, _, S7, by go_num, by omega, Lib.hid HF7, Lib.hid HN7, Lib.hid HC7, Lib.hid HS7⟩
      case measure => simp [intOf] <;> omega
    · have e1 : ¬ ((j : Int) < n) := by omega
      have hj : j = (keysL d).length := by rw [HNL.out]; omega
      have HFE : Hid (Added w b (Fadd F nm d) S 0 (.returned (.int .i64 0)) wr) := Lib.hid (by
        refine ⟨rfl, Sj, ⟨HNN.out.2, fun p hp => ?_, bf, bp, fv6, pv, HI.out.congr (Gad_all hj), fun p hp => by rw [← Gad_all hj]; exact HNE.out p hp⟩, HCW.out wr HC.out, fun x hx => ?_⟩
        · rcases List.mem_append.1 hp with h | h
          · exact HL4.out p h
          · simp at h
            subst h
            exact HD4.out
        · rcases HSJ.out x hx with h | h
          · rcases HS6.out x h with h | h
            · exact .inl h
            · exact .inr (Nat.le_trans HC3.out.size h)
          · exact .inr (Nat.le_trans HC3.out.size (Nat.le_trans HC4.out.size (Nat.le_trans HC46.out.size h))))
      clear hj
      go_wp2_with fail
      go_ret
      exact HFE.out
theorem blk_add (b : Nat) (F : Files) (S : List Nat) (nm : ByteArray) (d : List UInt8) (ao : Option Addr) (c : Nat) (w : World) (hL : Laid w) (H : FinderAt w b F S) (hFl : F.length ≤ 29000) (hs : Src w ao (bvs d)) (hlc : d.length ≤ c) (hc0 : ao = none → c = 0) (hsep : ∀ a, ao = some a → a.block ∉ S) (hd4 : d.length ≤ 4096) :
    Calls Tryd.prog 31 #[.pointer (some ⟨b, 0, none⟩), .string nm, .slice ao d.length c] w (Added w b (Fadd F nm d) S 0) := blk_addN b F S nm d ao c w hL H hFl hs hlc hc0 (fun _ => hsep) hd4
end Go.Proofs.YtfdhpjflkimihaaDoor
