/- block.List, walked. No conditions beyond those that each statement types. -/
import Derived.Test.YtfdhpjflkimihaaDoorBkJg
import Derived.Test.YtfdhpjflkimihaaDoorBkH
import Derived.Test.YtfdhpjflkimihaaDoorAggY
namespace Go.Proofs.YtfdhpjflkimihaaDoor
open Go.RowKit

/-- Digests as cells. -/
def hvs (L : List (Nat → UInt8)) : List Value := L.flatMap fun f => (hashC f).toList
theorem hvs_append (a b : List (Nat → UInt8)) : hvs (a ++ b) = hvs a ++ hvs b := by simp [hvs]
theorem hvs_single (f : Nat → UInt8) : hvs [f] = (hashC f).toList := by simp [hvs]
theorem hvs_length (L : List (Nat → UInt8)) : (hvs L).length = L.length * 32 := by
  induction L with
  | nil => rfl
  | cons f L ih =>
    show ((hashC f).toList ++ hvs L).length = _
    rw [List.length_append, ih, Array.length_toList, hashC_size, List.length_cons]
    omega
theorem hvs_one (L : List (Nat → UInt8)) : ∀ u ∈ hvs L, u.oneCell' = true := by
  intro u hu
  obtain ⟨f, _, h⟩ := List.mem_flatMap.1 hu
  exact Array.all_eq_true_iff_forall_mem.1 (hashC_one f) u (by simpa using h)
/-- The digests of a file's blocks; none: it is too long. -/
def listL (l : List UInt8) : List (Nat → UInt8) := (partsL l).map digest
def listO (l : List UInt8) : Option (List (Nat → UInt8)) := if 4096 < l.length then none else some (listL l)
theorem listL_length (l : List UInt8) : (listL l).length = cntN l.length := by simp [listL, partsL_length]
theorem listL_take {l : List UInt8} {k : Nat} (h : k < cntN l.length) : (listL l).take (k + 1) = (listL l).take k ++ [digest (partL l k)] := by
  have h1 : (listL l)[k]? = some (digest (partL l k)) := by rw [listL, List.getElem?_map, partsL_get h]; rfl
  rw [List.take_add_one, h1]
  rfl
/-- What List hands back. -/
def Listed (w : World) (r : Option (List (Nat → UInt8))) (e : Ending) (w' : World) : Prop :=
  Chg [] w w' ∧ match r with
    | none => e = .returned (.tuple #[.slice none 0 0, .int .i64 3])
    | some L => ∃ ao c, e = .returned (.tuple #[.slice ao L.length c, .int .i64 0]) ∧ w'.ownsRow 0 32 32 (.slice ao L.length c) L.length (hvs L) ∧ ∀ k, (Value.slice ao L.length c).ownBlock = some k → w.heap.size ≤ k
theorem infoHashU : (Tryd.prog.info? 32).map (fun i => (i.zero, i.size, i.bytes)) = some (some (.agg (hashC fun _ => 0)), 32, 32) := by kernel_rfl
theorem src_row (w : World) (R : Array Value) (t : TypeId) (fr : Nat × Nat) : Src (w.alloc (.cells R t fr)) (some ⟨w.heap.size, 0, none⟩) R.toList := by
  refine ⟨fun e => (by cases e), fun a e j u hu => ?_⟩
  cases e
  rw [addr_add0, cell_of_row _ _ _ _ _ _ (heap_alloc_new w _)]
  simpa using hu

set_option maxRecDepth 100000 in
theorem fold_hash (f : Nat → UInt8) : Array.foldl (fun (cs : Array Value) (x : Value × Nat) => cs.setIfInBounds x.snd x.fst) #[Value.int .u8 0, Value.int .u8 0, Value.int .u8 0, Value.int .u8 0, Value.int .u8 0, Value.int .u8 0, Value.int .u8 0, Value.int .u8 0, Value.int .u8 0, Value.int .u8 0, Value.int .u8 0, Value.int .u8 0, Value.int .u8 0, Value.int .u8 0, Value.int .u8 0, Value.int .u8 0, Value.int .u8 0, Value.int .u8 0, Value.int .u8 0, Value.int .u8 0, Value.int .u8 0, Value.int .u8 0, Value.int .u8 0, Value.int .u8 0, Value.int .u8 0, Value.int .u8 0, Value.int .u8 0, Value.int .u8 0, Value.int .u8 0, Value.int .u8 0, Value.int .u8 0, Value.int .u8 0] (hashC f).zipIdx 0 32 = hashC f := by
  kernel_rfl

set_option maxRecDepth 100000 in
set_option maxHeartbeats 4000000 in
theorem blk_List (l : List UInt8) (ao : Option Addr) (c : Nat) (w : World) (hL : Laid w) (hs : Src w ao (bvs l)) (hlc : l.length ≤ c) :
    Calls Tryd.prog 20 #[.slice ao l.length c] w (Listed w (listO l)) := by
  by_cases hbig : 4096 < l.length
  · have hr : listO l = none := by unfold listO; rw [if_pos hbig]
    rw [hr]
    clear hr
    have h' : (4096 : Int) < l.length := by omega
    go_enter Tryd.func20, Tryd.ntmps20
    go_wp2_with fail
    go_ret2
    exact ⟨Chg.refl _ _, rfl⟩
  · have hl : l.length ≤ 4096 := by omega
    have h' : ¬ (4096 : Int) < l.length := by omega
    have hr : listO l = some (listL l) := by unfold listO; rw [if_neg hbig]
    rw [hr]
    have hz : cntZ l.length = cntN l.length := by unfold cntZ; rw [if_neg (by omega)]; rfl
    have K := blk_count l.length w
    rw [hz] at K
    have hC := listL_length l
    have hcl := cntN_le l.length
    have HSTEP : Hid (∀ k wr, k < cntN l.length → Chg [] w wr → ∃ a, ao = some a ∧
        Calls Tryd.prog 56 #[.slice ao l.length c, .int .i64 k] wr (fun e w' => e = .returned (.slice (some (a.add (k * bszN l.length))) (partL l k).length (c - k * bszN l.length)) ∧ wr = w') ∧
        Calls Tryd.prog 39 #[.slice (some (a.add (k * bszN l.length))) (partL l k).length (c - k * bszN l.length)] wr (fun e w' => e = .returned (hashV (digest (partL l k))) ∧ Chg [] wr w')) := Lib.hid (fun k wr hk C => by
      have hlt := (cntN_lt hl k).1 hk
      have hpl := partL_length l k
      obtain ⟨a, rfl, hab⟩ := hs.lt (by rw [bvs_length]; omega)
      have hab2 := C.size
      refine ⟨a, rfl, blk_part l a c k hl hk hlc wr, sha_digest (partL l k) _ _ wr (hL.chg C (by simp)) (part_src (hs.chg C (by simp)) k) (by omega) (by have := bszN_le l.length; omega) (fun b hb => ?_)⟩
      cases hb
      rw [addr_add_block]
      omega)
    have HTAKE := Lib.hid (fun k (h : k < cntN l.length) => listL_take h)
    have HCL := Lib.hid hC
    generalize cntN l.length = N at *
    generalize l.length = n at *
    have HK := Lib.hid K
    clear K hz hr hbig hC hs hL hlc hl
    go_enter Tryd.func20, Tryd.ntmps20
    go_wp2_with fail
    refine HK.out.mono ?_
    rintro e w' ⟨rfl, rfl⟩
    go_wp2_with fail
    go_loopw [4, 12] (fun v4 v12 wr => ∃ (k c' : Nat) (ao' : Option Addr), v4 = .slice ao' k c' ∧ v12 = .int .i64 k ∧ k ≤ N ∧ Hid (wr.ownsRow 0 32 32 (.slice ao' k c') k (hvs ((listL l).take k))) ∧ Hid (∀ b, (Value.slice ao' k c').ownBlock = some b → w.heap.size ≤ b) ∧ Hid (Chg [] w wr)) (fun _ v _ => N - (intOf v).toNat)
    case atStart => exact ⟨0, 0, none, rfl, rfl, Nat.zero_le _, Lib.hid (World.ownsRow_nil _ _ _ _), Lib.hid (fun b hb => by cases hb), Lib.hid (Chg.refl _ _)⟩
    case round =>
      obtain ⟨k, c', ao', rfl, rfl, hk, HO, HNW, HC⟩ := hrel
      by_cases hlt : k < N
      · have hlt' : (k : Int) < N := by omega
        have hk0 : (0 : Int) ≤ k := by omega
        obtain ⟨a, rfl, K1, K2⟩ := HSTEP.out k wr hlt HC.out
        obtain ⟨f, hf⟩ : ∃ f, digest (partL l k) = f := ⟨_, rfl⟩
        have HT := Lib.hid (HTAKE.out k hlt)
        obtain ⟨R, hR⟩ : ∃ R, hashC f = R := ⟨_, rfl⟩
        have hRs : R.size = 32 := by rw [← hR]; exact hashC_size _
        have hRV : hashV f = .agg R := by rw [hashV, hR]
        have hfold := fold_hash f
        rw [hR] at hfold
        rw [hf, hRV] at K2
        have HR : Hid (hvs ((listL l).take k) ++ R.toList = hvs ((listL l).take (k + 1))) := Lib.hid (by rw [HT.out, hf, hvs_append, hvs_single, hR])
        have HR1 : Hid (∀ u ∈ R.toList, u.oneCell' = true) := Lib.hid (by rw [← hR, ← hvs_single]; exact hvs_one _)
        have HK1 := Lib.hid K1
        have HK2 := Lib.hid K2
        clear K1 K2 hf hR hRV HT
        generalize (partL l k).length = X at *
        generalize a.add (k * bszN n) = a2 at *
        generalize c - k * bszN n = c2 at *
        go_wp2_with fail
        refine HK1.out.mono ?_
        rintro e w' ⟨rfl, rfl⟩
        go_wp2_with fail
        refine HK2.out.mono ?_
        rintro e w2 ⟨rfl, C2⟩
        obtain ⟨ip, hip, hipz, hips, hipb⟩ := info_parts infoHashU
        have hown := ownsRow_chg (ownsRow_chg HO.out C2 (by simp)) (Chg.alloc [] w2 (.cells R 32)) (by simp)
        have hsrc := src_row w2 R 32 (0, 0)
        have hlen : R.toList.length = 1 * 32 := by rw [Array.length_toList, hRs]
        have hzs : (Value.agg (hashC fun _ => 0)).cells.size = 32 := hashC_size _
        go_wp2_with (at_builtin; go_loud (refine wpList_append_y (.tmp 15) (.tmp 20) 27 rfl rfl 32 ip _ 32 32 Tryd.underlying27 hip hipz hips hipb hzs (by decide) (.slice ao' k c') k (hvs ((listL l).take k)) hown (some ⟨w2.heap.size, 0, none⟩) 1 1 R.toList hlen hsrc (fun h => by cases h) HR1.out (by unfold maxLen; omega) (by omega) rfl rfl ?_))
        intro ao2 c3 w5 hown5 hgr hblk
        have CA := Chg.alloc (Value.slice ao' k c').ownBlock.toList w2 (.cells R 32)
        have CG := Chg.grown hgr (S := (Value.slice ao' k c').ownBlock.toList) (fun b hb => .inl (by simp [hb]))
        have HC5 : Hid (Chg [] w w5) := Lib.hid ((HC.out.trans C2 (by simp)).trans (CA.trans CG (fun b hb => .inl hb)) (fun b hb => .inr (HNW.out b (by simpa using hb))))
        have HN5 : Hid (∀ b, (Value.slice ao2 (k + 1) c3).ownBlock = some b → w.heap.size ≤ b) := Lib.hid (fun b hb => by
          rcases hblk with h | h <;> rw [h] at hb
          · exact HNW.out b hb
          · simp at hb
            have h1 := HC.out.size
            have h2 := C2.size
            omega)
        have HO5 : Hid (w5.ownsRow 0 32 32 (.slice ao2 (k + 1) c3) (k + 1) (hvs ((listL l).take (k + 1)))) := Lib.hid (by rw [← HR.out]; exact hown5)
        clear hown5 hgr hblk hown hsrc hlen hzs hipz hips hipb hip CA CG hfold hRs C2
        go_wp2_with fail
        go_roundw
        case rel => exact ⟨k + 1, c3, ao2, rfl, by go_num, by omega, HO5, HN5, HC5⟩
        case measure => simp [intOf] <;> omega
      · have hge : ¬ (k : Int) < N := by omega
        have hkN : k = N := by omega
        have HOF := Lib.hid HO.out
        have HLT : Hid ((listL l).take k = listL l) := Lib.hid (List.take_of_length_le (by rw [HCL.out]; omega))
        go_wp2_with fail
        go_ret2
        refine ⟨HC.out, ao', c', ?_, ?_, ?_⟩
        · rw [HCL.out, ← hkN]; rfl
        · rw [HCL.out, ← hkN]
          have := HO.out
          rwa [HLT.out] at this
        · rw [HCL.out, ← hkN]; exact HNW.out
end Go.Proofs.YtfdhpjflkimihaaDoor
