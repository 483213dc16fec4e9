/- Maps as lists of keys and values: looked up, stored into, deleted from, made. Of no program. No conditions beyond those that each statement types. -/
import Derived.Test.YtfdhpjflkimihaaDoorAgg
import Derived.MapKept
import Derived.WideKeyRuns
import Derived.ChangeMaps4
namespace Go.Proofs.YtfdhpjflkimihaaDoor
open Go.RowKit

/-- Where a key stands first. -/
def kidx {κ : Type} [DecidableEq κ] (ks : List κ) (k : κ) : Option Nat := ks.findIdx? fun x => decide (x = k)
/-- How keys of a type are found: by what they are. -/
structure KeyOk {κ : Type} [DecidableEq κ] (P : Program) (kt : TypeId) (enc : κ → Value) : Prop where
  check : ∀ (b : Bool) (k : κ) (w : World), (Instr.checkKey b 10000 kt (enc k)).run P w = .ok () w
  find : ∀ (k : κ) (es : List MapEntry) (ks : List κ) (w : World), es.map (·.key) = ks.map enc → (Instr.findKey kt (enc k) es).run P w = .ok ((kidx ks k).bind fun i => (es[i]?).map fun e => (i, e.val)) w
  same : ∀ k, Instr.sameBits 10000 (enc k) (enc k) = true

section
variable {κ : Type} [DecidableEq κ]
def midx (kvs : List (κ × Value)) (k : κ) : Option Nat := kidx (kvs.map (·.1)) k
def mget (kvs : List (κ × Value)) (k : κ) : Option Value := (midx kvs k).bind fun i => (kvs[i]?).map (·.2)
def mput (kvs : List (κ × Value)) (k : κ) (v : Value) : List (κ × Value) := match midx kvs k with
  | none => kvs ++ [(k, v)]
  | some i => kvs.set i (k, v)
def mdel (kvs : List (κ × Value)) (k : κ) : List (κ × Value) := match midx kvs k with
  | none => kvs
  | some i => kvs.eraseIdx i
/-- When the entries came. -/
structure Stamps (es : Array MapEntry) (clock : Nat) : Prop where
  nodup : (es.toList.map (·.born)).Nodup
  lt : ∀ n ∈ es.toList.map (·.born), n < clock
theorem Stamps.push {es : Array MapEntry} {c : Nat} (h : Stamps es c) (k v : Value) : Stamps (es.push { key := k, val := v, born := c }) (c + 1) := by
  refine ⟨?_, fun n hn => ?_⟩
  · rw [Array.toList_push, List.map_append, List.nodup_append]
    refine ⟨h.nodup, by simp, fun a ha b hb => ?_⟩
    have := h.lt a ha
    simp at hb
    omega
  · rw [Array.toList_push, List.map_append, List.mem_append] at hn
    rcases hn with hn | hn
    · have := h.lt n hn; omega
    · simp at hn; omega
theorem borns_modify (es : Array MapEntry) (i : Nat) (f : MapEntry → MapEntry) (hf : ∀ e, (f e).born = e.born) : (es.modify i f).toList.map (·.born) = es.toList.map (·.born) := by
  apply List.ext_getElem?
  intro j
  rw [List.getElem?_map, List.getElem?_map]
  simp only [Array.getElem?_toList, Array.getElem?_modify]
  split
  · cases es[j]? with
    | none => rfl
    | some e => simp [hf]
  · rfl
theorem Stamps.modify {es : Array MapEntry} {c : Nat} (h : Stamps es c) (i : Nat) (f : MapEntry → MapEntry) (hf : ∀ e, (f e).born = e.born) : Stamps (es.modify i f) c := by
  constructor
  · rw [borns_modify es i f hf]; exact h.nodup
  · rw [borns_modify es i f hf]; exact h.lt
theorem Stamps.erase {es : Array MapEntry} {c : Nat} (h : Stamps es c) (i : Nat) : Stamps (es.eraseIdxIfInBounds i) c := by
  have hs : ((es.eraseIdxIfInBounds i).toList.map (·.born)).Sublist (es.toList.map (·.born)) := by
    refine List.Sublist.map _ ?_
    unfold Array.eraseIdxIfInBounds
    split
    · rw [Array.toList_eraseIdx]; exact List.eraseIdx_sublist _ _
    · exact List.Sublist.refl _
  exact ⟨h.nodup.sublist hs, fun n hn => h.lt n (hs.mem hn)⟩
theorem Stamps.find {es : Array MapEntry} {c i : Nat} (h : Stamps es c) (hi : i < es.size) : es.findIdx? (fun e => ((e.born : Int) == (es[i].born : Int))) = some i := by
  rw [Array.findIdx?_eq_some_iff_getElem]
  refine ⟨hi, by simp, fun j hj => ?_⟩
  have hjs : j < es.size := by omega
  intro he
  have he' : es[j].born = es[i].born := by
    have := beq_iff_eq.1 he
    omega
  have hn := List.pairwise_iff_getElem.1 h.nodup j i (by simpa using hjs) (by simpa using hi) hj
  simp at hn
  exact hn he'
/-- A map in memory. -/
def MapAt (enc : κ → Value) (w : World) (b : Nat) (kvs : List (κ × Value)) : Prop :=
  ∃ es clock, w.heap[b]? = some (.map es clock) ∧ es.toList.map (fun e => (e.key, e.val)) = (kvs.map fun p => (enc p.1, p.2)) ∧ Stamps es clock
variable {enc : κ → Value}
omit [DecidableEq κ] in
theorem MapAt.lt {w : World} {b : Nat} {kvs : List (κ × Value)} (h : MapAt enc w b kvs) : b < w.heap.size := by
  obtain ⟨es, c, hb, _⟩ := h
  exact lt_of_block hb
omit [DecidableEq κ] in
theorem MapAt.chg {w w' : World} {b : Nat} {kvs : List (κ × Value)} {S : List Nat} (h : MapAt enc w b kvs) (C : Chg S w w') (hn : b ∉ S) : MapAt enc w' b kvs := by
  obtain ⟨es, c, hb, he⟩ := h
  exact ⟨es, c, (C.block b (lt_of_block hb) hn).trans hb, he⟩
theorem midx_lt {kvs : List (κ × Value)} {k : κ} {i : Nat} (h : midx kvs k = some i) : i < kvs.length := by
  unfold midx kidx at h
  have := List.of_findIdx?_eq_some h
  rw [List.getElem?_map] at this
  rcases Nat.lt_or_ge i kvs.length with h1 | h1
  · exact h1
  · rw [List.getElem?_eq_none h1] at this; cases this
omit [DecidableEq κ] in
theorem es_keys {es : Array MapEntry} {kvs : List (κ × Value)} (he : es.toList.map (fun e => (e.key, e.val)) = kvs.map fun p => (enc p.1, p.2)) : es.toList.map (·.key) = (kvs.map (·.1)).map enc := by
  have := congrArg (List.map Prod.fst) he
  simpa [List.map_map, Function.comp_def] using this
omit [DecidableEq κ] in
theorem es_val {es : Array MapEntry} {kvs : List (κ × Value)} (he : es.toList.map (fun e => (e.key, e.val)) = kvs.map fun p => (enc p.1, p.2)) (i : Nat) : (es.toList[i]?).map (fun e => (e.key, e.val)) = (kvs[i]?).map fun p => (enc p.1, p.2) := by
  rw [← List.getElem?_map, he, List.getElem?_map]
section
variable {P : Program} {w : World} {kt t e : TypeId} {b : Nat} {kvs : List (κ × Value)}
theorem find_x (K : KeyOk P kt enc) {es : Array MapEntry} (he : es.toList.map (fun e => (e.key, e.val)) = kvs.map fun p => (enc p.1, p.2)) (k : κ) (w : World) :
    (Instr.findKey kt (enc k) es.toList).run P w = .ok ((midx kvs k).bind fun i => (kvs[i]?).map fun p => (i, p.2)) w := by
  rw [K.find k es.toList _ w (es_keys he)]
  congr 1
  unfold midx
  cases kidx (kvs.map (·.1)) k with
  | none => rfl
  | some i =>
    have := es_val he i
    simp only [Option.bind_some]
    cases h1 : es.toList[i]? with
    | none => rw [h1] at this; cases h2 : kvs[i]? with | none => rfl | some p => rw [h2] at this; cases this
    | some x => rw [h1] at this; cases h2 : kvs[i]? with
      | none => rw [h2] at this; cases this
      | some p =>
        rw [h2] at this
        simp only [Option.map_some, Option.some.injEq, Prod.mk.injEq] at this
        simp [this.2]
theorem run_lookup_x (K : KeyOk P kt enc) (ht : P.underlying t = some (.map kt e)) {z : Value} (hz : (zeroValue e).run P w = .ok z w) (h : MapAt enc w b kvs) (k : κ) (ok : Bool) :
    (Instr.lookup t (.map (some b)) (enc k) ok).run P w = .ok (if ok then .tuple #[(mget kvs k).getD z, .bool (mget kvs k).isSome] else (mget kvs k).getD z) w := by
  obtain ⟨es, c, hb, he, hst⟩ := h
  have hf := find_x K he k w
  unfold mget
  cases hm : midx kvs k with
  | none =>
    rw [hm] at hf
    simp only [Option.bind_none] at hf
    cases ok <;> simp [Instr.lookup, run_underlying ht, MapKept.run_getObj_map hb, K.check, hf, hz, Result.andThen]
  | some i =>
    have hi := midx_lt hm
    rw [hm] at hf
    simp only [Option.bind_some, List.getElem?_eq_getElem hi, Option.map_some] at hf ⊢
    cases ok <;> simp [Instr.lookup, run_underlying ht, MapKept.run_getObj_map hb, K.check, hf, Result.andThen]
/-- A map that is nil. -/
theorem run_lookup_nil (K : KeyOk P kt enc) (ht : P.underlying t = some (.map kt e)) {z : Value} (hz : (zeroValue e).run P w = .ok z w) (k : κ) (ok : Bool) :
    (Instr.lookup t (.map none) (enc k) ok).run P w = .ok (if ok then .tuple #[z, .bool false] else z) w := by
  have hf := K.find k [] [] w rfl
  simp only [kidx, List.findIdx?_nil, Option.bind_none] at hf
  cases ok <;> simp [Instr.lookup, run_underlying ht, K.check, hf, hz, Result.andThen]
/-- What a store leaves. -/
structure MapSet (enc : κ → Value) (b : Nat) (kvs : List (κ × Value)) (w w' : World) : Prop where
  chg : Chg [b] w w'
  map : MapAt enc w' b kvs
  size : w'.heap.size = w.heap.size
omit [DecidableEq κ] in
theorem mapSet_of {es' : Array MapEntry} {o : Obj} (hb : w.heap[b]? = some o) (c' : Nat) (he : es'.toList.map (fun e => (e.key, e.val)) = kvs.map fun p => (enc p.1, p.2)) (hst : Stamps es' c') :
    MapSet enc b kvs w { w with heap := w.heap.setIfInBounds b (.map es' c') } := by
  obtain ⟨h1, h2⟩ := MapKept.heap_set (o' := .map es' c') hb
  exact ⟨⟨rfl, rfl, rfl, by simp, fun k _ hn => h2 k (by simpa using hn)⟩, ⟨es', c', h1, he, hst⟩, by simp⟩
theorem run_mapUpdate_x (K : KeyOk P kt enc) (ht : P.underlying t = some (.map kt e)) (h : MapAt enc w b kvs) (k : κ) (v : Value) :
    ∃ w', (Instr.mapUpdate t (.map (some b)) (enc k) v).run P w = .ok () w' ∧ MapSet enc b (mput kvs k v) w w' := by
  obtain ⟨es, c, hb, he, hst⟩ := h
  have hf := find_x K he k w
  unfold mput
  cases hm : midx kvs k with
  | none =>
    rw [hm] at hf
    simp only [Option.bind_none] at hf
    refine ⟨{ w with heap := w.heap.setIfInBounds b (.map (es.push { key := enc k, val := v, born := c }) (c + 1)) }, by simp [Instr.mapUpdate, run_underlying ht, MapKept.run_getObj_map hb, K.check, hf, MapKept.run_setObj_map _ hb, Result.andThen], mapSet_of hb _ ?_ (hst.push _ _)⟩
    simp [he]
  | some i =>
    have hi := midx_lt hm
    rw [hm] at hf
    simp only [Option.bind_some, List.getElem?_eq_getElem hi, Option.map_some] at hf
    have hl : es.toList.length = kvs.length := by have := congrArg List.length he; simpa using this
    have hi2 : i < es.size := by have h2 : es.size = kvs.length := by simpa using hl
                                 omega
    have hk : es[i].key = enc k := by
      have h1 := es_val he i
      rw [List.getElem?_eq_getElem hi, List.getElem?_eq_getElem (by simpa using hi2)] at h1
      simp only [Option.map_some, Option.some.injEq, Prod.mk.injEq] at h1
      have h2 : kvs[i].1 = k := by
        have := List.of_findIdx?_eq_some (show (kvs.map (·.1)).findIdx? (fun x => decide (x = k)) = some i from hm)
        rw [List.getElem?_map, List.getElem?_eq_getElem hi] at this
        simpa using this
      rw [← h2]
      exact h1.1
    have hs : (Instr.keyThatStays (enc k) (enc k)).run P w = .ok (enc k) w := by simp [Instr.keyThatStays, K.same]
    refine ⟨{ w with heap := w.heap.setIfInBounds b (.map (es.modify i fun e => { e with key := enc k, val := v }) (c)) }, by simp [Instr.mapUpdate, run_underlying ht, MapKept.run_getObj_map hb, K.check, hf, hi2, hk, hs, MapKept.run_setObj_map _ hb, Result.andThen], mapSet_of hb _ ?_ (hst.modify _ _ (fun _ => rfl))⟩
    apply List.ext_getElem?
    intro j
    have h1 := es_val he j
    rw [List.getElem?_map, List.getElem?_map, List.getElem?_set]
    simp only [Array.getElem?_toList, Array.getElem?_modify] at h1 ⊢
    by_cases hji : i = j
    · subst hji
      rw [if_pos rfl, if_pos hi]
      simp [hi2]
    · rw [if_neg hji, if_neg hji]
      exact h1
theorem run_delete_x (K : KeyOk P kt enc) (ht : P.underlying t = some (.map kt e)) (h : MapAt enc w b kvs) (k : κ) (ts : Array TypeId) (hts : ts[0]? = some t) (r : TypeId) :
    ∃ w', (Builtin.delete_ ts r #[.map (some b), enc k]).run P w = .ok (.tuple #[]) w' ∧ MapSet enc b (mdel kvs k) w w' := by
  obtain ⟨es, c, hb, he, hst⟩ := h
  have hf := find_x K he k w
  unfold mdel
  cases hm : midx kvs k with
  | none =>
    rw [hm] at hf
    simp only [Option.bind_none] at hf
    exact ⟨{ w with heap := w.heap.setIfInBounds b (.map (es) (c)) }, by simp [Builtin.delete_, hts, run_underlying ht, MapKept.run_getObj_map hb, K.check, hf, MapKept.run_setObj_map _ hb, Result.andThen], mapSet_of hb _ he hst⟩
  | some i =>
    have hi := midx_lt hm
    rw [hm] at hf
    simp only [Option.bind_some, List.getElem?_eq_getElem hi, Option.map_some] at hf
    refine ⟨{ w with heap := w.heap.setIfInBounds b (.map (es.eraseIdxIfInBounds i) (c)) }, by simp [Builtin.delete_, hts, run_underlying ht, MapKept.run_getObj_map hb, K.check, hf, MapKept.run_setObj_map _ hb, Result.andThen], mapSet_of hb _ ?_ (hst.erase _)⟩
    have hl : es.toList.length = kvs.length := by have := congrArg List.length he; simpa using this
    have hi2 : i < es.size := by have h2 : es.size = kvs.length := by simpa using hl
                                 omega
    simp only [Array.eraseIdxIfInBounds, hi2, dif_pos, Array.toList_eraseIdx]
    rw [Go.ChangeMaps.map_eraseIdx, he, ← Go.ChangeMaps.map_eraseIdx]
/-- A map whose entry i bears a stamp. -/
def MapSt (enc : κ → Value) (w : World) (b : Nat) (kvs : List (κ × Value)) (i st : Nat) : Prop :=
  ∃ es clock, w.heap[b]? = some (.map es clock) ∧ es.toList.map (fun e => (e.key, e.val)) = (kvs.map fun p => (enc p.1, p.2)) ∧ Stamps es clock ∧ ∃ h : i < es.size, es[i].born = st
omit [DecidableEq κ] in
theorem MapSt.chg {w w' : World} {b i st : Nat} {kvs : List (κ × Value)} {S : List Nat} (h : MapSt enc w b kvs i st) (C : Chg S w w') (hn : b ∉ S) : MapSt enc w' b kvs i st := by
  obtain ⟨es, c, hb, he⟩ := h
  exact ⟨es, c, (C.block b (lt_of_block hb) hn).trans hb, he⟩
/-- Where a key stands, or will stand. -/
def mat (kvs : List (κ × Value)) (k : κ) : Nat := (midx kvs k).getD kvs.length
def mfill (kvs : List (κ × Value)) (k : κ) (z : Value) : List (κ × Value) := match midx kvs k with
  | none => kvs ++ [(k, z)]
  | some _ => kvs
theorem run_mapEntry_x (K : KeyOk P kt enc) (ht : P.underlying t = some (.map kt e)) {z : Value} (hz : (zeroValue e).run P w = .ok z w) (h : MapAt enc w b kvs) (k : κ) :
    ∃ (w' : World) (st : Nat), (Instr.mapEntry t (.map (some b)) (enc k)).run P w = .ok (.tuple #[(mget kvs k).getD z, .int .i64 st]) w' ∧ Chg [b] w w' ∧ MapSt enc w' b (mfill kvs k z) (mat kvs k) st ∧ w'.heap.size = w.heap.size := by
  obtain ⟨es, c, hb, he, hst⟩ := h
  have hf := find_x K he k w
  have hl : es.size = kvs.length := by have := congrArg List.length he; simpa using this
  unfold mat mfill mget
  cases hm : midx kvs k with
  | none =>
    rw [hm] at hf
    simp only [Option.bind_none] at hf
    have hS := mapSet_of (kvs := kvs ++ [(k, z)]) (enc := enc) (es' := es.push { key := enc k, val := z, born := c }) hb (c + 1) (by simp [he]) (hst.push _ _)
    obtain ⟨h1, h2⟩ := MapKept.heap_set (o' := .map (es.push { key := enc k, val := z, born := c }) (c + 1)) hb
    refine ⟨{ w with heap := w.heap.setIfInBounds b (.map (es.push { key := enc k, val := z, born := c }) (c + 1)) }, c, by simp [Instr.mapEntry, run_underlying ht, MapKept.run_getObj_map hb, K.check, hf, hz, MapKept.run_setObj_map _ hb, Result.andThen, goInt], hS.chg, ⟨_, _, h1, by simp [he], hst.push _ _, by simp [hl], by simp [← hl]⟩, hS.size⟩
  | some i =>
    have hi := midx_lt hm
    rw [hm] at hf
    simp only [Option.bind_some, List.getElem?_eq_getElem hi, Option.map_some] at hf ⊢
    have hi2 : i < es.size := by omega
    have hk : es[i].key = enc k := by
      have h1 := es_val he i
      rw [List.getElem?_eq_getElem hi, List.getElem?_eq_getElem (by simpa using hi2)] at h1
      simp only [Option.map_some, Option.some.injEq, Prod.mk.injEq] at h1
      have h2 : kvs[i].1 = k := by
        have := List.of_findIdx?_eq_some (show (kvs.map (·.1)).findIdx? (fun x => decide (x = k)) = some i from hm)
        rw [List.getElem?_map, List.getElem?_eq_getElem hi] at this
        simpa using this
      rw [← h2]
      exact h1.1
    have hs : (Instr.keyThatStays (enc k) (enc k)).run P w = .ok (enc k) w := by simp [Instr.keyThatStays, K.same]
    have hmod : (es.modify i fun e => { e with key := enc k }).toList.map (fun e => (e.key, e.val)) = kvs.map fun p => (enc p.1, p.2) := by
      rw [← he]
      apply List.ext_getElem?
      intro j
      rw [List.getElem?_map, List.getElem?_map]
      simp only [Array.getElem?_toList, Array.getElem?_modify]
      by_cases hji : i = j
      · subst hji
        simp [hi2, hk]
      · rw [if_neg hji]
    have hS := mapSet_of (kvs := kvs) (enc := enc) (es' := es.modify i fun e => { e with key := enc k }) hb c hmod (hst.modify _ _ (fun _ => rfl))
    obtain ⟨h1, h2⟩ := MapKept.heap_set (o' := .map (es.modify i fun e => { e with key := enc k }) c) hb
    refine ⟨{ w with heap := w.heap.setIfInBounds b (.map (es.modify i fun e => { e with key := enc k }) (c)) }, es[i].born, by simp [Instr.mapEntry, run_underlying ht, MapKept.run_getObj_map hb, K.check, hf, hi2, hk, hs, MapKept.run_setObj_map _ hb, Result.andThen, goInt], hS.chg, ⟨_, _, h1, hmod, hst.modify _ _ (fun _ => rfl), by simpa using hi2, by simp [Array.getElem_modify]⟩, hS.size⟩
omit [DecidableEq κ] in
theorem run_entryStore_x {i st : Nat} (h : MapSt enc w b kvs i st) (v : Value) :
    ∃ w', (Instr.entryStore t (.map (some b)) (.int .i64 st) v).run P w = .ok () w' ∧ Chg [b] w w' ∧ MapAt enc w' b (kvs.modify i fun p => (p.1, v)) ∧ w'.heap.size = w.heap.size := by
  obtain ⟨es, c, hb, he, hst, hi, hborn⟩ := h
  have hfi := hst.find hi
  rw [hborn] at hfi
  have ha : (asInt (.int .i64 (st : Int))).run P w = .ok (st : Int) w := rfl
  have hmod : (es.modify i fun e => { e with val := v }).toList.map (fun e => (e.key, e.val)) = (kvs.modify i fun p => (p.1, v)).map fun p => (enc p.1, p.2) := by
    apply List.ext_getElem?
    intro j
    have h1 := es_val he j
    rw [List.getElem?_map, List.getElem?_map, List.getElem?_modify]
    simp only [Array.getElem?_toList, Array.getElem?_modify] at h1 ⊢
    by_cases hji : i = j
    · subst hji
      rw [if_pos rfl]
      cases h2 : kvs[i]? with
      | none => rw [h2] at h1; simp [hi] at h1
      | some p => rw [h2] at h1; simp [hi] at h1 ⊢; exact h1.1
    · rw [if_neg hji]
      cases h2 : kvs[j]? with
      | none => rw [h2] at h1; simpa [hji] using h1
      | some p => rw [h2] at h1; simpa [hji] using h1
  have hS := mapSet_of (kvs := kvs.modify i fun p => (p.1, v)) (enc := enc) hb c hmod (hst.modify _ _ (fun _ => rfl))
  exact ⟨{ w with heap := w.heap.setIfInBounds b (.map (es.modify i fun e => { e with val := v }) (c)) }, by simp [Instr.entryStore, MapKept.run_getObj_map hb, ha, hfi, MapKept.run_setObj_map _ hb, Result.andThen], hS.chg, hS.map, hS.size⟩
omit [DecidableEq κ] in
theorem mapAt_made (w : World) : MapAt enc (w.alloc (.map #[] 0)) w.heap.size [] := ⟨#[], 0, heap_alloc_new w _, rfl, ⟨by simp, by simp⟩⟩
omit [DecidableEq κ] in
theorem MapAt.len {w : World} {b : Nat} (h : MapAt enc w b kvs) : ∃ es c, w.heap[b]? = some (.map es c) ∧ es.size = kvs.length := by
  obtain ⟨es, c, hb, he, _⟩ := h
  exact ⟨es, c, hb, by have := congrArg List.length he; simpa using this⟩
end
end

theorem bytes_beq (a b : ByteArray) : (a == b) = decide (a = b) := by
  rw [beq_toListBytes, Bool.eq_iff_iff, beq_iff_eq, decide_eq_true_iff]
  constructor
  · intro h
    rw [ByteArray.toList_eq, ByteArray.toList_eq] at h
    exact ByteArray.ext (Array.toList_inj.1 h)
  · intro h; rw [h]
/-- Keys that are texts. -/
theorem keyOk_string {P : Program} {kt : TypeId} (hk : P.underlying kt = some .string) : KeyOk P kt (fun s : ByteArray => Value.string s) := by
  refine ⟨fun b k w => MapKept.run_checkKey hk (show MapKept.IsKey .string (.string k) from trivial) b 9999, fun k es ks w he => ?_, fun k => ?_⟩
  · have key : ∀ (es : List MapEntry) (ks : List ByteArray) (j : Nat), es.map (·.key) = ks.map (fun s => Value.string s) → Instr.findNow .string (.string k) es j = some ((kidx ks k).bind fun i => (es[i]?).map fun e => (j + i, e.val)) := by
      intro es
      induction es with
      | nil => intro ks j h; cases ks with | nil => rfl | cons a r => cases h
      | cons e es ih =>
        intro ks j h
        cases ks with
        | nil => cases h
        | cons a r =>
          simp only [List.map_cons, List.cons.injEq] at h
          simp only [Instr.findNow, h.1, Instr.sameNow, bytes_beq]
          rw [kidx, List.findIdx?_cons]
          by_cases hka : k = a
          · subst hka
            simp
          · rw [decide_eq_false hka, decide_eq_false (fun h => hka h.symm)]
            simp only [Bool.false_eq_true, if_false]
            rw [ih r (j + 1) h.2, kidx]
            cases r.findIdx? fun x => decide (x = k) with
            | none => rfl
            | some i => simp [Nat.add_assoc, Nat.add_comm 1 i]
    have := key es ks 0 he
    rw [MapKept.run_findKey hk this]
    congr 1
    cases kidx ks k <;> simp
  · show (k == k) = true
    rw [bytes_beq]
    simp
end Go.Proofs.YtfdhpjflkimihaaDoor
