/- Digests as keys of a map. No conditions beyond those that each statement types. -/
import Derived.Test.YtfdhpjflkimihaaDoorBkO
import Derived.Test.YtfdhpjflkimihaaDoorMap
namespace Go.Proofs.YtfdhpjflkimihaaDoor
open Go.RowKit

/-- A digest, as a key. -/
abbrev HKey := { l : List UInt8 // l.length = 32 }
def hkV (h : HKey) : Value := hashV fun i => h.1.getD i 0
def hkey (f : Nat → UInt8) : HKey := ⟨(List.range 32).map f, by simp⟩
theorem hkV_hkey (f : Nat → UInt8) : hkV (hkey f) = hashV f := by
  unfold hkV hashV
  rw [words8 (g := f) (fun i hi => by simp [hkey, List.getD, hi])]
theorem sameHash_key (a b : HKey) : sameHash (fun i => a.1.getD i 0) (fun i => b.1.getD i 0) = decide (a = b) := by
  rw [Bool.eq_iff_iff, decide_eq_true_iff]
  unfold sameHash
  rw [List.all_eq_true]
  constructor
  · intro h
    apply Subtype.ext
    apply List.ext_getElem?
    intro i
    rcases Nat.lt_or_ge i 32 with hi | hi
    · have h1 := h i (List.mem_range.2 hi)
      have ha : i < a.1.length := by rw [a.2]; exact hi
      have hb : i < b.1.length := by rw [b.2]; exact hi
      simp only [List.getD, List.getElem?_eq_getElem ha, List.getElem?_eq_getElem hb, Option.getD_some, beq_iff_eq] at h1
      rw [List.getElem?_eq_getElem ha, List.getElem?_eq_getElem hb, h1]
    · rw [List.getElem?_eq_none (by rw [a.2]; exact hi), List.getElem?_eq_none (by rw [b.2]; exact hi)]
  · intro h i _
    rw [h]
    simp
theorem sameHash_hkey (f g : Nat → UInt8) : sameHash f g = decide (hkey f = hkey g) := by
  rw [← sameHash_key]
  unfold sameHash
  rw [Bool.eq_iff_iff, List.all_eq_true, List.all_eq_true]
  constructor <;>
  · intro h i hi
    have := h i hi
    have hi' := List.mem_range.1 hi
    simpa [hkey, List.getD, hi'] using this
theorem run_equal_hash (a b : HKey) (w : World) : (Op.equal 32 (hkV a) (hkV b)).run Tryd.prog w = .ok (decide (a = b)) w := by
  obtain ⟨i, hi⟩ := u8_info
  have := run_equalIn_array (P := Tryd.prog) w 9999 (hashC fun i => a.1.getD i 0) (hashC fun i => b.1.getD i 0) Tryd.underlying32 hi
  rw [u8_cells, run_eq_bytes _ _ w 9998 _ (fun j hj => List.mem_range.1 hj)] at this
  rw [← sameHash_key]
  exact this
theorem checkKey_hash (f : Nat → UInt8) (em : Bool) (w : World) : (Instr.checkKey em 10000 32 (hashV f)).run Tryd.prog w = .ok () w := by
  obtain ⟨i, hi⟩ := u8_info
  rw [show (10000 : Nat) = 9998 + 1 + 1 from rfl, hashV, Instr.checkKey]
  simp only [Sem.run_bind, run_underlying Tryd.underlying32, Result.andThen_ok]
  simp only [Std.Legacy.Range.forIn_eq_forIn_range', Std.Legacy.Range.size, Nat.sub_zero, Nat.add_one_sub_one, Nat.div_one]
  have hall : ∀ j ∈ List.range' 0 32, j < 32 := by
    intro j hj
    rw [← List.range_eq_range'] at hj
    exact List.mem_range.1 hj
  generalize List.range' 0 32 = is at hall
  induction is with
  | nil => simp
  | cons j is ih =>
    have hj := hall j (by simp)
    have hsz : i.size = 1 := by
      have := u8_cells
      have h2 : Tryd.prog.info? 5 = some i := hi
      have h3 : (Tryd.prog.info? 5).map (·.size) = some 1 := by kernel_rfl
      rw [h2] at h3
      simpa using h3
    have p1 := run_part_plain (P := Tryd.prog) w u8_plain (off := j * 1) (by rw [Nat.mul_one]; exact hashC_get f j hj)
    have p2 := MapKept.run_checkKey (P := Tryd.prog) (w := w) (k := bv (f j)) Tryd.underlying5 (show MapKept.IsKey (.int .u8) (.int .u8 ((f j).toNat : Int)) from rfl) em 9998
    simp only [List.forIn_cons, Sem.run_bind, run_sizeOf w hi, Result.andThen_ok, u8_cells, p1, p2, Sem.run_pure]
    exact ih (fun y hy => hall y (by simp [hy]))
theorem sameBits_hash (f : Nat → UInt8) : Instr.sameBits 10000 (hashV f) (hashV f) = true := by
  rw [hashV, show (10000 : Nat) = 9999 + 1 from rfl, Instr.sameBits]
  simp only [beq_self_eq_true, Bool.true_and, List.all_eq_true]
  rintro ⟨x, y⟩ hxy
  obtain ⟨i, hi⟩ := List.mem_iff_getElem?.1 hxy
  rw [List.getElem?_zip_eq_some] at hi
  obtain ⟨h1, h2⟩ := hi
  have : x = y := by rw [h1] at h2; exact Option.some.inj h2
  subst this
  have h32 : i < 32 := by
    have := (List.getElem?_eq_some_iff.1 h1).1
    simpa [hashC_size] using this
  have h3 := hashC_get f i h32
  rw [Array.getElem?_toList, h3] at h1
  cases h1
  simp [Instr.sameBits]
theorem keyOk_hash : KeyOk Tryd.prog 32 hkV := by
  refine ⟨fun b k w => checkKey_hash _ b w, fun k es ks w he => ?_, fun k => sameBits_hash _⟩
  rw [run_findKey_eq w (by kernel_rfl)]
  have key : ∀ (es : List MapEntry) (ks : List HKey) (j : Nat), es.map (·.key) = ks.map hkV → (Instr.findAsking 32 (hkV k) es j).run Tryd.prog w = .ok ((kidx ks k).bind fun i => (es[i]?).map fun e => (j + i, e.val)) w := by
    intro es
    induction es with
    | nil => intro ks j h; cases ks with | nil => rfl | cons a r => cases h
    | cons e es ih =>
      intro ks j h
      cases ks with
      | nil => cases h
      | cons a r =>
        simp only [List.map_cons, List.cons.injEq] at h
        simp only [Instr.findAsking, Sem.run_bind, h.1, run_equal_hash, Result.andThen_ok]
        rw [kidx, List.findIdx?_cons]
        by_cases hka : k = a
        · subst hka
          simp
        · rw [decide_eq_false hka, decide_eq_false (fun h => hka h.symm)]
          simp only [Bool.false_eq_true, if_false]
          rw [ih r (j + 1) h.2, kidx]
          congr 1
          cases r.findIdx? fun x => decide (x = k) with
          | none => rfl
          | some i => simp [Nat.add_assoc, Nat.add_comm 1 i]
  rw [key es ks 0 he]
  congr 1
  cases kidx ks k <;> simp
end Go.Proofs.YtfdhpjflkimihaaDoor
