/- Two digests compared. No conditions beyond those that each statement types. -/
import Derived.Test.YtfdhpjflkimihaaDoorBkE
import Derived.ChangeKeysEq
namespace Go.Proofs.YtfdhpjflkimihaaDoor
open Go.RowKit

theorem hashC_get (f : Nat → UInt8) (i : Nat) (h : i < 32) : (hashC f)[i]? = some (bv (f i)) := by
  rw [hashC, cut_get _ _ _ _ h, Nat.zero_add]

theorem u8_plain : Tryd.prog.plainKey 5 = true := by kernel_rfl
theorem u8_cells : Tryd.prog.cellsOf 5 = 1 := by kernel_rfl
theorem u8_info : ∃ i, Tryd.prog.info? 5 = some i := by
  obtain ⟨i, hi, _⟩ := Option.map_eq_some_iff.1 Tryd.infoU8
  exact ⟨i, hi⟩

theorem run_eq_bytes (f g : Nat → UInt8) (w : World) (d : Nat) : ∀ is : List Nat, (∀ i ∈ is, i < 32) →
    (Op.eqItems (d + 1) 5 1 (hashC f) (hashC g) is).run Tryd.prog w = .ok (is.all fun i => f i == g i) w
  | [], _ => rfl
  | i :: is, h => by
    have hi := h i (by simp)
    have p1 := run_part_plain (P := Tryd.prog) w u8_plain (off := i * 1) (by rw [Nat.mul_one]; exact hashC_get f i hi)
    have p2 := run_part_plain (P := Tryd.prog) w u8_plain (off := i * 1) (by rw [Nat.mul_one]; exact hashC_get g i hi)
    have p3 := run_equalIn_int (P := Tryd.prog) w d 5 .u8 .u8 (f i).toNat (g i).toNat Tryd.underlying5
    have ih := run_eq_bytes f g w d is (fun j hj => h j (by simp [hj]))
    have hb : (((f i).toNat : Int) == ((g i).toNat : Int)) = (f i == g i) := by
      rw [Bool.eq_iff_iff, beq_iff_eq, beq_iff_eq, Int.ofNat_inj, UInt8.toNat_inj]
    rw [hb] at p3
    simp only [Op.eqItems, Sem.run_bind, p1, p2, Result.andThen_ok]
    have p4 : (Op.equalIn (d + 1) 5 (bv (f i)) (bv (g i))).run Tryd.prog w = .ok (f i == g i) w := p3
    rw [p4]
    cases he : (f i == g i)
    · simp [he]
    · simp [he, ih]

def sameHash (f g : Nat → UInt8) : Bool := (List.range 32).all fun i => f i == g i
theorem run_eq_hash (f g : Nat → UInt8) (w : World) : (binOp .eql 32 (hashV f) (hashV g)).run Tryd.prog w = .ok (.bool (sameHash f g)) w := by
  obtain ⟨i, hi⟩ := u8_info
  unfold hashV
  rw [run_eql_struct, run_equalIn_array w 9999 (hashC f) (hashC g) Tryd.underlying32 hi, u8_cells, run_eq_bytes f g w 9998 _ (fun j hj => List.mem_range.1 hj)]
  rfl
theorem sameHash_self (f : Nat → UInt8) : sameHash f f = true := by simp [sameHash]
theorem sameHash_of {f g : Nat → UInt8} (h : hashC f = hashC g) : sameHash f g = true := by
  unfold sameHash
  rw [List.all_eq_true]
  intro i hi
  have h1 := hashC_get f i (List.mem_range.1 hi)
  rw [h, hashC_get g i (List.mem_range.1 hi)] at h1
  have h2 : bv (g i) = bv (f i) := Option.some.inj h1
  have h3 : (f i).toNat = (g i).toNat := by
    have := h2
    unfold bv at this
    injection this with _ h4
    omega
  rw [UInt8.toNat_inj.1 h3]
  simp
end Go.Proofs.YtfdhpjflkimihaaDoor
