/- Words of 32 bits as the walk reads them; right of the package sha. No conditions beyond those that each statement types. -/
import Derived.Test.YtfdhpjflkimihaaDoorRows
import Derived.Test.YtfdhpjflkimihaaDoorBase
namespace Go.Proofs.YtfdhpjflkimihaaDoor
open Go.RowKit

def wv (x : UInt32) : Value := .int .u32 x.toNat

/-- A word to the right, and turned to the right. -/
def shr (x : UInt32) (k : Nat) : UInt32 := UInt32.ofNat (x.toNat / 2 ^ k)
def shl (x : UInt32) (k : Nat) : UInt32 := UInt32.ofNat (x.toNat * 2 ^ k)
def rotr (x : UInt32) (k : Nat) : UInt32 := shl x (32 - k) ||| shr x k

theorem u_lt (x : UInt32) : x.toNat < 4294967296 := x.toNat_lt
theorem u_shr (x : UInt32) (k : Nat) : (x.toNat : Int) / 2 ^ k = ((shr x k).toNat : Int) := by
  have h : x.toNat / 2 ^ k < 4294967296 := Nat.lt_of_le_of_lt (Nat.div_le_self _ _) (u_lt x)
  unfold shr
  rw [UInt32.toNat_ofNat', Nat.mod_eq_of_lt h]
  simp
theorem u_shl (x : UInt32) (k : Nat) : (x.toNat : Int) * 2 ^ k % 4294967296 = ((shl x k).toNat : Int) := by
  unfold shl
  rw [UInt32.toNat_ofNat']
  have : ((x.toNat * 2 ^ k : Nat) : Int) = (x.toNat : Int) * 2 ^ k := by simp
  rw [← this]
  rfl
theorem u_add (x y : UInt32) : ((x.toNat : Int) + (y.toNat : Int)) % 4294967296 = ((x + y).toNat : Int) := by
  rw [UInt32.toNat_add]; rfl
theorem ofInt_u32 (x : UInt32) : (BitVec.ofInt 32 (x.toNat : Int)).toNat = x.toNat := by
  rw [BitVec.ofInt_natCast, BitVec.toNat_ofNat]
  exact Nat.mod_eq_of_lt (u_lt x)
theorem wrap_lt (n : Nat) (h : n < 4294967296) : IntKind.u32.wrap (n : Int) = n := by
  rw [IntKind.wrap_u32]; omega
theorem u_or (x y : UInt32) : bits .or .u32 (x.toNat : Int) (y.toNat : Int) = ((x ||| y).toNat : Int) := by
  show IntKind.u32.wrap ((BitVec.ofInt 32 (x.toNat : Int) ||| BitVec.ofInt 32 (y.toNat : Int)).toNat : Int) = _
  rw [BitVec.toNat_or, ofInt_u32, ofInt_u32, ← UInt32.toNat_or]
  exact wrap_lt _ (u_lt _)
theorem u_xor (x y : UInt32) : bits .xor .u32 (x.toNat : Int) (y.toNat : Int) = ((x ^^^ y).toNat : Int) := by
  show IntKind.u32.wrap ((BitVec.ofInt 32 (x.toNat : Int) ^^^ BitVec.ofInt 32 (y.toNat : Int)).toNat : Int) = _
  rw [BitVec.toNat_xor, ofInt_u32, ofInt_u32, ← UInt32.toNat_xor]
  exact wrap_lt _ (u_lt _)
theorem u_and (x y : UInt32) : bits .and .u32 (x.toNat : Int) (y.toNat : Int) = ((x &&& y).toNat : Int) := by
  show IntKind.u32.wrap ((BitVec.ofInt 32 (x.toNat : Int) &&& BitVec.ofInt 32 (y.toNat : Int)).toNat : Int) = _
  rw [BitVec.toNat_and, ofInt_u32, ofInt_u32, ← UInt32.toNat_and]
  exact wrap_lt _ (u_lt _)

/-- The operations by names of their own: the walk takes none of them apart. -/
def wadd (x y : UInt32) : UInt32 := x + y
def wxor (x y : UInt32) : UInt32 := x ^^^ y
def wand (x y : UInt32) : UInt32 := x &&& y
def wnot (x : UInt32) : UInt32 := x ^^^ 4294967295
theorem w_add (x y : UInt32) : IntKind.u32.wrap ((x.toNat : Int) + (y.toNat : Int)) = ((wadd x y).toNat : Int) := by
  rw [IntKind.wrap_u32]; exact u_add x y
theorem w_xor (x y : UInt32) : bits .xor .u32 (x.toNat : Int) (y.toNat : Int) = ((wxor x y).toNat : Int) := u_xor x y
theorem w_and (x y : UInt32) : bits .and .u32 (x.toNat : Int) (y.toNat : Int) = ((wand x y).toNat : Int) := u_and x y
theorem w_not (x : UInt32) : bits .xor .u32 (if IntKind.u32.signed = true then -1 else IntKind.u32.max) (x.toNat : Int) = ((wnot x).toNat : Int) := by
  have h1 := u_xor 4294967295 x
  have h2 : (if IntKind.u32.signed = true then (-1 : Int) else IntKind.u32.max) = (((4294967295 : UInt32).toNat : Nat) : Int) := by decide
  rw [h2, h1]
  congr 2
  exact UInt32.xor_comm _ _
theorem u_shr3 (x : UInt32) : (x.toNat : Int) / 8 = ((shr x 3).toNat : Int) := u_shr x 3
theorem u_shr10 (x : UInt32) : (x.toNat : Int) / 1024 = ((shr x 10).toNat : Int) := u_shr x 10

theorem low5 (k : Nat) (h1 : 1 ≤ k) (h2 : k ≤ 31) : bits .and .u64 (IntKind.u64.wrap (-(k : Int))) 31 = ((32 - k : Nat) : Int) := by
  have : ∀ k : Fin 32, (1 ≤ k.val → bits .and .u64 (IntKind.u64.wrap (-(k.val : Int))) 31 = ((32 - k.val : Nat) : Int)) := by decide +kernel
  exact this ⟨k, by omega⟩ h1

set_option maxHeartbeats 400000 in
theorem rotl_any (x : UInt32) (k : Nat) (h1 : 1 ≤ k) (h2 : k ≤ 31) (w : World) :
    Calls Tryd.prog 110 #[.int .u32 x.toNat, .int .i64 (-(k : Int))] w fun e w' => e = .returned (.int .u32 (rotr x k).toNat) ∧ w = w' := by
  have hl := low5 k h1 h2
  obtain ⟨s, hs⟩ : ∃ s : Nat, 32 - k = s := ⟨_, rfl⟩
  rw [hs] at hl
  have hs0 : 0 < s := by omega
  have hs32 : s < 32 := by omega
  have hs0' : (0 : Int) ≤ s := by omega
  have hs32' : (s : Int) < 32 := by omega
  have HE := Lib.hid hs
  clear hs
  go_enter Tryd.func110, Tryd.ntmps110
  go_wp2_with fail
  go_ret
  refine ⟨?_, rfl⟩
  show Ending.returned (.int .u32 (bits .or .u32 ((x.toNat : Int) * 2 ^ s % 4294967296) ((x.toNat : Int) / 2 ^ (32 - s)))) = _
  rw [u_shl, u_shr, u_or, rotr, HE.out, show 32 - s = k by have := HE.out; omega]

theorem right_any (x : UInt32) (k : Nat) (h1 : 1 ≤ k) (h2 : k ≤ 31) (w : World) :
    Calls Tryd.prog 109 #[.int .u32 x.toNat, .int .i64 k] w fun e w' => e = .returned (.int .u32 (rotr x k).toNat) ∧ w = w' := by
  have h2' : (k : Int) ≤ 31 := by omega
  go_enter Tryd.func109, Tryd.ntmps109
  go_wp2_with fail
  refine (rotl_any x k h1 h2 w).mono ?_
  rintro r w' ⟨rfl, rfl⟩
  go_wp2_with fail
  go_ret
  exact ⟨rfl, rfl⟩
theorem right_still (x : UInt32) (k : Nat) (K : Int) (hK : (k : Int) = K) (h1 : 1 ≤ k) (h2 : k ≤ 31) (w : World) :
    Calls Tryd.prog 109 #[.int .u32 x.toNat, .int .i64 K] w fun e w' => e = .returned (.int .u32 (rotr x k).toNat) ∧ w' = w := by
  subst hK
  exact (right_any x k h1 h2 w).mono fun r w' ⟨h, g⟩ => ⟨h, g.symm⟩
theorem right_open (x : UInt32) (K : Int) (h1 : 1 ≤ K) (h2 : K ≤ 31) (w : World) :
    Calls Tryd.prog 109 #[.int .u32 x.toNat, .int .i64 K] w fun e w' => e = .returned (.int .u32 (rotr x K.toNat).toNat) ∧ w' = w :=
  right_still x K.toNat K (by omega) (by omega) (by omega) w
end Go.Proofs.YtfdhpjflkimihaaDoor
