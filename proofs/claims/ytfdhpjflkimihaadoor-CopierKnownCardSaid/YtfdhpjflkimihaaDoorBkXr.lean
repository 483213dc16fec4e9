/- strings.Repeat of one byte. No conditions beyond those that each statement types. -/
import Derived.Test.YtfdhpjflkimihaaDoorBkShelf
import Derived.Test.YtfdhpjflkimihaaDoorRowKit
namespace Go.Proofs.YtfdhpjflkimihaaDoor
open Go.RowKit

theorem chg_of_below {w w' : World} (h : Below w.heap.size w w') : Chg [] w w' := ⟨h.os, h.tape, h.output, h.size, fun k hk _ => h.block k hk⟩
theorem repeatL_one (c : UInt8) : ∀ n, Lib.repeatL [c] n = List.replicate n c
  | 0 => rfl
  | n + 1 => by
    show [c] ++ Lib.repeatL [c] n = _
    rw [repeatL_one c n]
    rfl
def many (c : UInt8) (n : Nat) : ByteArray := ⟨(List.replicate n c).toArray⟩
theorem repeat_one (c : UInt8) (n : Nat) (hn : n ≤ 1000) (w : World) : Calls Tryd.prog 37 #[.string ⟨#[c]⟩, .int .i64 n] w fun e w' => e = .returned (.string (many c n)) ∧ Chg [] w w' := by
  have h1 : (⟨#[c]⟩ : ByteArray).size = 1 := rfl
  refine (Tryd.strings_Repeat ⟨#[c]⟩ n w (by omega) (by rw [h1]; omega)).mono ?_
  rintro e w' ⟨rfl, h⟩
  have h2 : Lib.repeatL (⟨#[c]⟩ : ByteArray).data.toList n = List.replicate n c := repeatL_one c n
  exact ⟨by rw [h2]; rfl, chg_of_below h⟩
end Go.Proofs.YtfdhpjflkimihaaDoor
