/- Add, Forget and Len of finders that are none. No conditions beyond those that each statement types. -/
import Derived.Test.YtfdhpjflkimihaaDoorBkV
namespace Go.Proofs.YtfdhpjflkimihaaDoor
open Go.RowKit

/-- A finder that is none: nil, or one whose maps are nil. -/
def NoFinder (p : Option Addr) (w : World) : Prop := ∀ w', Chg [] w w' → Calls Tryd.prog 65 #[.pointer p] w' fun e w'' => e = .returned (.bool false) ∧ w' = w''
theorem noFinder_nil (w : World) : NoFinder none w := fun w' _ => blk_is_nil w'
theorem noFinder_zero {b : Nat} {w : World} (h : w.cell? ⟨b, 0, none⟩ = some (.map none)) : NoFinder (some ⟨b, 0, none⟩) w := fun w' C => blk_is_map b none w' (C.cell_some h (by simp))
theorem NoFinder.chg {p : Option Addr} {w w' : World} (h : NoFinder p w) (C : Chg [] w w') : NoFinder p w' := fun w2 D => h w2 (C.trans D (by simp))
set_option maxRecDepth 100000 in
theorem blk_add_not (p : Option Addr) (nm : ByteArray) (ao : Option Addr) (n c : Nat) (w : World) (hp : NoFinder p w) :
    Calls Tryd.prog 31 #[.pointer p, .string nm, .slice ao n c] w fun e w' => e = .returned (.int .i64 1) ∧ w = w' := by
  have K := Lib.hid (hp w (Chg.refl _ _))
  clear hp
  go_enter Tryd.func31, Tryd.ntmps31
  go_wp2_with fail
  refine K.out.mono ?_
  rintro e w2 ⟨rfl, rfl⟩
  go_wp2_with fail
  go_ret
  exact ⟨rfl, rfl⟩
set_option maxRecDepth 100000 in
theorem blk_forget_not (p : Option Addr) (nm : ByteArray) (w : World) (hp : NoFinder p w) :
    Calls Tryd.prog 28 #[.pointer p, .string nm] w fun e w' => e = .returned (.bool false) ∧ Chg [] w w' := by
  have C := Chg.alloc [] w (.cells #[.string nm] 9)
  have K := Lib.hid (hp _ C)
  clear hp
  go_enter Tryd.func28, Tryd.ntmps28
  go_wp2_with fail
  refine K.out.mono ?_
  rintro e w2 ⟨rfl, rfl⟩
  go_wp2_with fail
  go_ret
  exact ⟨rfl, C⟩
set_option maxRecDepth 100000 in
theorem blk_len_not (p : Option Addr) (w : World) (hp : NoFinder p w) :
    Calls Tryd.prog 33 #[.pointer p] w fun e w' => e = .returned (.int .i64 0) ∧ w = w' := by
  have K := Lib.hid (hp w (Chg.refl _ _))
  clear hp
  go_enter Tryd.func33, Tryd.ntmps33
  go_wp2_with fail
  refine K.out.mono ?_
  rintro e w2 ⟨rfl, rfl⟩
  go_wp2_with fail
  go_ret
  exact ⟨rfl, rfl⟩
theorem blk_find_no (p : Option Addr) (k : HKey) (w : World) (hp : NoFinder p w) : Calls Tryd.prog 34 #[.pointer p, hkV k] w (Found w none) := blk_find_not p k w hp
end Go.Proofs.YtfdhpjflkimihaaDoor
