/- block.Part, walked. No conditions beyond those that each statement types. -/
import Derived.Test.YtfdhpjflkimihaaDoorBkB
namespace Go.Proofs.YtfdhpjflkimihaaDoor
open Go.RowKit

def partZ (l : List UInt8) (i : Int) : List UInt8 := if 0 ≤ i ∧ i.toNat < cntN l.length then partL l i.toNat else []
theorem made_nil (w : World) : MadeB w [] (.returned (.slice none 0 0)) w := ⟨none, 0, rfl, World.ownsRow_nil _ _ _ _, fun k hk => (by cases hk), Chg.refl _ _⟩
theorem part_src {l : List UInt8} {a : Addr} {w : World} (hs : Src w (some a) (bvs l)) (i : Nat) : Src w (some (a.add (i * bszN l.length))) (bvs (partL l i)) := by
  have := (hs.drop (i * bszN l.length)).take (bszN l.length)
  rw [← bvs_drop, ← bvs_take] at this
  exact this
set_option maxRecDepth 100000 in
theorem blk_Part (l : List UInt8) (ao : Option Addr) (c : Nat) (i : Int) (w : World) (hs : Src w ao (bvs l)) (hlc : l.length ≤ c) :
    Calls Tryd.prog 22 #[.slice ao l.length c, .int .i64 i] w (MadeB w (partZ l i)) := by
  by_cases h0 : i < 0
  · have hp : partZ l i = [] := by unfold partZ; rw [if_neg (by omega)]
    rw [hp]
    clear hp
    go_enter Tryd.func22, Tryd.ntmps22
    go_wp2_with fail
    go_ret
    exact made_nil w
  · obtain ⟨N, rfl⟩ : ∃ N : Nat, i = N := ⟨i.toNat, by omega⟩
    have K := blk_count l.length w
    have hz : cntZ l.length = cntN l.length := by unfold cntZ; rw [if_neg (by omega)]; rfl
    rw [hz] at K
    by_cases hN : N < cntN l.length
    · have hp : partZ l N = partL l N := by unfold partZ; rw [if_pos ⟨by omega, by simpa using hN⟩]; rfl
      have hl : l.length ≤ 4096 := by
        rcases Nat.lt_or_ge 4096 l.length with h | h
        · rw [cntN_big h] at hN; omega
        · exact h
      have hlt := (cntN_lt hl N).1 hN
      obtain ⟨a, rfl, _⟩ := hs.lt (by rw [bvs_length]; omega)
      have KP := Lib.hid (blk_part l a c N hl hN hlc w)
      have KC := Lib.hid (blk_clone (partL l N) (some (a.add (N * bszN l.length))) (c - N * bszN l.length) w (part_src hs N) (fun h => by cases h) (by have := partL_length l N; have := bszN_le l.length; omega))
      rw [hp]
      have HK := Lib.hid K
      have hN' : ¬ ((N : Int) ≥ (cntN l.length : Nat)) := by omega
      have hN2 : (N : Int) < (cntN l.length : Nat) := by omega
      have h0' : (0 : Int) ≤ N := by omega
      clear K hz hp hlt h0 hl
      generalize cntN l.length = C at *
      generalize N * bszN l.length = O at *
      obtain ⟨X, hX⟩ : ∃ X, (partL l N).length = X := ⟨_, rfl⟩
      rw [hX] at KP KC
      clear hX hN hlc hs
      go_enter Tryd.func22, Tryd.ntmps22
      go_wp2_with fail
      refine HK.out.mono ?_
      rintro e w' ⟨rfl, rfl⟩
      go_wp2_with fail
      refine KP.out.mono ?_
      rintro e w' ⟨rfl, rfl⟩
      go_wp2_with fail
      refine KC.out.mono ?_
      rintro e w' ⟨ao', c', rfl, h1, h2, h3⟩
      go_wp2_with fail
      go_ret
      exact ⟨ao', c', rfl, h1, h2, h3⟩
    · have hp : partZ l N = [] := by unfold partZ; rw [if_neg (by simp; omega)]
      rw [hp]
      have HK := Lib.hid K
      have hN2 : ¬ (N : Int) < (cntN l.length : Nat) := by omega
      have h0' : (0 : Int) ≤ N := by omega
      clear K hz hp h0
      generalize cntN l.length = C at *
      go_enter Tryd.func22, Tryd.ntmps22
      go_wp2_with fail
      refine HK.out.mono ?_
      rintro e w' ⟨rfl, rfl⟩
      go_wp2_with fail
      go_ret
      exact made_nil w
end Go.Proofs.YtfdhpjflkimihaaDoor
