/- strings.Repeat of one byte; the law's finder with two files, and what is found in it. No conditions beyond those that each statement types. -/
import Derived.Test.YtfdhpjflkimihaaDoorBkShelf
import Derived.Test.YtfdhpjflkimihaaDoorBkV
import Derived.Test.YtfdhpjflkimihaaDoorBkW
import Derived.Test.YtfdhpjflkimihaaDoorBkQ
import Derived.Test.YtfdhpjflkimihaaDoorRowKit
namespace Go.Proofs.YtfdhpjflkimihaaDoor
open Go.RowKit

theorem chg_of_below {w w' : World} (h : Below w.heap.size w w') : Chg [] w w' := ⟨h.os, h.tape, h.output, h.size, fun k hk _ => h.block k hk⟩
theorem repeatL_one (c : UInt8) : ∀ n, Lib.repeatL [c] n = List.replicate n c
  | 0 => rfl
  | n + 1 => by
    show [c] ++ Lib.repeatL [c] n = _
    rw [repeatL_one c n]
    rfl
def many (c : UInt8) (n : Nat) : ByteArray := ⟨(List.replicate n c).toArray⟩
theorem repeat_one (c : UInt8) (n : Nat) (hn : n ≤ 1000) (w : World) : Calls Tryd.prog 37 #[.string ⟨#[c]⟩, .int .i64 n] w fun e w' => e = .returned (.string (many c n)) ∧ Chg [] w w' := by
  have h1 : (⟨#[c]⟩ : ByteArray).size = 1 := rfl
  refine (Tryd.strings_Repeat ⟨#[c]⟩ n w (by omega) (by rw [h1]; omega)).mono ?_
  rintro e w' ⟨rfl, h⟩
  have h2 : Lib.repeatL (⟨#[c]⟩ : ByteArray).data.toList n = List.replicate n c := repeatL_one c n
  exact ⟨by rw [h2]; rfl, chg_of_below h⟩
def nmA : ByteArray := ⟨#[97]⟩
def nmB : ByteArray := ⟨#[98]⟩
def twoF : Files := [(nmB, m_x16), (nmA, m_y16 ++ m_x16)]
theorem twoF_eq : Fadd (Fadd [] nmB m_x16) nmA (m_y16 ++ m_x16) = twoF := by
  have h : ¬ nmB = nmA := by decide
  simp [Fadd, Fdel, twoF, h]
theorem hkey_ne {f g : Nat → UInt8} (h : f 0 ≠ g 0) : hkey f ≠ hkey g := by
  intro e
  have h1 := congrArg (fun k : HKey => k.1[0]?) e
  simp [hkey] at h1
  exact h h1
theorem keys_x : keysL m_x16 = [hkey (digest m_x16)] := by
  have h : partsL m_x16 = [m_x16] := by decide
  simp [keysL, listL, h]
theorem keys_yx : keysL (m_y16 ++ m_x16) = [hkey (digest m_y16), hkey (digest m_x16)] := by
  have h : partsL (m_y16 ++ m_x16) = [m_y16, m_x16] := by decide
  simp [keysL, listL, h]
theorem yx_ne : hkey (digest m_y16) ≠ hkey (digest m_x16) := hkey_ne (by rw [dg_y16, dg_x16]; decide)
theorem occ_two : occ twoF (hkey (digest m_x16)) = [(nmB, 0), (nmA, 1)] := by
  unfold occ twoF
  simp only [List.flatMap_cons, List.flatMap_nil, occ1, keys_x, keys_yx]
  have h := yx_ne
  simp [occTo, h]
theorem find_two : findL twoF (hkey (digest m_x16)) = some ((nmA, 1), m_x16) := by
  unfold findL
  rw [occ_two]
  have h : pickP [(nmB, 0), (nmA, 1)] = some (nmA, 1) := by decide +kernel
  rw [h]
  have h2 : dataF twoF nmA = m_y16 ++ m_x16 := by decide
  simp only [Option.map_some, h2]
  have h3 : partZ (m_y16 ++ m_x16) 1 = m_x16 := by decide
  rw [show (((nmA, 1) : Pl).2 : Int) = 1 from rfl, h3]
def Twoed (w : World) (e : Ending) (w' : World) : Prop := ∃ b S, e = .returned (.pointer (some ⟨b, 0, none⟩)) ∧ FinderAt w' b twoF S ∧ (∀ k ∈ S, w.heap.size ≤ k) ∧ Chg [] w w'
set_option maxRecDepth 100000 in
set_option maxHeartbeats 4000000 in
theorem law_two (w : World) (hL : Laid w) : Calls Tryd.prog 36 #[] w (Twoed w) := by
  have KR := Lib.hid (fun (c : UInt8) (n : Nat) (hn : n ≤ 1000) w => repeat_one c n hn w)
  have HL := Lib.hid hL
  have hx : (many 120 16).size = 16 := rfl
  clear hL
  go_enter Tryd.func36, Tryd.ntmps36
  go_wp2_with fail
  refine (blk_new w).mono ?_
  rintro e w1 ⟨b, S, rfl, H1, hS, C1⟩
  have HS := Lib.hid hS
  have HF1 := Lib.hid H1
  have HC1 := Lib.hid C1
  clear H1 hS C1
  go_wp2_with fail
  refine (KR.out 120 16 (by omega) _).mono ?_
  rintro e w2 ⟨rfl, C2⟩
  have HC2 := Lib.hid (HC1.out.trans C2 (by simp))
  have HF2 := Lib.hid (HF1.out.chg C2 (by simp))
  clear C2 HC1 HF1
  go_wp2_with fail
  refine (KR.out 121 16 (by omega) _).mono ?_
  rintro e w3 ⟨rfl, C3⟩
  have HC3 := Lib.hid (HC2.out.trans C3 (by simp))
  have HF3 := Lib.hid (HF2.out.chg C3 (by simp))
  clear C3 HC2 HF2
  go_wp2_with (refine wpList_bytes_of_str _ rfl 9 25 _ rfl 5 Tryd.underlying9 Tryd.underlying25 Tryd.underlying5 (many 120 16) rfl 16 rfl m_x16 rfl ?_)
  intro g c w4 hc M4
  have HC4 := Lib.hid (HC3.out.trans M4.chg (by simp))
  have KA := blk_add b [] S nmB m_x16 (some ⟨g, 0, none⟩) c w4 (HL.out.chg HC4.out (by simp)) (HF3.out.chg M4.chg (by simp)) (by simp) M4.src hc (fun h => by cases h) (fun a ha hm => by
    cases ha
    obtain ⟨_, _, _, _, _, _, h, _⟩ := HF3.out
    have := h.lt g hm
    have := M4.new.1
    omega) (by decide)
  rw [show m_x16.length = 16 from rfl] at KA
  have HKA := Lib.hid KA
  clear KA M4 hc HF3 HC3
  go_wp2_with fail
  refine HKA.out.mono ?_
  rintro e w5 ⟨rfl, S5, HF5, C5, hS5⟩
  have HC5 : Hid (Chg [] w w5) := Lib.hid (HC4.out.trans C5 (fun x hx => .inr (HS.out x hx)))
  have HS5 : Hid (∀ k ∈ S5, w.heap.size ≤ k) := Lib.hid (fun x hx => (hS5 x hx).elim (HS.out x) (Nat.le_trans HC4.out.size))
  have HF5 := Lib.hid HF5
  clear C5 hS5 HC4 HKA HS
  go_wp2_with (refine wpList_bytes_of_str _ rfl 9 25 _ rfl 5 Tryd.underlying9 Tryd.underlying25 Tryd.underlying5 (many 121 16 ++ many 120 16) rfl 32 rfl (m_y16 ++ m_x16) rfl ?_)
  intro g c w6 hc M6
  have HC6 := Lib.hid (HC5.out.trans M6.chg (by simp))
  have KA := blk_add b _ S5 nmA (m_y16 ++ m_x16) (some ⟨g, 0, none⟩) c w6 (HL.out.chg HC6.out (by simp)) (HF5.out.chg M6.chg (by simp)) (by decide) M6.src hc (fun h => by cases h) (fun a ha hm => by
    cases ha
    obtain ⟨_, _, _, _, _, _, h, _⟩ := HF5.out
    have := h.lt g hm
    have := M6.new.1
    omega) (by decide)
  rw [show (m_y16 ++ m_x16).length = 32 from rfl, twoF_eq] at KA
  have HKA := Lib.hid KA
  clear KA M6 hc HF5 HC5
  go_wp2_with fail
  refine HKA.out.mono ?_
  rintro e w7 ⟨rfl, S7, HF7, C7, hS7⟩
  have HC7 : Hid (Chg [] w w7) := Lib.hid (HC6.out.trans C7 (fun x hx => .inr (HS5.out x hx)))
  have HS7 : Hid (∀ k ∈ S7, w.heap.size ≤ k) := Lib.hid (fun x hx => (hS7 x hx).elim (HS5.out x) (Nat.le_trans HC6.out.size))
  have HF7 := Lib.hid HF7
  clear C7 hS7 HC6 HKA HS5
  go_wp2_with fail
  go_ret
  exact ⟨b, S7, rfl, HF7.out, HS7.out, HC7.out⟩
end Go.Proofs.YtfdhpjflkimihaaDoor
