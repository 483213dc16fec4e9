/- The arguments of the laws of the package link, opened. No conditions beyond those that each statement types. -/
import Derived.Test.YtehhnoanbdjgbaaRowKit
namespace Go.Proofs.Ytehhnoanbdjgbaa
open Go.RowKit Go.ChangeShapes Go.WideShapes Go.ChangeAt Go.Deep

/-- An Act as data, and a slice of them in memory. -/
structure ActL where
  what : Int
  dev : Int
  n : Int
  data : ByteArray

structure ActCells (w : World) (b o : Nat) (x : ActL) : Prop where
  what : w.cell? ⟨b, o, none⟩ = some (.int .i64 x.what)
  dev : w.cell? ⟨b, o + 1, none⟩ = some (.int .i64 x.dev)
  n : w.cell? ⟨b, o + 2, none⟩ = some (.int .i64 x.n)
  data : w.cell? ⟨b, o + 3, none⟩ = some (.string x.data)
  w1 : -9223372036854775808 ≤ x.what ∧ x.what ≤ 9223372036854775807
  w2 : -9223372036854775808 ≤ x.dev ∧ x.dev ≤ 9223372036854775807
  w3 : -9223372036854775808 ≤ x.n ∧ x.n ≤ 9223372036854775807
  w4 : x.data.size ≤ 9223372036854775807

def ActsAt (w : World) (ao : Option Addr) (l : List ActL) : Prop := ∀ (i : Nat) (x : ActL), l[i]? = some x → ∃ b off, ao = some ⟨b, off, none⟩ ∧ ActCells w b (off + i * 4) x

theorem ActCells.chg {w w' : World} {b o : Nat} {x : ActL} (h : ActCells w b o x) (hc : Chg [] w w') : ActCells w' b o x :=
  ⟨hc.cell_some h.what (by simp), hc.cell_some h.dev (by simp), hc.cell_some h.n (by simp), hc.cell_some h.data (by simp), h.w1, h.w2, h.w3, h.w4⟩

theorem Try.own : ownKnob Try.prog.godebug = none := by kernel_rfl
theorem Try.laidOut : laidOutB Try.prog = true := by kernel_rfl

/-- The slice of Acts, opened. -/
theorem open_acts {H : Type} {enc : TypeId × Value → H} {w : World} {v : Value} {d : DataW H} {ps : List MemPlace} (hv : ∃ ao n c, v = .slice ao n c)
    (h : DataW.Trod enc Try.prog w 0 (fun _ => true) true 22 v d ps) : ∃ ao c l, v = .slice ao l.length c ∧ l.length ≤ 9223372036854775807 ∧ ActsAt w ao l := by
  rcases open_fields Try.underlying22 Try.underlying29 (by kernel_rfl) (by kernel_rfl) hv h with rfl | ⟨a, len, cap, rfl, hlc, hcm, hf⟩
  · exact ⟨none, 0, [], rfl, by simp, fun i x hx => by simp at hx⟩
  · have key : ∀ i, i < len → ∃ x : ActL, ∃ b off, a = ⟨b, off, none⟩ ∧ ActCells w b (off + i * 4) x := by
      intro i hi
      obtain ⟨u0, y0, n0, hc0, ht0⟩ := hf i hi 0 _ rfl
      obtain ⟨u1, y1, n1, hc1, ht1⟩ := hf i hi 1 _ rfl
      obtain ⟨u2, y2, n2, hc2, ht2⟩ := hf i hi 2 _ rfl
      obtain ⟨u3, y3, n3, hc3, ht3⟩ := hf i hi 3 _ rfl
      obtain ⟨k0, e0, _, w0⟩ := DataW.trod_int Try.underlying3 ht0
      obtain ⟨k1, e1, _, w1⟩ := DataW.trod_int Try.underlying3 ht1
      obtain ⟨k2, e2, _, w2⟩ := DataW.trod_int Try.underlying3 ht2
      obtain ⟨s3, e3, _, w3⟩ := DataW.trod_string Try.underlying9 ht3
      simp only [List.cons.injEq, and_true] at e0 e1 e2 e3
      subst e0 e1 e2 e3
      obtain ⟨b, off, sp⟩ := a
      have hsp : sp = none := by
        cases sp with
        | none => rfl
        | some q =>
          obtain ⟨u, _, _, hc, _⟩ := hf 0 (by omega) 0 _ rfl
          rw [show (0 * _ + 0 : Nat) = 0 from by simp, show (⟨b, off, some q⟩ : Addr).add 0 = ⟨b, off, some q⟩ from rfl] at hc
          unfold World.cell? at hc
          split at hc <;> simp at hc
      subst hsp
      have ad : ∀ n, (⟨b, off, none⟩ : Addr).add n = ⟨b, off + n, none⟩ := fun n => by unfold Addr.add; split <;> simp_all
      refine ⟨⟨k0, k1, k2, s3⟩, b, off, rfl, ⟨?_, ?_, ?_, ?_, bounds_i64 w0, bounds_i64 w1, bounds_i64 w2, by unfold maxLen at w3; exact w3⟩⟩
      · have := hc0; rw [ad] at this; exact this
      · have := hc1; rw [ad] at this; exact this
      · have := hc2; rw [ad] at this; exact this
      · have := hc3; rw [ad] at this; exact this
    have hch : ∃ g : Nat → ActL, ∀ i, i < len → ∃ b off, a = ⟨b, off, none⟩ ∧ ActCells w b (off + i * 4) (g i) := by
      refine ⟨fun i => if h : i < len then (key i h).choose else ⟨0, 0, 0, ByteArray.empty⟩, fun i h => ?_⟩
      simp only [h, dif_pos]
      exact (key i h).choose_spec
    obtain ⟨g, hg⟩ := hch
    refine ⟨some a, cap, (List.range len).map g, by simp, by unfold maxLen at hcm; simp; omega, fun i x hx => ?_⟩
    have hil : i < len := by
      have := (List.getElem?_eq_some_iff.1 hx).1
      simpa using this
    simp [hil] at hx
    subst hx
    obtain ⟨b, off, rfl, hc⟩ := hg i hil
    exact ⟨b, off, rfl, hc⟩

end Go.Proofs.Ytehhnoanbdjgbaa
