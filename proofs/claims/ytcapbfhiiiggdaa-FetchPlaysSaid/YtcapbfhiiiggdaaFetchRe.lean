/- The Acts of the law FetchPlays, opened. No conditions beyond those that each statement types. -/
import Derived.Test.YtcapbfhiiiggdaaFetchRd
import Derived.Test.YtcapbfhiiiggdaaFetchOpen
namespace Go.Proofs.Ytcapbfhiiiggdaa
open Go.RowKit Go.ChangeShapes Go.WideShapes Go.ChangeAt Go.Deep

theorem open_actsP {H : Type} {enc : TypeId × Value → H} {w : World} {v : Value} {d : DataW H} {ps : List MemPlace} (hv : ∃ ao n c, v = .slice ao n c)
    (h : DataW.Trod enc Try.prog w 0 (fun _ => true) true 42 v d ps) : ∃ ao c l, v = .slice ao (List.length l) c ∧ l.length ≤ 9223372036854775807 ∧ ActsP w ao l := by
  rcases open_fields Try.underlying42 Try.underlying47 (by kernel_rfl) (by kernel_rfl) hv h with rfl | ⟨a, len, cap, rfl, hlc, hcm, hf⟩
  · exact ⟨none, 0, [], rfl, by simp, fun i x hx => by simp at hx⟩
  · have key : ∀ i, i < len → ∃ x : ActP, ∃ b off, a = ⟨b, off, none⟩ ∧ ActPC w b (off + i * 3) x := by
      intro i hi
      obtain ⟨u0, y0, n0, hc0, ht0⟩ := hf i hi 0 _ rfl
      obtain ⟨u1, y1, n1, hc1, ht1⟩ := hf i hi 1 _ rfl
      obtain ⟨u2, y2, n2, hc2, ht2⟩ := hf i hi 2 _ rfl
      obtain ⟨k0, e0, _, w0⟩ := DataW.trod_int Try.underlying3 ht0
      obtain ⟨k1, e1, _, w1⟩ := DataW.trod_int Try.underlying3 ht1
      obtain ⟨k2, e2, _, w2⟩ := DataW.trod_int Try.underlying3 ht2
      simp only [List.cons.injEq, and_true] at e0 e1 e2
      subst e0 e1 e2
      obtain ⟨b, off, sp⟩ := a
      have hsp : sp = none := by
        cases sp with
        | none => rfl
        | some q =>
          obtain ⟨u, _, _, hc, _⟩ := hf 0 (by omega) 0 _ rfl
          rw [show (0 * _ + 0 : Nat) = 0 from by simp, show (⟨b, off, some q⟩ : Addr).add 0 = ⟨b, off, some q⟩ from rfl] at hc
          unfold World.cell? at hc
          split at hc <;> simp at hc
      subst hsp
      have ad : ∀ n, (⟨b, off, none⟩ : Addr).add n = ⟨b, off + n, none⟩ := fun n => by unfold Addr.add; split <;> simp_all
      refine ⟨⟨k0, k1, k2⟩, b, off, rfl, ⟨?_, ?_, ?_, bounds_i64 w0⟩⟩
      · have := hc0; rw [ad] at this; exact this
      · have := hc1; rw [ad] at this; exact this
      · have := hc2; rw [ad] at this; exact this
    have hch : ∃ g : Nat → ActP, ∀ i, i < len → ∃ b off, a = ⟨b, off, none⟩ ∧ ActPC w b (off + i * 3) (g i) := by
      refine ⟨fun i => if h : i < len then (key i h).choose else ⟨0, 0, 0⟩, fun i h => ?_⟩
      simp only [h, dif_pos]
      exact (key i h).choose_spec
    obtain ⟨g, hg⟩ := hch
    refine ⟨some a, cap, (List.range len).map g, by simp, by unfold maxLen at hcm; simp; omega, fun i x hx => ?_⟩
    have hil : i < len := by
      have := (List.getElem?_eq_some_iff.1 hx).1
      simpa using this
    simp [hil] at hx
    subst hx
    obtain ⟨b, off, rfl, hc⟩ := hg i hil
    exact ⟨b, off, rfl, hc⟩

/-- The law in the row's form. -/
theorem fetch_plays_row (bo : Option Addr) (bc : Nat) (bs : List Int) (hbl : bs.length ≤ 9223372036854775807) (_ : ∀ x ∈ bs, (Lit.int .i64 x).wf = true) (_ : bo = none → bc = 0) (_ : bs.length ≤ bc) (_ : bc ≤ 9223372036854775807)
    (po : Option Addr) (pc : Nat) (ps : List Int) (hpl : ps.length ≤ 9223372036854775807) (_ : ∀ x ∈ ps, (Lit.int .i64 x).wf = true) (hpc : po = none → pc = 0) (_ : ps.length ≤ pc) (_ : pc ≤ 9223372036854775807)
    (ao : Option Addr) (c : Nat) (l : List ActP) (hl : l.length ≤ 9223372036854775807) (W : World) (hb : Src W bo (bs.map (Value.int .i64))) (hp : Src W po (ps.map (Value.int .i64))) (hA : ActsP W ao l) :
    Calls Try.prog 5 #[.slice bo bs.length bc, .slice po ps.length pc, .slice ao l.length c] W (Holds W) :=
  fetch_plays bs ps bo po ao bc pc c l W hbl hpl hl hb hp hpc hA
end Go.Proofs.Ytcapbfhiiiggdaa
