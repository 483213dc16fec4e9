/-
  PROVED: the given statement FetchLostSaid: for every input the law FetchLost answers true and leaves its arguments as they were.
  No condition.
-/
import Derived.Test.YtcapbfhiiiggdaaFetchS
import Derived.Test.YtcapbfhiiiggdaaFetchOpen
namespace Go.Proofs.Ytcapbfhiiiggdaa
open Go.RowKit Go.ChangeShapes Go.WideShapes Go.ChangeAt Go.Deep
open Go.ChangeMaps (open_string)

set_option maxRecDepth 100000 in
theorem fetchLost_lifted (os : Os) (started : os.Started) (H : Type) (enc : TypeId × Value → H) :
    ReturnsInHanded {} Try.checked os 6 .any (Rows.fetchLostSpec.pre6 enc Try.prog Try.f6 Rows.fetchLostRow.domain false) (Rows.fetchLostSpec.post enc Try.prog Try.f6 false true false false) := by
  refine returnsInHanded_of_change (C := Try.checked) Try.own started (by kernel_rfl) Try.func6
    (ChangeSpec.witness6 (enc := enc) (C := Try.checked) false ⟨#[], #[.int .u32 0, .int .u8 0, .int .u8 0], []⟩ 8 (by kernel_rfl) (by kernel_rfl) (by kernel_rfl) (by kernel_rfl)) ?_
  intro W base args ds gs before hval0 hW _ _
  have hval : ∀ (j : Nat) t v, Try.f6.params[j]? = some t → args[j]? = some v → Value.okWide Try.prog W .any base t v := hval0
  have hW' := hW
  obtain ⟨p, q, hA0, _, rfl, _, _⟩ := hW
  have hA : DataW.TrodAll enc Try.prog W 0 (fun _ => true) true Try.f6.params.toList args.toList ds p := hA0
  rw [Try.params6] at hA hval
  obtain ⟨v0, v1, v2, d0, d1, d2, p0, p1, p2, rfl, rfl, rfl, h0, h1, h2⟩ := trodAll_three hA
  obtain ⟨n0, rfl, _, _, hn0⟩ := open_int Try.underlying22 (hval 0 22 v0 rfl rfl) h0
  obtain ⟨n1, rfl, _, _, hn1⟩ := open_int Try.underlying5 (hval 1 5 v1 rfl rfl) h1
  obtain ⟨n2, rfl, _, _, hn2⟩ := open_int Try.underlying5 (hval 2 5 v2 rfl rfl) h2
  refine (fetch_lost_row n0 (bounds_u32 hn0) n1 (bounds_u8 hn1) n2 (bounds_u8 hn2) W ).mono fun e W' ⟨he, hc⟩ => ⟨_, he, ?_⟩
  exact law_post (P := Try.prog) hW' Try.laidOut rfl (fun ds hd => by match ds, hd with | [a, b, c], _ => rfl) (fun t ht => by revert t; exact of_decide_eq_true (by kernel_rfl)) rfl Try.underlying4 hc.frame0

theorem fetchLost_holds : Rows.FetchLostSaid :=
  OpenClaim.holds_of_wide 6 Try.f6 rfl rfl rfl rfl rfl rfl rfl ⟨rfl, rfl, rfl, rfl, rfl⟩ rfl rfl rfl rfl rfl (by kernel_rfl) Try.func6 (by kernel_rfl)
    (of_decide_eq_true (by kernel_rfl)) (by unfold Func.isWrapper; first | (rw [if_pos (by decide +kernel)]; kernel_rfl) | (rw [if_neg (by decide +kernel)]; exact ⟨rfl, rfl⟩))
    (fun os started H enc _ => fetchLost_lifted os started H enc)

end Go.Proofs.Ytcapbfhiiiggdaa
