/- What Asked of the package fetch does to memory. No conditions beyond those that each statement types. -/
import Derived.Test.YtcapbfhiiiggdaaFetch
import Derived.Test.YtcapbfhiiiggdaaAgg
namespace Go.Proofs.Ytcapbfhiiiggdaa
open Go.RowKit

theorem Try.infoBlocks : (Try.prog.info? 61).map (·.size) = some 608 := by kernel_rfl
theorem Try.infoBlock : (Try.prog.info? 60).map (·.size) = some 19 := by kernel_rfl
theorem Try.infoPeers : (Try.prog.info? 58).map (·.size) = some 17 := by kernel_rfl
theorem Try.infoBool : (Try.prog.info? 4).map (·.size) = some 1 := by kernel_rfl

/-- All blocks, by value. -/
structure BlocksV (s : FS) (V : Array Value) : Prop where
  load : ∀ (w : World) (b : Nat), FetchAt w b s → (Instr.loadAt 61 (.pointer (some ⟨b, 0, none⟩))).run Try.prog w = .ok (.agg V) w
  part : ∀ n : Nat, n < 32 → ∃ E : Array Value, E.size = 19 ∧ E.all (·.oneCell') = true ∧ E[0]? = some (.int .i64 (s.is n)) ∧ E[1]? = some (.int .i64 (s.of n)) ∧
    ∀ w : World, (Instr.index 61 (.agg V) (.int .i64 n)).run Try.prog w = .ok (.agg E) w

theorem blocksV (s : FS) : ∃ V, BlocksV s V := by
  refine ⟨cut s.cell 0 608, ⟨fun w b h => ?_, fun n hn => ?_⟩⟩
  · exact run_loadAt_cut w _ b 0 608 s.cell _ Try.underlying61 rfl Try.infoBlocks (fun j hj => by rw [Nat.zero_add]; exact h.at j (by omega))
  · refine ⟨cut s.cell (0 + n * 19) 19, cut_size _ _ _, cut_one _ _ _ (fun j hj => ?_), ?_, ?_, fun w => ?_⟩
    · have h1 := s.cells_one
      simp only [FS.cells, List.all_toArray, List.all_map, List.all_eq_true] at h1
      exact h1 _ (List.mem_range.2 (by omega))
    · rw [cut_get _ _ _ _ (by omega), Nat.zero_add, Nat.add_zero, s.cell_is n hn]
    · rw [cut_get _ _ _ _ (by omega), Nat.zero_add, s.cell_of n hn]
    · exact run_index_cut w _ _ 32 608 19 0 s.cell _ Try.underlying61 Try.underlying60 rfl Try.infoBlock n hn (by omega)

/-- All peers, by value. -/
structure PeersV (s : FS) (V : Array Value) : Prop where
  load : ∀ (w : World) (b : Nat), FetchAt w b s → (Instr.loadAt 58 (.pointer (some ⟨b, 608, none⟩))).run Try.prog w = .ok (.agg V) w
  part : ∀ n : Nat, n < 17 → ∀ w : World, (Instr.index 58 (.agg V) (.int .i64 n)).run Try.prog w = .ok (.bool (s.pe n)) w

theorem peersV (s : FS) : ∃ V, PeersV s V := by
  refine ⟨cut s.cell 608 17, ⟨fun w b h => ?_, fun n hn w => ?_⟩⟩
  · exact run_loadAt_cut w _ b 608 17 s.cell _ Try.underlying58 rfl Try.infoPeers (fun j hj => h.at _ (by omega))
  · have := run_index_cut1 (P := Try.prog) w 58 _ 17 17 608 s.cell _ Try.underlying58 Try.underlying4 rfl Try.infoBool n hn hn
    rw [this, s.cell_pe n hn]

def FS.asks (s : FS) (dev : Int) (n : Nat) : Bool := s.is n == 2 && s.of n == dev
def FS.askedTo (s : FS) (dev : Int) (n : Nat) : Nat := (List.range n).countP (s.asks dev)
def FS.asked (s : FS) (dev : Int) : Nat := s.askedTo dev 32

theorem FS.askedTo_succ (s : FS) (dev : Int) (n : Nat) : s.askedTo dev (n + 1) = s.askedTo dev n + if s.asks dev n then 1 else 0 := by
  rw [FS.askedTo, List.range_succ, List.countP_append, List.countP_singleton]; rfl

theorem FS.askedTo_le (s : FS) (dev : Int) (n : Nat) : s.askedTo dev n ≤ n := by
  have := List.countP_le_length (p := s.asks dev) (l := List.range n)
  simpa [FS.askedTo] using this

set_option maxHeartbeats 400000 in
theorem fetch_asked (b : Nat) (s : FS) (dev : Int) (w : World) (h : FetchAt w b s) :
    Calls Try.prog 11 #[.pointer (some ⟨b, 0, none⟩), .int .i64 dev] w fun e w' => e = .returned (.int .i64 (s.asked dev)) ∧ Chg [] w w' := by
  obtain ⟨V, hV⟩ := blocksV s
  go_enter Try.func11, Try.ntmps11
  go_wp2_with fail
  refine (fetch_is b s _ h).mono ?_
  rintro r w' ⟨rfl, rfl⟩
  go_wp2_with (refine wpList_load_x _ rfl 61 _ rfl (.agg V) (hV.load _ _ h) ?_)
  go_loopw [5, 15] (fun m i wr => ∃ k : Nat, m = .int .i64 (s.askedTo dev k) ∧ i = .int .i64 k ∧ k ≤ 32 ∧ Chg [] w wr) (fun _ i _ => 32 - (intOf i).toNat)
  case atStart => exact ⟨0, rfl, rfl, by omega, Chg.refl _ _⟩
  case round =>
    obtain ⟨k, rfl, rfl, hk, C⟩ := hrel
    by_cases hlt : k < 32
    · obtain ⟨E, hE, hE1, e0, e1, hix⟩ := hV.part k hlt
      have hlt' : (k : Int) < 32 := by omega
      have st : ∀ c : Array Value, c.size = 19 → (storeCells ⟨wr.heap.size, 0, none⟩ E.toList 0).run Try.prog (wr.alloc (.cells c 60)) = .ok () (wr.alloc (.cells E 60)) := fun c hc =>
        run_storeCells_new wr 60 c E (by rw [hE]; exact Try.infoBlock) (by rw [hc, hE]) hE1
      have hnx := heap_alloc_new wr (Obj.cells E 60)
      have x0 : (wr.alloc (Obj.cells E 60)).cell? ⟨wr.heap.size, 0, none⟩ = some (.int .i64 (s.is k)) := by rw [cell_of_row _ _ 0 _ _ _ hnx, e0]
      have x1 : (wr.alloc (Obj.cells E 60)).cell? ⟨wr.heap.size, 1, none⟩ = some (.int .i64 (s.of k)) := by rw [cell_of_row _ _ 1 _ _ _ hnx, e1]
      have C' := C.trans (Chg.alloc [] wr (Obj.cells E 60)) (by simp)
      have hle := s.askedTo_le dev k
      clear hE1 e0 e1 hnx hV h
      have hs := s.askedTo_succ dev k
      by_cases h1 : s.is k = 2
      · have h1' : (s.is k == 2) = true := by simpa using h1
        by_cases h2 : s.of k = dev
        · have h2' : (s.of k == dev) = true := by simpa using h2
          have hs' : (s.askedTo dev k : Int) + 1 = ((s.askedTo dev (k + 1) : Nat) : Int) := by rw [hs]; simp [FS.asks, h1', h2']
          clear hs h1 h2
          go_wp2_with (refine wpList_index_x _ rfl 61 _ _ rfl (.agg E) (hix _) ?_)
          go_roundw
          case rel => exact ⟨k + 1, by first | rfl | rw [hs'], rfl, by omega, C'⟩
          case measure => simp [intOf]; omega
        · have h2' : (s.of k == dev) = false := by simpa using h2
          have hs' : s.askedTo dev (k + 1) = s.askedTo dev k := by rw [hs]; simp [FS.asks, h2']
          clear hs h1 h2
          go_wp2_with (refine wpList_index_x _ rfl 61 _ _ rfl (.agg E) (hix _) ?_)
          go_roundw
          case rel => exact ⟨k + 1, by first | rfl | rw [hs'], rfl, by omega, C'⟩
          case measure => simp [intOf]; omega
      · have h1' : (s.is k == 2) = false := by simpa using h1
        have hs' : s.askedTo dev (k + 1) = s.askedTo dev k := by rw [hs]; simp [FS.asks, h1']
        clear hs h1
        go_wp2_with (refine wpList_index_x _ rfl 61 _ _ rfl (.agg E) (hix _) ?_)
        go_roundw
        case rel => exact ⟨k + 1, by first | rfl | rw [hs'], rfl, by omega, C'⟩
        case measure => simp [intOf]; omega
    · have hk32 : k = 32 := by omega
      subst hk32
      go_wp2_with fail
      go_ret
      exact ⟨rfl, C⟩
end Go.Proofs.Ytcapbfhiiiggdaa
