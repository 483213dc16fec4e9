/- What the law BlockKnown asks of plain lists. No conditions beyond those that each statement types. -/
import Derived.Test.YtfdhpjflkimihaaDoorBkY
import Derived.Test.YtfdhpjflkimihaaDoorBkFk
import Derived.Test.YtfdhpjflkimihaaDoorBkKa
namespace Go.Proofs.YtfdhpjflkimihaaDoor
open Go.RowKit

def oneF : Files := [(nmB, m_x16)]
theorem two_del : Fdel twoF nmA = oneF := by
  have h : ¬ nmB = nmA := by decide
  simp [Fdel, twoF, oneF, h]
theorem one_del : Fdel oneF nmA = oneF := by
  have h : ¬ nmB = nmA := by decide
  simp [Fdel, oneF, h]
theorem has_two : hasF twoF nmA = true := by decide
theorem has_one : hasF oneF nmA = false := by decide
theorem find_one : findL oneF (hkey (digest m_x16)) = some ((nmB, 0), m_x16) := by
  have ho : occ oneF (hkey (digest m_x16)) = [(nmB, 0)] := by
    unfold occ oneF
    simp only [List.flatMap_cons, List.flatMap_nil, occ1, keys_x]
    simp [occTo]
  unfold findL
  rw [ho]
  have h : pickP [(nmB, 0)] = some (nmB, 0) := by decide +kernel
  rw [h]
  have h2 : dataF oneF nmB = m_x16 := by decide
  simp only [Option.map_some, h2]
  have h3 : partZ m_x16 0 = m_x16 := by decide
  rw [show (((nmB, 0) : Pl).2 : Int) = 0 from rfl, h3]
def m_b17 : List UInt8 := [97, 98, 99, 100, 101, 102, 103, 104, 105, 106, 107, 108, 109, 110, 111, 112, 113]
def m_b16 : List UInt8 := [97, 98, 99, 100, 101, 102, 103, 104, 105, 106, 107, 108, 109, 110, 111, 112]
theorem part0 : partZ m_b17 0 = m_b16 := by decide
theorem part1 : partZ m_b17 1 = [113] := by decide
theorem part2 : partZ m_b17 2 = [] := by decide
theorem partm : partZ m_b17 (-1) = [] := by decide
def szC : Array Value := #[.int .i64 0, .int .i64 16, .int .i64 1, .int .i64 16, .int .i64 512, .int .i64 16, .int .i64 513, .int .i64 32, .int .i64 1024, .int .i64 32, .int .i64 2048, .int .i64 64, .int .i64 4096, .int .i64 128, .int .i64 4097, .int .i64 0, .int .i64 (-1), .int .i64 0]
def ctC : Array Value := #[.int .i64 0, .int .i64 0, .int .i64 1, .int .i64 1, .int .i64 16, .int .i64 1, .int .i64 17, .int .i64 2, .int .i64 512, .int .i64 32, .int .i64 513, .int .i64 17, .int .i64 4096, .int .i64 32, .int .i64 4097, .int .i64 0]
theorem sz_at : ∀ j, j < 9 → ∃ a b : Int, szC[2 * j]? = some (.int .i64 a) ∧ szC[2 * j + 1]? = some (.int .i64 b) ∧ ((bszZ a : Nat) : Int) = b
  | 0, _ => ⟨0, 16, rfl, rfl, by decide⟩
  | 1, _ => ⟨1, 16, rfl, rfl, by decide⟩
  | 2, _ => ⟨512, 16, rfl, rfl, by decide⟩
  | 3, _ => ⟨513, 32, rfl, rfl, by decide⟩
  | 4, _ => ⟨1024, 32, rfl, rfl, by decide⟩
  | 5, _ => ⟨2048, 64, rfl, rfl, by decide⟩
  | 6, _ => ⟨4096, 128, rfl, rfl, by decide⟩
  | 7, _ => ⟨4097, 0, rfl, rfl, by decide⟩
  | 8, _ => ⟨-1, 0, rfl, rfl, by decide⟩
  | n + 9, h => absurd h (by omega)
theorem ct_at : ∀ j, j < 8 → ∃ a b : Int, ctC[2 * j]? = some (.int .i64 a) ∧ ctC[2 * j + 1]? = some (.int .i64 b) ∧ ((cntZ a : Nat) : Int) = b
  | 0, _ => ⟨0, 0, rfl, rfl, by decide⟩
  | 1, _ => ⟨1, 1, rfl, rfl, by decide⟩
  | 2, _ => ⟨16, 1, rfl, rfl, by decide⟩
  | 3, _ => ⟨17, 2, rfl, rfl, by decide⟩
  | 4, _ => ⟨512, 32, rfl, rfl, by decide +kernel⟩
  | 5, _ => ⟨513, 17, rfl, rfl, by decide +kernel⟩
  | 6, _ => ⟨4096, 32, rfl, rfl, by decide +kernel⟩
  | 7, _ => ⟨4097, 0, rfl, rfl, by decide +kernel⟩
  | n + 8, h => absurd h (by omega)
def zer : List UInt8 := List.replicate 4097 0
theorem zer_len : zer.length = 4097 := List.length_replicate
theorem zer_src (w : World) : Src (w.alloc (.cells (madeCells #[.int .u8 0] 4097) 5)) (some ⟨w.heap.size, 0, none⟩) (bvs zer) := by
  have h := src_row w (madeCells #[.int .u8 0] 4097) 5 (0, 0)
  rw [toList_madeCells_one] at h
  have e : bvs zer = List.replicate 4097 (.int .u8 0) := by unfold bvs zer; rw [List.map_replicate]; rfl
  rw [e]
  exact h
theorem zer_list : listO zer = none := by unfold listO; rw [if_pos (by rw [zer_len]; decide)]
end Go.Proofs.YtfdhpjflkimihaaDoor
