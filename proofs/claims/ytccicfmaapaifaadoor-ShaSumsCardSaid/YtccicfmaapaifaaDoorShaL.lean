/- The texts of the known digests. No conditions. -/
import Derived.Test.YtccicfmaapaifaaDoorShaK
import Derived.Test.YtccicfmaapaifaaDoorShaG
namespace Go.Proofs.YtccicfmaapaifaaDoor
open Go.RowKit

theorem sched_congr {p q : Nat → UInt8} (h : ∀ i, i < 64 → p i = q i) : ∀ n t, t < n → t < 64 → sched p t = sched q t
  | 0, t, h0, _ => by omega
  | n + 1, t, h0, h1 => by
    by_cases h16 : t < 16
    · rw [sched_small p t h16, sched_small q t h16, h _ (by omega), h _ (by omega), h _ (by omega), h _ (by omega)]
    · rw [sched_big p t h16, sched_big q t h16, sched_congr h n (t - 16) (by omega) (by omega), sched_congr h n (t - 15) (by omega) (by omega), sched_congr h n (t - 7) (by omega) (by omega), sched_congr h n (t - 2) (by omega) (by omega)]
theorem rounds_congr {p q : Nat → UInt8} (h : ∀ i, i < 64 → p i = q i) (v : V8) : ∀ t, t ≤ 64 → rounds p v t = rounds q v t
  | 0, _ => rfl
  | t + 1, ht => by
    show (rounds p v t).rnd (rootL.getD t 0) (sched p t) = (rounds q v t).rnd (rootL.getD t 0) (sched q t)
    rw [rounds_congr h v t (by omega), sched_congr h (t + 1) t (by omega) (by omega)]

theorem eat_block (s : SS) (M : List UInt8) (hn : s.n % 64 = 0) (hM : M.length = 64) : (s.eat M).wd = fun i => if i < 8 then wadd (s.wd i) ((rounds (fun i => M.getD i 0) (V8.of s.wd) 64).get i) else s.wd i := by
  have h := s.eat_fill M (by omega)
  rw [hn, hM] at h
  rw [h, if_pos rfl]
  have hc : ∀ i, i < 64 → (s.fill M).rs i = M.getD i 0 := fun i hi => by
    show (if s.n % 64 ≤ i ∧ i < s.n % 64 + M.length then M.getD (i - s.n % 64) 0 else s.rs i) = _
    rw [hn, hM, if_pos (by omega), Nat.sub_zero]
  have hr := rounds_congr (q := fun i => M.getD i 0) hc (V8.of s.wd) 64 (Nat.le_refl _)
  have hf : (s.fill M).wd = s.wd := rfl
  funext i
  show (if i < 8 then wadd ((s.fill M).wd i) ((rounds (s.fill M).rs (V8.of (s.fill M).wd) 64).get i) else (s.fill M).wd i) = _
  rw [hf, hr]

theorem digest_eq (m : List UInt8) : digest m = (ss0.eat (m ++ padOf m.length)).hash := by
  have h : (ss0.eat m).n = m.length := by
    rw [SS.eat_n]
    show 0 + m.length = _
    omega
  unfold digest SS.sum
  rw [h, ← SS.eat_append]
def m_abc : List UInt8 := [97, 98, 99]
theorem M_abc : m_abc ++ padOf m_abc.length = [97, 98, 99, 128, 0, 0, 0, 0, 0, 0, 0, 0, 0, 0, 0, 0, 0, 0, 0, 0, 0, 0, 0, 0, 0, 0, 0, 0, 0, 0, 0, 0, 0, 0, 0, 0, 0, 0, 0, 0, 0, 0, 0, 0, 0, 0, 0, 0, 0, 0, 0, 0, 0, 0, 0, 0, 0, 0, 0, 0, 0, 0, 0, 24] := by kernel_rfl
theorem text_abc : textTo (digest m_abc) 32 = [98, 97, 55, 56, 49, 54, 98, 102, 56, 102, 48, 49, 99, 102, 101, 97, 52, 49, 52, 49, 52, 48, 100, 101, 53, 100, 97, 101, 50, 50, 50, 51, 98, 48, 48, 51, 54, 49, 97, 51, 57, 54, 49, 55, 55, 97, 57, 99, 98, 52, 49, 48, 102, 102, 54, 49, 102, 50, 48, 48, 49, 53, 97, 100] := by
  have h0 := eat_block ss0 [97, 98, 99, 128, 0, 0, 0, 0, 0, 0, 0, 0, 0, 0, 0, 0, 0, 0, 0, 0, 0, 0, 0, 0, 0, 0, 0, 0, 0, 0, 0, 0, 0, 0, 0, 0, 0, 0, 0, 0, 0, 0, 0, 0, 0, 0, 0, 0, 0, 0, 0, 0, 0, 0, 0, 0, 0, 0, 0, 0, 0, 0, 0, 24] rfl rfl
  have hr : rounds (fun i => ([97, 98, 99, 128, 0, 0, 0, 0, 0, 0, 0, 0, 0, 0, 0, 0, 0, 0, 0, 0, 0, 0, 0, 0, 0, 0, 0, 0, 0, 0, 0, 0, 0, 0, 0, 0, 0, 0, 0, 0, 0, 0, 0, 0, 0, 0, 0, 0, 0, 0, 0, 0, 0, 0, 0, 0, 0, 0, 0, 0, 0, 0, 0, 24] : List UInt8).getD i 0) (V8.of ss0.wd) 64 = _ := r_abc_64
  rw [hr] at h0
  rw [digest_eq, M_abc]
  unfold SS.hash
  rw [h0]
  show _ = _
  kernel_rfl
def m_none : List UInt8 := []
theorem M_none : m_none ++ padOf m_none.length = [128, 0, 0, 0, 0, 0, 0, 0, 0, 0, 0, 0, 0, 0, 0, 0, 0, 0, 0, 0, 0, 0, 0, 0, 0, 0, 0, 0, 0, 0, 0, 0, 0, 0, 0, 0, 0, 0, 0, 0, 0, 0, 0, 0, 0, 0, 0, 0, 0, 0, 0, 0, 0, 0, 0, 0, 0, 0, 0, 0, 0, 0, 0, 0] := by kernel_rfl
theorem text_none : textTo (digest m_none) 32 = [101, 51, 98, 48, 99, 52, 52, 50, 57, 56, 102, 99, 49, 99, 49, 52, 57, 97, 102, 98, 102, 52, 99, 56, 57, 57, 54, 102, 98, 57, 50, 52, 50, 55, 97, 101, 52, 49, 101, 52, 54, 52, 57, 98, 57, 51, 52, 99, 97, 52, 57, 53, 57, 57, 49, 98, 55, 56, 53, 50, 98, 56, 53, 53] := by
  have h0 := eat_block ss0 [128, 0, 0, 0, 0, 0, 0, 0, 0, 0, 0, 0, 0, 0, 0, 0, 0, 0, 0, 0, 0, 0, 0, 0, 0, 0, 0, 0, 0, 0, 0, 0, 0, 0, 0, 0, 0, 0, 0, 0, 0, 0, 0, 0, 0, 0, 0, 0, 0, 0, 0, 0, 0, 0, 0, 0, 0, 0, 0, 0, 0, 0, 0, 0] rfl rfl
  have hr : rounds (fun i => ([128, 0, 0, 0, 0, 0, 0, 0, 0, 0, 0, 0, 0, 0, 0, 0, 0, 0, 0, 0, 0, 0, 0, 0, 0, 0, 0, 0, 0, 0, 0, 0, 0, 0, 0, 0, 0, 0, 0, 0, 0, 0, 0, 0, 0, 0, 0, 0, 0, 0, 0, 0, 0, 0, 0, 0, 0, 0, 0, 0, 0, 0, 0, 0] : List UInt8).getD i 0) (V8.of ss0.wd) 64 = _ := r_none_64
  rw [hr] at h0
  rw [digest_eq, M_none]
  unfold SS.hash
  rw [h0]
  show _ = _
  kernel_rfl
def m_long : List UInt8 := [97, 98, 99, 100, 98, 99, 100, 101, 99, 100, 101, 102, 100, 101, 102, 103, 101, 102, 103, 104, 102, 103, 104, 105, 103, 104, 105, 106, 104, 105, 106, 107, 105, 106, 107, 108, 106, 107, 108, 109, 107, 108, 109, 110, 108, 109, 110, 111, 109, 110, 111, 112, 110, 111, 112, 113]
theorem M_long : m_long ++ padOf m_long.length = [97, 98, 99, 100, 98, 99, 100, 101, 99, 100, 101, 102, 100, 101, 102, 103, 101, 102, 103, 104, 102, 103, 104, 105, 103, 104, 105, 106, 104, 105, 106, 107, 105, 106, 107, 108, 106, 107, 108, 109, 107, 108, 109, 110, 108, 109, 110, 111, 109, 110, 111, 112, 110, 111, 112, 113, 128, 0, 0, 0, 0, 0, 0, 0] ++ [0, 0, 0, 0, 0, 0, 0, 0, 0, 0, 0, 0, 0, 0, 0, 0, 0, 0, 0, 0, 0, 0, 0, 0, 0, 0, 0, 0, 0, 0, 0, 0, 0, 0, 0, 0, 0, 0, 0, 0, 0, 0, 0, 0, 0, 0, 0, 0, 0, 0, 0, 0, 0, 0, 0, 0, 0, 0, 0, 0, 0, 0, 1, 192] := by kernel_rfl
theorem text_long : textTo (digest m_long) 32 = [50, 52, 56, 100, 54, 97, 54, 49, 100, 50, 48, 54, 51, 56, 98, 56, 101, 53, 99, 48, 50, 54, 57, 51, 48, 99, 51, 101, 54, 48, 51, 57, 97, 51, 51, 99, 101, 52, 53, 57, 54, 52, 102, 102, 50, 49, 54, 55, 102, 54, 101, 99, 101, 100, 100, 52, 49, 57, 100, 98, 48, 54, 99, 49] := by
  have h0 := eat_block ss0 [97, 98, 99, 100, 98, 99, 100, 101, 99, 100, 101, 102, 100, 101, 102, 103, 101, 102, 103, 104, 102, 103, 104, 105, 103, 104, 105, 106, 104, 105, 106, 107, 105, 106, 107, 108, 106, 107, 108, 109, 107, 108, 109, 110, 108, 109, 110, 111, 109, 110, 111, 112, 110, 111, 112, 113, 128, 0, 0, 0, 0, 0, 0, 0] rfl rfl
  have hr : rounds (fun i => ([97, 98, 99, 100, 98, 99, 100, 101, 99, 100, 101, 102, 100, 101, 102, 103, 101, 102, 103, 104, 102, 103, 104, 105, 103, 104, 105, 106, 104, 105, 106, 107, 105, 106, 107, 108, 106, 107, 108, 109, 107, 108, 109, 110, 108, 109, 110, 111, 109, 110, 111, 112, 110, 111, 112, 113, 128, 0, 0, 0, 0, 0, 0, 0] : List UInt8).getD i 0) (V8.of ss0.wd) 64 = _ := r_long0_64
  rw [hr] at h0
  have h1 := eat_block (ss0.eat [97, 98, 99, 100, 98, 99, 100, 101, 99, 100, 101, 102, 100, 101, 102, 103, 101, 102, 103, 104, 102, 103, 104, 105, 103, 104, 105, 106, 104, 105, 106, 107, 105, 106, 107, 108, 106, 107, 108, 109, 107, 108, 109, 110, 108, 109, 110, 111, 109, 110, 111, 112, 110, 111, 112, 113, 128, 0, 0, 0, 0, 0, 0, 0]) [0, 0, 0, 0, 0, 0, 0, 0, 0, 0, 0, 0, 0, 0, 0, 0, 0, 0, 0, 0, 0, 0, 0, 0, 0, 0, 0, 0, 0, 0, 0, 0, 0, 0, 0, 0, 0, 0, 0, 0, 0, 0, 0, 0, 0, 0, 0, 0, 0, 0, 0, 0, 0, 0, 0, 0, 0, 0, 0, 0, 0, 0, 1, 192] (by rw [SS.eat_n]; rfl) rfl
  rw [h0] at h1
  have hv : V8.of (fun i => if i < 8 then wadd (ss0.wd i) (V8.get ⟨467431279, 2249353488, 4143203320, 3170691362, 634536714, 801148805, 2898745622, 2519565857⟩ i) else ss0.wd i) = v_long1 := by kernel_rfl
  rw [hv] at h1
  have hr1 : rounds (fun i => ([0, 0, 0, 0, 0, 0, 0, 0, 0, 0, 0, 0, 0, 0, 0, 0, 0, 0, 0, 0, 0, 0, 0, 0, 0, 0, 0, 0, 0, 0, 0, 0, 0, 0, 0, 0, 0, 0, 0, 0, 0, 0, 0, 0, 0, 0, 0, 0, 0, 0, 0, 0, 0, 0, 0, 0, 0, 0, 0, 0, 0, 0, 1, 192] : List UInt8).getD i 0) v_long1 64 = _ := r_long1_64
  rw [hr1] at h1
  rw [digest_eq, M_long, SS.eat_append]
  unfold SS.hash
  rw [h1]
  show _ = _
  kernel_rfl
end Go.Proofs.YtccicfmaapaifaaDoor
