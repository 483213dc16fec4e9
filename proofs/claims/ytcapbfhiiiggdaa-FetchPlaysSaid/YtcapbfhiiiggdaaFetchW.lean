/- The reference's fetch in memory, and what its reading functions do. No conditions beyond those that each statement types. -/
import Derived.Test.YtcapbfhiiiggdaaFetchV
namespace Go.Proofs.Ytcapbfhiiiggdaa
open Go.RowKit

structure RB where
  n : Int
  had : Bool
  of : Int
  tr : List Int
structure RS where
  bs : List RB
  ps : List Int
/-- Where its memory is: the blocks' row, each one's list, the peers'. -/
structure RM where
  g : Nat
  c : Nat
  T : Nat → Value
  pv : Value
def RM.bv (m : RM) (n : Nat) : Value := if n = 0 then .slice none 0 0 else .slice (some ⟨m.g, 0, none⟩) n m.c

structure BlkAt (w : World) (g i : Nat) (x : RB) (t : Value) : Prop where
  n : w.cell? ⟨g, i * 4, none⟩ = some (.int .i64 x.n)
  had : w.cell? ⟨g, i * 4 + 1, none⟩ = some (.bool x.had)
  of : w.cell? ⟨g, i * 4 + 2, none⟩ = some (.int .i64 x.of)
  tried : w.cell? ⟨g, i * 4 + 3, none⟩ = some t
  own : w.ownsRow 0 3 1 t x.tr.length (ivs x.tr)

structure RefAt (w : World) (Ad : Nat → Prop) (q : Nat) (R : RS) (m : RM) : Prop where
  hq : Ad q
  head : w.heap[q]? = some (.cells #[m.bv R.bs.length, m.pv] 73 (0, 0))
  row : R.bs ≠ [] → ∃ C, w.heap[m.g]? = some (.cells C 75 (0, 0))
  blk : ∀ i x, R.bs[i]? = some x → BlkAt w m.g i x (m.T i)
  prs : w.ownsRow 0 3 1 m.pv R.ps.length (ivs R.ps)
  hg : R.bs ≠ [] → Ad m.g ∧ m.g ≠ q
  ht : ∀ i k, i < R.bs.length → (m.T i).ownBlock = some k → Ad k ∧ k ≠ q ∧ k ≠ m.g
  tt : ∀ i j k, i < R.bs.length → j < R.bs.length → i ≠ j → (m.T i).ownBlock = some k → (m.T j).ownBlock ≠ some k
  hp : ∀ k, m.pv.ownBlock = some k → Ad k ∧ k ≠ q ∧ (R.bs ≠ [] → k ≠ m.g)
  tp : ∀ i k, i < R.bs.length → (m.T i).ownBlock = some k → m.pv.ownBlock ≠ some k
  few : R.bs.length ≤ 32

theorem RefAt.keep {w w' : World} {Ad : Nat → Prop} {q : Nat} {R : RS} {m : RM} {S : List Nat} (h : RefAt w Ad q R m) (C : Chg S w w') (hS : ∀ k ∈ S, ¬ Ad k) : RefAt w' Ad q R m := by
  have nq : q ∉ S := fun hm => hS q hm h.hq
  have ng : R.bs ≠ [] → m.g ∉ S := fun hb hm => hS _ hm (h.hg hb).1
  have ne : ∀ (i : Nat) x, R.bs[i]? = some x → R.bs ≠ [] := fun i x hx e => by rw [e] at hx; simp at hx
  refine ⟨h.hq, (C.block q (lt_of_block h.head) nq).trans h.head, fun hb => ?_, fun i x hx => ?_, ownsRow_chg h.prs C (fun k hk hm => hS k hm (h.hp k hk).1), h.hg, h.ht, h.tt, h.hp, h.tp, h.few⟩
  · obtain ⟨D, hD⟩ := h.row hb
    exact ⟨D, (C.block _ (lt_of_block hD) (ng hb)).trans hD⟩
  · have hb := h.blk i x hx
    have hi := (List.getElem?_eq_some_iff.1 hx).1
    exact ⟨C.cell_some hb.n (ng (ne i x hx)), C.cell_some hb.had (ng (ne i x hx)), C.cell_some hb.of (ng (ne i x hx)), C.cell_some hb.tried (ng (ne i x hx)), ownsRow_chg hb.own C (fun k hk hm => hS k hm (h.ht i k hi hk).1)⟩

/-- Only blocks that are there count. -/
theorem RefAt.narrow {w : World} {Ad Be : Nat → Prop} {q : Nat} {R : RS} {m : RM} (h : RefAt w Ad q R m) (hB : ∀ k, Ad k → k < w.heap.size → Be k) : RefAt w Be q R m :=
  ⟨hB _ h.hq (lt_of_block h.head), h.head, h.row, h.blk, h.prs, fun hb => ⟨by obtain ⟨D, hD⟩ := h.row hb; exact hB _ (h.hg hb).1 (lt_of_block hD), (h.hg hb).2⟩,
    fun i k hi hk => ⟨hB _ (h.ht i k hi hk).1 (ownsRow_lt (h.blk i _ (List.getElem?_eq_getElem hi)).own k hk), (h.ht i k hi hk).2⟩, h.tt, fun k hk => ⟨hB _ (h.hp k hk).1 (ownsRow_lt h.prs k hk), (h.hp k hk).2⟩, h.tp, h.few⟩

theorem RefAt.c0 {w : World} {Ad : Nat → Prop} {q : Nat} {R : RS} {m : RM} (h : RefAt w Ad q R m) : w.cell? ⟨q, 0, none⟩ = some (m.bv R.bs.length) := by
  rw [cell_of_row _ _ _ _ _ _ h.head]; rfl
theorem RefAt.c1 {w : World} {Ad : Nat → Prop} {q : Nat} {R : RS} {m : RM} (h : RefAt w Ad q R m) : w.cell? ⟨q, 1, none⟩ = some m.pv := by
  rw [cell_of_row _ _ _ _ _ _ h.head]; rfl
theorem RefAt.fz {w : World} {Ad : Nat → Prop} {q : Nat} {R : RS} {m : RM} (h : RefAt w Ad q R m) (i : Nat) : w.frozen? ⟨q, i, none⟩ = false := frozen_of_row _ _ _ _ _ h.head
theorem RefAt.fg {w : World} {Ad : Nat → Prop} {q : Nat} {R : RS} {m : RM} (h : RefAt w Ad q R m) (hb : R.bs ≠ []) (i : Nat) : w.frozen? ⟨m.g, i, none⟩ = false := by
  obtain ⟨C, hC⟩ := h.row hb
  exact frozen_of_row _ _ _ _ _ hC

def RS.askedTo (R : RS) (d : Int) (k : Nat) : Nat := ((R.bs.take k).filter fun x => x.of == d && d != 0).length
def RS.asked (R : RS) (d : Int) : Nat := R.askedTo d R.bs.length
theorem RS.askedTo_succ {R : RS} {d : Int} {k : Nat} {x : RB} (h : R.bs[k]? = some x) : R.askedTo d (k + 1) = R.askedTo d k + if x.of == d && d != 0 then 1 else 0 := by
  unfold RS.askedTo
  obtain ⟨hk, rfl⟩ := List.getElem?_eq_some_iff.1 h
  rw [List.take_succ_eq_append_getElem hk, List.filter_append, List.length_append]
  cases hc : (R.bs[k].of == d && d != 0) <;> simp [hc]
theorem RS.askedTo_le (R : RS) (d : Int) (k : Nat) : R.askedTo d k ≤ k := by
  unfold RS.askedTo
  have h1 := List.length_filter_le (fun x : RB => x.of == d && d != 0) (R.bs.take k)
  have h2 := List.length_take_le k R.bs
  omega
theorem RM.bv_some {m : RM} {n k : Nat} (h : k < n) : m.bv n = .slice (some ⟨m.g, 0, none⟩) n m.c := by unfold RM.bv; rw [if_neg (by omega)]
theorem RM.bv_len (m : RM) (n : Nat) : ∃ a c, m.bv n = .slice a n c ∧ (∀ k, k < n → a = some ⟨m.g, 0, none⟩ ∧ c = m.c) := by
  unfold RM.bv
  by_cases h : n = 0
  · subst h
    exact ⟨none, 0, rfl, fun k hk => by omega⟩
  · rw [if_neg h]
    exact ⟨_, _, rfl, fun k _ => ⟨rfl, rfl⟩⟩

theorem ref_asked (Ad : Nat → Prop) (q : Nat) (R : RS) (m : RM) (d : Int) (w : World) (h : RefAt w Ad q R m) :
    Calls Try.prog 28 #[.pointer (some ⟨q, 0, none⟩), .int .i64 d] w fun e w' => e = .returned (.int .i64 (R.asked d)) ∧ w = w' := by
  have c0 := h.c0
  have hf := h.few
  obtain ⟨n, hn⟩ : ∃ n, R.bs.length = n := ⟨_, rfl⟩
  rw [hn] at c0 hf
  have HD : Hid (R.asked d = R.askedTo d n) := Lib.hid (by rw [← hn]; rfl)
  have HN := Lib.hid hn
  clear hn
  obtain ⟨a, c, hbv, hac⟩ := m.bv_len n
  rw [hbv] at c0
  clear hbv
  go_enter Try.func28, Try.ntmps28
  go_wp2_with fail
  go_loopw [5, 6] (fun u i wr => ∃ k : Nat, u = .int .i64 (R.askedTo d k) ∧ i = .int .i64 k ∧ k ≤ n ∧ w = wr) (fun _ i _ => n - (intOf i).toNat)
  case atStart => exact ⟨0, rfl, rfl, by omega, rfl⟩
  case round =>
    obtain ⟨k, rfl, rfl, hk, rfl⟩ := hrel
    have hle := R.askedTo_le d k
    obtain ⟨t, ht⟩ : ∃ t, R.askedTo d k = t := ⟨_, rfl⟩
    rw [ht] at hle ⊢
    have HT := Lib.hid ht
    clear ht
    by_cases hlt : k < n
    · have hlt' : (k : Int) < n := by omega
      obtain ⟨rfl, rfl⟩ := hac k hlt
      obtain ⟨x, hx⟩ : ∃ x, R.bs[k]? = some x := ⟨_, List.getElem?_eq_getElem (by rw [HN.out]; exact hlt)⟩
      have co := (h.blk k x hx).of
      have hs := RS.askedTo_succ (d := d) hx
      obtain ⟨o, ho⟩ : ∃ o, x.of = o := ⟨_, rfl⟩
      rw [ho] at co hs
      have hk0 : (0 : Int) ≤ k := by omega
      clear hx ho
      by_cases h1 : o = d
      · by_cases h2 : d = 0
        · have HS := Lib.hid hs
          have e1 : (o == d) = true := by simpa using h1
          have e2 : (d != 0) = false := by simpa using h2
          clear h1 h2 hs
          go_wp2_with fail
          go_roundw
          case rel => exact ⟨k + 1, by rw [HS.out, e1, e2, HT.out]; rfl, by go_num, by omega, by trivial⟩
          case measure => simp [intOf]; omega
        · have HS := Lib.hid hs
          have e1 : (o == d) = true := by simpa using h1
          have e2 : (d != 0) = true := by simpa using h2
          clear h1 h2 hs
          go_wp2_with fail
          go_roundw
          case rel => exact ⟨k + 1, by rw [HS.out, e1, e2, HT.out]; go_num, by go_num, by omega, by trivial⟩
          case measure => simp [intOf]; omega
      · have HS := Lib.hid hs
        have e1 : (o == d) = false := by simpa using h1
        clear h1 hs
        go_wp2_with fail
        go_roundw
        case rel => exact ⟨k + 1, by rw [HS.out, e1, HT.out]; rfl, by go_num, by omega, by trivial⟩
        case measure => simp [intOf]; omega
    · have hkn : k = n := by omega
      subst hkn
      go_wp2_with fail
      go_ret
      exact ⟨by rw [HD.out, HT.out]; rfl, rfl⟩

/-- Where a block that is asked of a device stands. -/
def RB.isAt (x : RB) (n d : Int) : Bool := x.n == n && x.of == d && d != 0
def RS.at (R : RS) (n d : Int) : Option Nat := R.bs.findIdx? (·.isAt n d)

theorem ref_at (Ad : Nat → Prop) (q : Nat) (R : RS) (m : RM) (b d : Int) (w : World) (h : RefAt w Ad q R m) :
    Calls Try.prog 38 #[.pointer (some ⟨q, 0, none⟩), .int .i64 b, .int .i64 d] w fun e w' => e = .returned (.int .i64 (match R.at b d with | some i => (i : Int) | none => -1)) ∧ w = w' := by
  have c0 := h.c0
  have hf := h.few
  obtain ⟨n, hn⟩ : ∃ n, R.bs.length = n := ⟨_, rfl⟩
  rw [hn] at c0 hf
  have HN := Lib.hid hn
  clear hn
  obtain ⟨a, c, hbv, hac⟩ := m.bv_len n
  rw [hbv] at c0
  clear hbv
  obtain ⟨z, hz⟩ : ∃ z : Int, (match R.at b d with | some i => (i : Int) | none => -1) = z := ⟨_, rfl⟩
  rw [hz]
  have HZ := Lib.hid hz
  clear hz
  go_enter Try.func38, Try.ntmps38
  go_wp2_with fail
  go_loopw [7] (fun i wr => ∃ k : Nat, i = .int .i64 k ∧ k ≤ n ∧ (∀ j x, j < k → R.bs[j]? = some x → x.isAt b d = false) ∧ w = wr) (fun i _ => n - (intOf i).toNat)
  case atStart => exact ⟨0, rfl, by omega, fun j x hj => by omega, rfl⟩
  case round =>
    obtain ⟨k, rfl, hk, hall, rfl⟩ := hrel
    have HA := Lib.hid hall
    clear hall
    by_cases hlt : k < n
    · have hlt' : (k : Int) < n := by omega
      obtain ⟨rfl, rfl⟩ := hac k hlt
      obtain ⟨x, hx⟩ : ∃ x, R.bs[k]? = some x := ⟨_, List.getElem?_eq_getElem (by rw [HN.out]; exact hlt)⟩
      have co := (h.blk k x hx).of
      have cn := (h.blk k x hx).n
      have HX := Lib.hid hx
      have hk0 : (0 : Int) ≤ k := by omega
      have hdef : x.isAt b d = (x.n == b && x.of == d && d != 0) := rfl
      obtain ⟨o, ho⟩ : ∃ o, x.of = o := ⟨_, rfl⟩
      obtain ⟨y, hy⟩ : ∃ o, x.n = o := ⟨_, rfl⟩
      rw [ho] at co hdef
      rw [hy] at cn hdef
      clear hx ho hy
      by_cases h1 : y = b
      · have e1 : (y == b) = true := by simpa using h1
        by_cases h2 : o = d
        · have e2 : (o == d) = true := by simpa using h2
          by_cases h3 : d = 0
          · have e3 : (d != 0) = false := by simpa using h3
            have HV : Hid (x.isAt b d = false) := Lib.hid (by rw [hdef]; simp [e3])
            clear hdef h1 h2 h3
            go_wp2_with fail
            go_roundw
            case rel => exact ⟨k + 1, by go_num, by omega, fun j u hj hu => by
              rcases Nat.lt_or_ge j k with h1 | h1
              · exact HA.out j u h1 hu
              · obtain rfl : j = k := by omega
                rw [HX.out] at hu
                cases hu
                exact HV.out, by trivial⟩
            case measure => simp [intOf]; omega
          · have e3 : (d != 0) = true := by simpa using h3
            have hyes : x.isAt b d = true := by rw [hdef, e1, e2, e3]; rfl
            have hzk : z = k := by
              rw [← HZ.out]
              have : R.at b d = some k := List.findIdx?_eq_some_iff_getElem.2 ⟨(List.getElem?_eq_some_iff.1 HX.out).1, by rw [(List.getElem?_eq_some_iff.1 HX.out).2]; exact hyes, fun j hj => by
                have hj2 : j < R.bs.length := by rw [HN.out]; omega
                have := HA.out j R.bs[j] hj (List.getElem?_eq_getElem hj2)
                simp [this]⟩
              rw [this]
            subst hzk
            clear hdef h1 h2 h3 hyes
            go_wp2_with fail
            go_ret
            exact ⟨rfl, rfl⟩
        · have e2 : (o == d) = false := by simpa using h2
          have HV : Hid (x.isAt b d = false) := Lib.hid (by rw [hdef]; simp [e2])
          clear hdef h1 h2
          go_wp2_with fail
          go_roundw
          case rel => exact ⟨k + 1, by go_num, by omega, fun j u hj hu => by
            rcases Nat.lt_or_ge j k with h1 | h1
            · exact HA.out j u h1 hu
            · obtain rfl : j = k := by omega
              rw [HX.out] at hu
              cases hu
              exact HV.out, by trivial⟩
          case measure => simp [intOf]; omega
      · have e1 : (y == b) = false := by simpa using h1
        have HV : Hid (x.isAt b d = false) := Lib.hid (by rw [hdef]; simp [e1])
        clear hdef h1
        go_wp2_with fail
        go_roundw
        case rel => exact ⟨k + 1, by go_num, by omega, fun j u hj hu => by
          rcases Nat.lt_or_ge j k with h1 | h1
          · exact HA.out j u h1 hu
          · obtain rfl : j = k := by omega
            rw [HX.out] at hu
            cases hu
            exact HV.out, by trivial⟩
        case measure => simp [intOf]; omega
    · have hkn : k = n := by omega
      subst hkn
      have hz : z = -1 := by
        rw [← HZ.out]
        have : R.at b d = none := List.findIdx?_eq_none_iff.2 fun x hx => by
          obtain ⟨j, hj⟩ := List.mem_iff_getElem?.1 hx
          have h1 := (List.getElem?_eq_some_iff.1 hj).1
          exact HA.out j x (by rw [← HN.out]; exact h1) hj
        rw [this]
      subst hz
      go_wp2_with fail
      go_ret
      exact ⟨rfl, rfl⟩
end Go.Proofs.Ytcapbfhiiiggdaa
