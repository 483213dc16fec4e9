/- What the law ShaParts does: true, and it leaves what was there. No conditions beyond those that each statement types. -/
import Derived.Test.YtccicfmaapaifaaDoorShaQ
namespace Go.Proofs.YtccicfmaapaifaaDoor
open Go.RowKit

/-- A part: a slice of bytes that came in. -/
structure PartL where
  ao : Option Addr
  c : Nat
  l : List UInt8
structure PartAt (w : World) (p : PartL) : Prop where
  src : Src w p.ao (bvs p.l)
  none : p.ao = none → p.c = 0
  cap : p.l.length ≤ p.c
  few : p.l.length ≤ 140737488355328
def PartsAt (w : World) (po : Option Addr) (l : List PartL) : Prop := ∀ (i : Nat) (p : PartL), l[i]? = some p → (∃ a, po = some a ∧ w.cell? (a.add i) = some (.slice p.ao p.l.length p.c)) ∧ PartAt w p
theorem PartAt.chg {w w' : World} {p : PartL} (h : PartAt w p) (C : Chg [] w w') : PartAt w' p := ⟨h.src.chg C (by simp), h.none, h.cap, h.few⟩

def cat (l : List PartL) (k : Nat) : List UInt8 := (l.take k).flatMap (·.l)
theorem cat_succ {l : List PartL} {k : Nat} {p : PartL} (h : l[k]? = some p) : cat l (k + 1) = cat l k ++ p.l := by
  unfold cat
  obtain ⟨hk, rfl⟩ := List.getElem?_eq_some_iff.1 h
  rw [List.take_succ_eq_append_getElem hk, List.flatMap_append]
  simp
theorem cat_le {l : List PartL} (hl : ∀ (i : Nat) (p : PartL), l[i]? = some p → p.l.length ≤ 140737488355328) : ∀ k, k ≤ l.length → (cat l k).length ≤ k * 140737488355328
  | 0, _ => by simp [cat]
  | k + 1, hk => by
    have ih := cat_le hl k (by omega)
    have hx := List.getElem?_eq_getElem (l := l) (i := k) (by omega)
    have := hl k _ hx
    rw [cat_succ hx, List.length_append]
    omega
theorem cat_mono {l : List PartL} {k m : Nat} (h : k ≤ m) : (cat l k).length ≤ (cat l m).length := by
  induction m with
  | zero =>
    have : k = 0 := by omega
    subst this
    exact Nat.le_refl _
  | succ m ih =>
    by_cases hk : k ≤ m
    · refine Nat.le_trans (ih hk) ?_
      by_cases hm : m < l.length
      · rw [cat_succ (List.getElem?_eq_getElem hm), List.length_append]; omega
      · unfold cat
        rw [List.take_of_length_le (by omega), List.take_of_length_le (by omega)]
        exact Nat.le_refl _
    · have : k = m + 1 := by omega
      subst this
      exact Nat.le_refl _

theorem wpList_neq_x {P : Program} {w : World} {ops : Array Oper} {rest : List Oper} {o : Oper} {a : Act} {Q : Exit → Act → World → Prop} (hgd : Region.wanted o (yielded ops a.tmps) = true) (t t2 : TypeId) (x y : Operand) (ho : o.op = .binOp .neq t x y t2) (b : Bool) (X Y : Value) (hx : a.eval x = X) (hy : a.eval y = Y)
    (hg : (eqGuard .neq t x y X Y).run P w = .ok () w) (hr : (binOp .neq t X Y).run P w = .ok (.bool b) w) (h : wpList P ops Q rest (a.put o.dst (.bool b)) w) : wpList P ops Q (o :: rest) a w := by
  refine wpList_run_x w hgd (.bool b) w ?_ h
  simp only [execOp, ho, hx, hy, hg, hr, Result.andThen, Sem.run_bind, Sem.run_pure]
theorem hash_guard_neq (x y : Operand) (X Y : Array Value) (w : World) : (eqGuard .neq 23 x y (.agg X) (.agg Y)).run Tryd.prog w = .ok () w := by
  have h : Tryd.prog.eqGuardType Tryd.prog.depth 23 = false := by kernel_rfl
  have hp : (program).run Tryd.prog w = .ok Tryd.prog w := rfl
  simp [eqGuard, hp, h, Result.andThen]
theorem run_neq_self (f : Nat → UInt8) (w : World) : (binOp .neq 23 (hashV f) (hashV f)).run Tryd.prog w = .ok (.bool false) w := by
  have h := run_eq_hash f f w
  rw [sameHash_self] at h
  unfold hashV at h ⊢
  rw [run_eql_struct] at h
  rw [run_neq_struct]
  generalize (Op.equalIn 10000 23 (.agg (hashC f)) (.agg (hashC f))).run Tryd.prog w = q at h ⊢
  cases q with
  | ok b w2 => simp only [Result.andThen, Result.ok.injEq, Value.bool.injEq] at h ⊢; rw [h.1, h.2]; exact ⟨rfl, rfl⟩
  | halt x w2 => simp [Result.andThen] at h

/-- A row of the law's own whose bytes are turned, one by one. -/
def Flip (w : World) (g n : Nat) (wr : World) : Prop := Chg [g] w wr ∧ ∀ j, j < n → (∃ x : Int, wr.cell? ⟨g, j, none⟩ = some (.int .u8 x)) ∧ wr.frozen? ⟨g, j, none⟩ = false
theorem Flip.step {w : World} {g n : Nat} {wr : World} (h : Flip w g n wr) (t : Nat) (y : Int) : Flip w g n (wr.setCell ⟨g, t, none⟩ (.int .u8 y)) := by
  refine ⟨h.1.trans (Chg.setCell (S := [g]) wr _ _ (.inl (by simp))) (fun k hk => .inl hk), fun j hj => ?_⟩
  obtain ⟨⟨x, hx⟩, hf⟩ := h.2 j hj
  refine ⟨?_, ?_⟩
  · by_cases hjt : t = j
    · subst hjt
      exact ⟨y, World.cell?_setCell_same _ _ _ hx⟩
    · exact ⟨x, (World.cell?_setCell_other _ _ _ _ (fun e => hjt (by injection e))).trans hx⟩
  · have : (wr.setCell ⟨g, t, none⟩ (.int .u8 y)).frozen? ⟨g, j, none⟩ = wr.frozen? ⟨g, j, none⟩ := by
      unfold World.frozen? World.setCell
      simp only [Array.getElem?_modify]
      by_cases hb : (⟨g, t, none⟩ : Addr).block = g
      · simp only [if_true]
        cases hh : wr.heap[g]? with
        | none => rfl
        | some o => cases o <;> rfl
      · exact absurd rfl hb
    rw [this]; exact hf
theorem Flip.start {w : World} {g n : Nat} {e : TypeId} {ao : Option Addr} {c : Nat} {l : List UInt8} (h : w.ownsRow 0 e 1 (.slice ao n c) n (bvs l)) (hn : l.length = n) (hg : 0 < n → ao = some ⟨g, 0, none⟩) : Flip w g n w := by
  refine ⟨Chg.refl _ _, fun j hj => ?_⟩
  have ha := hg (by omega)
  subst ha
  have hs := (ownsRow_src h).cell _ rfl j (bv (l[j]'(by omega))) (by simp [bvs, show j < l.length by omega])
  rw [addr_add0] at hs
  refine ⟨⟨_, hs⟩, ?_⟩
  rcases h.2 with ⟨hv, _⟩ | ⟨g', cap, cur, hv, _, hh, _⟩
  · simp at hv
  · simp only [Value.slice.injEq, Option.some.injEq, Addr.mk.injEq] at hv
    obtain ⟨⟨rfl, _, _⟩, _, _⟩ := hv
    exact frozen_of_row _ _ _ _ _ hh

set_option maxRecDepth 100000 in
set_option maxHeartbeats 16000000 in
theorem sha_parts (po : Option Addr) (pc : Nat) (l : List PartL) (hl : l.length ≤ 9223372036854775807) (W : World) (hP : PartsAt W po l) (hL : Laid W) :
    Calls Tryd.prog 6 #[.slice po l.length pc] W (Holds W) := by
  obtain ⟨iu, hiu, hiuz, hius, hiub⟩ := info_parts Tryd.infoU8
  have hfew : ∀ (i : Nat) (p : PartL), l[i]? = some p → p.l.length ≤ 140737488355328 := fun i p hp => (hP i p hp).2.few
  obtain ⟨N, hN⟩ : ∃ N, l.length = N := ⟨_, rfl⟩
  have hN' : (N : Int) ≤ 9223372036854775807 := by omega
  have HN := Lib.hid hN
  have CL : Hid (∀ k, k ≤ N → (cat l k).length ≤ k * 140737488355328) := Lib.hid (fun k hk => cat_le hfew k (by omega))
  have HF := Lib.hid hfew
  have HP := Lib.hid hP
  have hWs := hL.size
  rw [hN]
  clear hN hl hfew hP
  go_enter Tryd.func6, Tryd.ntmps6
  go_wp2_with fail
  go_loopw [3, 4] (fun v i wr => ∃ (k : Nat) (n : Int), v = .int .i64 n ∧ i = .int .i64 k ∧ k ≤ N ∧ (N ≤ 200 → n = (cat l k).length) ∧ W = wr) (fun _ i _ => N - (intOf i).toNat)
  case atStart => exact ⟨0, 0, rfl, rfl, by omega, fun _ => rfl, rfl⟩
  case round =>
    obtain ⟨k, n, rfl, rfl, hk, hn, rfl⟩ := hrel
    have HNN := Lib.hid hn
    clear hn
    by_cases hlt : k < N
    · have hlt' : (k : Int) < N := by omega
      have hk0 : (0 : Int) ≤ k := by omega
      obtain ⟨p, hp⟩ : ∃ p, l[k]? = some p := ⟨_, List.getElem?_eq_getElem (by rw [HN.out]; exact hlt)⟩
      obtain ⟨⟨a, rfl, ca⟩, hpa⟩ := HP.out k p hp
      have HS := Lib.hid (cat_succ hp)
      have hpf := hpa.few
      have hcl := CL.out k (by omega)
      obtain ⟨L, hLL⟩ : ∃ L, p.l.length = L := ⟨_, rfl⟩
      rw [hLL] at ca hpf
      have HLL := Lib.hid hLL
      clear hp hpa hLL
      by_cases h200 : N ≤ 200
      · have hw : IntKind.i64.wrap (n + (L : Int)) = n + L := by rw [IntKind.wrap_i64]; have := HNN.out h200; omega
        go_wp2_with fail
        go_roundw
        case rel => exact ⟨k + 1, n + L, rfl, by go_num, by omega, fun _ => by rw [HS.out, List.length_append, HLL.out, HNN.out h200]; omega, by trivial⟩
        case measure => simp [intOf]; omega
      · go_wp2_with fail
        go_roundw
        case rel => exact ⟨k + 1, _, rfl, by go_num, by omega, fun h => absurd h h200, by trivial⟩
        case measure => simp [intOf]; omega
    · have hkn : k = N := by omega
      subst hkn
      clear hlt
      by_cases h200 : k ≤ 200
      · have hn := HNN.out h200
        have h200' : ¬ (200 : Int) < k := by omega
        by_cases hbig : 20000 < n
        · clear hn
          go_wp2_with fail
          refine (sha_awake _ hL).mono ?_
          rintro e w1 ⟨rfl, C1⟩
          go_wp2_with fail
          go_ret
          exact ⟨rfl, C1⟩
        · have hT : (cat l k).length ≤ 20000 := by omega
          have HNL := Lib.hid hn
          clear hn HNN CL
          go_wp2_with fail
          refine (sha_new _ hL).mono ?_
          rintro e w1 ⟨b1, rfl, hb1, S1, C1⟩
          go_wp2_with fail
          refine (sha_new _ (hL.chg C1 (by simp))).mono ?_
          rintro e w2 ⟨b2, rfl, hb2, S2, C2⟩
          have S12 := Lib.hid (S1.chg C2 (by simp))
          have S22 := Lib.hid S2
          have hb12 := S1.lt
          have hb2s := S2.lt
          have T2 := C1.trans C2 (by simp)
          have hne12 : b1 ≠ b2 := by omega
          have h1b1 : 1 < b1 := by omega
          have h1b2 : 1 < b2 := by have := C1.size; omega
          have hWb2 : W.heap.size ≤ b2 := by have := C1.size; omega
          have hW2 : b1 < w2.heap.size := by have := C2.size; omega
          clear S1 S2 C1 C2 hb2
          go_wp2_with fail
          go_loopw [7, 8] (fun v i wr => ∃ (j n c : Nat) (a : Option Addr), v = .slice a n c ∧ i = .int .i64 j ∧ j ≤ k ∧ (cat l j).length = n ∧ wr.ownsRow 0 5 1 (.slice a n c) n (bvs (cat l j)) ∧ Hid (StateAt wr b1 (ss0.eat (cat l j))) ∧ Hid (StateAt wr b2 (ss0.eat (cat l j))) ∧ Chg [] W wr ∧ ∀ q, (Value.slice a n c).ownBlock = some q → b1 < q ∧ b2 < q) (fun _ i _ => k - (intOf i).toNat)
          case atStart => exact ⟨0, 0, 0, none, rfl, rfl, by omega, rfl, World.ownsRow_nil _ _ _ _, S12, S22, T2, fun q hq => by cases hq⟩
          case round =>
            clear S12 S22 T2
            obtain ⟨j, n, c, a, rfl, rfl, hj, hn, ho, HS1, HS2, T, hnew⟩ := hrel
            have hb1s := HS1.out.lt
            have hb2s' := HS2.out.lt
            by_cases hlt : j < k
            · have hlt' : (j : Int) < k := by omega
              have hj0 : (0 : Int) ≤ j := by omega
              obtain ⟨p, hp⟩ : ∃ p, l[j]? = some p := ⟨_, List.getElem?_eq_getElem (by rw [HN.out]; exact hlt)⟩
              obtain ⟨⟨ad, rfl, cp⟩, hpa⟩ := HP.out j p hp
              have cp2 := T.cell_some cp (by simp)
              have hpa2 := hpa.chg T
              have HS := Lib.hid (cat_succ hp)
              have hcl : (cat l j).length ≤ 20000 := Nat.le_trans (cat_mono (by omega)) hT
              have hcl1 : (cat l (j + 1)).length ≤ 20000 := Nat.le_trans (cat_mono (by omega)) hT
              have hpf := hpa.few
              obtain ⟨L, hLL⟩ : ∃ L, p.l.length = L := ⟨_, rfl⟩
              rw [hn] at hcl
              rw [HS.out, List.length_append, hn, hLL] at hcl1
              have HLL := Lib.hid hLL
              have HNN := Lib.hid hn
              have HPA := Lib.hid hpa
              have HPJ := Lib.hid hp
              rw [hLL] at cp2 hpf
              have hps : Src (wr.alloc (Obj.cells #[] 5)) p.ao (bvs p.l) := hpa2.src.chg (Chg.alloc [] _ _) (by simp)
              have hpn := hpa2.none
              have cp3 := (Chg.alloc [] wr (Obj.cells #[] 5)).cell_some cp2 (by simp)
              clear hp cp hpa hpa2 hLL hn
              have hWr := T.size
              go_wp2_with (at_builtin; refine wpList_append_x _ rfl _ _ 39 rfl 5 iu _ 1 1 Tryd.underlying39 hiu hiuz hius hiub rfl (by decide) (.slice (some ⟨wr.heap.size, 0, none⟩) 0 0) 0 [] rfl (own_empty rfl) p.ao L p.c (bvs p.l) rfl (by rw [bvs_length, HLL.out]; omega) hps hpn (bvs_one _) (by unfold maxLen; omega) (by omega) ?_)
              intro ao1 c1 w1 hown1 hgr1 hblk1
              go_upto_region 16 with (fail)
              have D1 : Chg [] wr w1 := (Chg.alloc [] wr (Obj.cells #[] 5)).trans (Chg.grown (S := [wr.heap.size]) hgr1 (fun q hq => .inl (by have := Option.some.inj hq; simp at this; simp [this]))) (fun q hq => by simp at hq; right; omega)
              have hown1' : w1.ownsRow 0 5 1 (.slice ao1 L c1) L (bvs p.l) := by simpa using hown1
              have hn1 : ∀ q, (Value.slice ao1 L c1).ownBlock = some q → wr.heap.size ≤ q := fun q hq => by
                rcases hblk1 with e | e
                · have h2 := Option.some.inj (e.symm.trans hq)
                  (try simp at h2)
                  omega
                · have h2 := Option.some.inj (e.symm.trans hq)
                  (try simp at h2)
                  omega
              obtain ⟨gq, hgq, hgr⟩ : ∃ gq, (0 < L → ao1 = some ⟨gq, 0, none⟩) ∧ wr.heap.size ≤ gq := by
                by_cases h0 : 0 < L
                · obtain ⟨g, rfl⟩ := ownsRow_head hown1' h0
                  exact ⟨g, fun _ => rfl, hn1 g rfl⟩
                · exact ⟨wr.heap.size, fun h => absurd h h0, Nat.le_refl _⟩
              obtain ⟨_, _, hsl, hc1, _⟩ := ownsRow_slice hown1'
              have hc1' : L ≤ c1 := by
                simp only [Value.slice.injEq] at hsl
                omega
              clear hsl hown1 hgr1 hblk1 hps hpn cp2 cp3
              have NE : ∀ q, (Value.slice ao1 L c1).ownBlock = some q → q ≠ b1 ∧ q ≠ b2 := fun q hq => by have := hn1 q hq; omega
              have AB : ∀ x, ao1 = some x → (Value.slice ao1 L c1).ownBlock = some x.block := fun x hx => by
                rcases hown1'.2 with ⟨hv, _⟩ | ⟨g', cap, cur, hv, _⟩
                · simp only [Value.slice.injEq] at hv
                  rw [hv.1] at hx; cases hx
                · simp only [Value.slice.injEq] at hv
                  rw [hv.1] at hx ⊢
                  cases hx
                  rfl
              have kw1 := sha_write b1 (ss0.eat (cat l j)) ao1 c1 p.l w1 (HS1.out.chg D1 (by simp)) (hL.chg (T.trans D1 (by simp)) (by simp)) h1b1 (ownsRow_src (n := L) hown1') (fun x hx => (NE _ (AB x hx)).1) (by rw [HLL.out]; exact hc1') (by rw [SS.eat_n, HNN.out, HLL.out]; show 0 + n + L ≤ _; omega)
              rw [HLL.out, ← SS.eat_append, ← HS.out] at kw1
              go_wp2_with fail
              refine kw1.mono ?_
              rintro e w2' ⟨rfl, S1, D2⟩
              clear kw1
              have T2 := (T.trans D1 (by simp)).trans D2 (fun q hq => by simp at hq; right; omega)
              have hown2 := ownsRow_chg hown1' D2 (fun q hq hm => by have := (NE q hq).1; simp at hm; exact this hm)
              have kw2 := sha_write b2 (ss0.eat (cat l j)) ao1 c1 p.l w2' ((HS2.out.chg D1 (by simp)).chg D2 (by simp; omega)) (hL.chg T2 (by simp)) h1b2 (ownsRow_src (n := L) hown2) (fun x hx => (NE _ (AB x hx)).2) (by rw [HLL.out]; exact hc1') (by rw [SS.eat_n, HNN.out, HLL.out]; show 0 + n + L ≤ _; omega)
              rw [HLL.out, ← SS.eat_append, ← HS.out] at kw2
              go_wp2_with fail
              refine kw2.mono ?_
              rintro e w3 ⟨rfl, S2, D3⟩
              clear kw2
              have T3 := T2.trans D3 (fun q hq => by simp at hq; right; omega)
              have S13 := S1.chg D3 (by simp; omega)
              have hown3 := ownsRow_chg hown2 D3 (fun q hq hm => by have := (NE q hq).2; simp at hm; exact this hm)
              have FL := Lib.hid (Flip.start hown3 HLL.out hgq)
              have hall3 : w3.ownsRow 0 5 1 (.slice a n c) n (bvs (cat l j)) := ownsRow_chg (ownsRow_chg (ownsRow_chg ho D1 (by simp)) D2 (fun q hq hm => by have := hnew q hq; simp at hm; omega)) D3 (fun q hq hm => by have := hnew q hq; simp at hm; omega)
              have hlq := ownsRow_lt ho
              have hsz13 : wr.heap.size ≤ w3.heap.size := by have h1 := D1.size; have h2 := D2.size; have h3 := D3.size; omega
              have S23 := Lib.hid S2
              have S13' := Lib.hid S13
              have HOA := Lib.hid hall3
              clear ho hown1' hown2 hown3 D1 D2 D3 S1 S2 S13 T T2 HS1 HS2 NE AB hn1 hall3 hc1 hc1'
              go_wp2_with fail
              go_loopw [10] (fun i wr => ∃ t : Nat, i = .int .i64 t ∧ t ≤ L ∧ Hid (Flip w3 gq L wr)) (fun i _ => L - (intOf i).toNat)
              case atStart => exact ⟨0, rfl, by omega, FL⟩
              case round =>
                clear FL
                obtain ⟨t, rfl, ht, FL⟩ := hrel
                by_cases htl : t < L
                · have htl' : (t : Int) < L := by omega
                  have ht0 : (0 : Int) ≤ t := by omega
                  have ha := hgq (by omega)
                  subst ha
                  obtain ⟨⟨x, cx⟩, fx⟩ := FL.out.2 t htl
                  have FS := fun y => Lib.hid (FL.out.step t y)
                  have FS' := Lib.hid FS
                  clear FS
                  go_wp2_with fail
                  go_roundw
                  case rel => exact ⟨t + 1, by go_num, by omega, FS'.out _⟩
                  case measure => simp [intOf]; omega
                · obtain rfl : t = L := by omega
                  obtain ⟨D4, _⟩ := FL.out
                  have T4 := T3.trans D4 (fun q hq => by simp at hq; right; omega)
                  have S14 := S13'.out.chg D4 (by simp; omega)
                  have S24 := S23.out.chg D4 (by simp; omega)
                  have ho4 := ownsRow_chg HOA.out D4 (fun q hq hm => by have := hlq q hq; simp at hm; omega)
                  have hpa4 := HPA.out.chg T4
                  have hps4 := hpa4.src
                  have hpn4 := hpa4.none
                  obtain ⟨⟨ad', had, cp⟩, _⟩ := HP.out j p HPJ.out
                  cases had
                  have cp4 := T4.cell_some cp (by simp)
                  rw [HLL.out] at cp4
                  have hsz4 := D4.size
                  have HS14 := Lib.hid S14
                  have HS24 := Lib.hid S24
                  clear FL D4 S13' S23 S14 S24 hpa4 cp HOA htl
                  go_wp2_with (at_builtin; refine wpList_append_x _ rfl _ _ 39 rfl 5 iu _ 1 1 Tryd.underlying39 hiu hiuz hius hiub rfl (by decide) (.slice a n c) n (bvs (cat l j)) rfl ho4 p.ao t p.c (bvs p.l) rfl (by rw [bvs_length, HLL.out]; omega) hps4 hpn4 (bvs_one _) (by unfold maxLen; omega) (by omega) ?_)
                  intro a5 c5 w5 hown5 hgr5 hblk5
                  have D5 : Chg (Value.slice a n c).ownBlock.toList wr w5 := Chg.grown hgr5 (fun q hq => .inl (by simp [hq]))
                  have T5 := T4.trans D5 (fun q hq => .inr (by have := hnew q (by simpa using hq); omega))
                  have S15 := Lib.hid (HS14.out.chg D5 (fun hm => by have := hnew b1 (by simpa using hm); omega))
                  have S25 := Lib.hid (HS24.out.chg D5 (fun hm => by have := hnew b2 (by simpa using hm); omega))
                  have hnew5 : ∀ q, (Value.slice a5 (n + t) c5).ownBlock = some q → b1 < q ∧ b2 < q := fun q hq => by
                    rcases hblk5 with e | e
                    · rw [e] at hq; exact hnew q hq
                    · rw [e] at hq
                      have := Option.some.inj hq
                      omega
                  have HO5 : Hid (w5.ownsRow 0 5 1 (.slice a5 (n + t) c5) (n + t) (bvs (cat l (j + 1)))) := Lib.hid (by rw [HS.out, bvs_append]; exact hown5)
                  have hlen5 : Hid ((cat l (j + 1)).length = n + t) := Lib.hid (by rw [HS.out, List.length_append, HNN.out, HLL.out])
                  clear hown5 hgr5 hblk5 D5 HS14 HS24 ho4 hps4 hpn4 cp4 T4 hnew
                  by_cases h40 : k ≤ 40
                  · have h40' : (k : Int) ≤ 40 := by omega
                    obtain ⟨R, hR⟩ : ∃ R, hashV (digest (cat l (j + 1))) = .agg R := ⟨_, rfl⟩
                    have HNE : Hid (∀ w, (binOp .neq 23 (.agg R) (.agg R)).run Tryd.prog w = .ok (.bool false) w) := Lib.hid (fun w => by rw [← hR]; exact run_neq_self _ w)
                    have hsn : (ss0.eat (cat l (j + 1))).n = n + t := by rw [SS.eat_n, hlen5.out]; show 0 + (n + t) = _; omega
                    have ks := sha_sum b1 (ss0.eat (cat l (j + 1))) w5 S15.out (hL.chg T5 (by simp)) (by rw [hsn]; omega)
                    have hR' : hashV (ss0.eat (cat l (j + 1))).sum.hash = .agg R := hR
                    rw [hR'] at ks
                    go_wp2_with fail
                    refine ks.mono ?_
                    rintro e w6 ⟨rfl, D6⟩
                    have T6 := T5.trans D6 (by simp)
                    have S16 := Lib.hid (S15.out.chg D6 (by simp))
                    have S26 := Lib.hid (S25.out.chg D6 (by simp))
                    have HO6 := Lib.hid (ownsRow_chg HO5.out D6 (by simp))
                    have hc6 : n + t ≤ c5 := by
                      obtain ⟨_, _, h1, h2, _⟩ := ownsRow_slice HO6.out
                      simp only [Value.slice.injEq] at h1
                      omega
                    have kd := sha_digest (cat l (j + 1)) a5 c5 w6 (hL.chg T6 (by simp)) (ownsRow_src (n := n + t) HO6.out) (by rw [hlen5.out]; exact hc6) (by rw [hlen5.out]; omega) (fun x hx => by
                      subst hx
                      have := ownsRow_lt HO6.out x.block (by
                        rcases HO6.out.2 with ⟨hv, _⟩ | ⟨g', cap, cur, hv, _⟩
                        · simp at hv
                        · simp only [Value.slice.injEq, Option.some.injEq] at hv
                          rw [hv.1]; rfl)
                      exact this)
                    rw [hlen5.out, hR] at kd
                    clear ks S15 S25 HO5 D6 T5 hc6 hR hR'
                    go_wp2_with fail
                    refine kd.mono ?_
                    rintro e w7 ⟨rfl, D7⟩
                    have T7 := T6.trans D7 (by simp)
                    have S17 := Lib.hid (S16.out.chg D7 (by simp))
                    have S27 := Lib.hid (S26.out.chg D7 (by simp))
                    have HO7 := Lib.hid (ownsRow_chg HO6.out D7 (by simp))
                    have kl := sha_len b1 (ss0.eat (cat l (j + 1))) w7 S17.out
                    rw [hsn] at kl
                    clear kd S16 S26 HO6 D7 T6
                    go_wp2_with (refine wpList_neq_x rfl 23 _ _ _ rfl false (.agg R) (.agg R) rfl rfl (hash_guard_neq _ _ _ _ _) (HNE.out _) ?_)
                    refine kl.mono ?_
                    rintro e w' ⟨rfl, rfl⟩
                    clear kl hsn
                    go_wp2_with fail
                    go_roundw
                    case rel => exact ⟨j + 1, n + t, c5, a5, rfl, by go_num, by omega, hlen5.out, HO7.out, S17, S27, T7, hnew5⟩
                    case measure => simp [intOf]; omega
                  · have h40' : ¬ (k : Int) ≤ 40 := by omega
                    go_wp2_with fail
                    go_roundw
                    case rel => exact ⟨j + 1, n + t, c5, a5, rfl, by go_num, by omega, hlen5.out, HO5.out, S15, S25, T5, hnew5⟩
                    case measure => simp [intOf]; omega
            · have hkj : j = k := by omega
              subst hkj
              have hcl : (cat l j).length ≤ 20000 := hT
              obtain ⟨R, hR⟩ : ∃ R, hashV (digest (cat l j)) = .agg R := ⟨_, rfl⟩
              have HEQ : Hid (∀ w, (binOp .eql 23 (.agg R) (.agg R)).run Tryd.prog w = .ok (.bool true) w) := Lib.hid (fun w => by rw [← hR, run_eq_hash, sameHash_self])
              have hsn : (ss0.eat (cat l j)).n = n := by rw [SS.eat_n, hn]; show 0 + n = _; omega
              have hR' : hashV (ss0.eat (cat l j)).sum.hash = .agg R := hR
              have KS : Hid (∀ w b, StateAt w b (ss0.eat (cat l j)) → Laid w → Calls Tryd.prog 17 #[.pointer (some ⟨b, 0, none⟩)] w fun e w' => e = .returned (.agg R) ∧ Chg [] w w') := Lib.hid (fun w b h1 h2 => by
                have := sha_sum b (ss0.eat (cat l j)) w h1 h2 (by rw [hsn]; omega)
                rw [hR'] at this
                exact this)
              have hnn := HNL.out
              rw [hn] at hnn hcl
              obtain ⟨_, _, h1, h2, _⟩ := ownsRow_slice ho
              have hc6 : n ≤ c := by
                simp only [Value.slice.injEq] at h1
                omega
              have HO := Lib.hid ho
              have HNN := Lib.hid hn
              have HR := Lib.hid hR
              clear hR hR' h1 h2 ho hn hlt
              go_wp2_with fail
              refine (KS.out _ b1 HS1.out (hL.chg T (by simp))).mono ?_
              rintro e w6 ⟨rfl, D6⟩
              have T6 := T.trans D6 (by simp)
              have S16 := Lib.hid (HS1.out.chg D6 (by simp))
              have S26 := Lib.hid (HS2.out.chg D6 (by simp))
              have HO6 := Lib.hid (ownsRow_chg HO.out D6 (by simp))
              have kd := sha_digest (cat l j) a c w6 (hL.chg T6 (by simp)) (ownsRow_src (n := n) HO6.out) (by rw [HNN.out]; exact hc6) (by rw [HNN.out]; omega) (fun x hx => by
                subst hx
                have := ownsRow_lt HO6.out x.block (by
                  rcases HO6.out.2 with ⟨hv, _⟩ | ⟨g', cap, cur, hv, _⟩
                  · simp at hv
                  · simp only [Value.slice.injEq, Option.some.injEq] at hv
                    rw [hv.1]; rfl)
                exact this)
              rw [HNN.out, HR.out] at kd
              clear HS1 HS2 HO D6 T
              go_wp2_with fail
              refine kd.mono ?_
              rintro e w7 ⟨rfl, D7⟩
              have T7 := T6.trans D7 (by simp)
              have S17 := Lib.hid (S16.out.chg D7 (by simp))
              have S27 := Lib.hid (S26.out.chg D7 (by simp))
              clear kd S16 S26 HO6 D7 T6
              go_wp2_with (refine wpList_eql_x rfl 23 _ _ _ rfl true (.agg R) (.agg R) rfl rfl (hash_guard _ _ _ _ _) (HEQ.out _) ?_)
              refine (KS.out _ b2 S27.out (hL.chg T7 (by simp))).mono ?_
              rintro e w8 ⟨rfl, D8⟩
              have T8 := T7.trans D8 (by simp)
              have S18 := Lib.hid (S17.out.chg D8 (by simp))
              have S28 := Lib.hid (S27.out.chg D8 (by simp))
              clear S17 S27 D8 T7
              go_wp2_with fail
              refine (KS.out _ b1 S18.out (hL.chg T8 (by simp))).mono ?_
              rintro e w9 ⟨rfl, D9⟩
              have T9 := T8.trans D9 (by simp)
              have kl := sha_len b2 (ss0.eat (cat l j)) w9 (S28.out.chg D9 (by simp))
              rw [hsn] at kl
              clear S18 S28 D9 T8
              go_wp2_with (refine wpList_eql_x rfl 23 _ _ _ rfl true (.agg R) (.agg R) rfl rfl (hash_guard _ _ _ _ _) (HEQ.out _) ?_)
              refine kl.mono ?_
              rintro e w' ⟨rfl, rfl⟩
              clear kl
              go_wp2_with fail
              refine (sha_awake _ (hL.chg T9 (by simp))).mono ?_
              rintro e w10 ⟨rfl, D10⟩
              go_wp2_with fail
              go_ret
              exact ⟨rfl, T9.trans D10 (by simp)⟩
      · have h200' : (200 : Int) < k := by omega
        clear HNN CL
        go_wp2_with fail
        refine (sha_awake _ hL).mono ?_
        rintro e w1 ⟨rfl, C1⟩
        go_wp2_with fail
        go_ret
        exact ⟨rfl, C1⟩
end Go.Proofs.YtccicfmaapaifaaDoor
