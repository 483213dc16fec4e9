/- What the law FetchPlays does: true, and it leaves what was there. No conditions beyond those that each statement types. -/
import Derived.Test.YtcapbfhiiiggdaaFetchRc
import Derived.Test.YtcapbfhiiiggdaaFetchJ
import Derived.Deep.DeepCutAuto
namespace Go.Proofs.Ytcapbfhiiiggdaa
open Go.RowKit

def RS.Small (R : RS) (n : Nat) : Prop := R.ps.length ≤ 17 + n ∧ ∀ (i : Nat) (x : RB), R.bs[i]? = some x → x.tr.length ≤ n
theorem RS.Small.mono {R : RS} {n m : Nat} (h : R.Small n) (hm : n ≤ m) : R.Small m := ⟨by have := h.1; omega, fun i x hx => by have := h.2 i x hx; omega⟩
theorem RS.Small.upd {R : RS} {n : Nat} (h : R.Small n) (i : Nat) (y : RB) (hy : y.tr.length ≤ n + 1) : (R.upd i y).Small (n + 1) := by
  refine ⟨by have := h.1; show R.ps.length ≤ _; omega, fun j x hx => ?_⟩
  have hx' : (R.bs.set i y)[j]? = some x := hx
  by_cases hj : j = i
  · subst hj
    have hl := (List.getElem?_eq_some_iff.1 hx').1
    rw [List.length_set] at hl
    rw [List.getElem?_set_self hl] at hx'
    cases hx'
    exact hy
  · rw [List.getElem?_set_ne (fun e => hj e.symm)] at hx'
    have := h.2 j x hx'
    omega
theorem RS.Small.ask {R : RS} {n : Nat} (h : R.Small n) : R.ask.Small (n + 1) := by
  unfold RS.ask
  split
  · split
    · rename_i i x hx
      exact h.upd _ _ (by have := h.2 _ _ hx; show x.tr.length ≤ _; omega)
    · exact h.mono (by omega)
  · exact h.mono (by omega)
theorem RS.Small.done {R : RS} {n : Nat} (h : R.Small n) (b d : Int) : (R.done b d).Small (n + 1) := by
  unfold RS.done
  split
  · split
    · rename_i i x hx
      exact h.upd _ _ (by have := h.2 _ _ hx; show x.tr.length ≤ _; omega)
    · exact h.mono (by omega)
  · exact h.mono (by omega)
theorem RS.Small.failed {R : RS} {n : Nat} (h : R.Small n) (b d : Int) : (R.failed b d).Small (n + 1) := by
  unfold RS.failed
  split
  · split
    · rename_i i x hx
      exact h.upd _ _ (by have := h.2 _ _ hx; show (x.tr ++ [d]).length ≤ _; rw [List.length_append]; simp; omega)
    · exact h.mono (by omega)
  · exact h.mono (by omega)
theorem RS.Small.lost {R : RS} {n : Nat} (h : R.Small n) (d : Int) : (R.lost d).Small (n + 1) := by
  unfold RS.lost
  split
  · refine ⟨?_, fun i x hx => ?_⟩
    · have h1 := List.length_filter_le (· != d) R.ps
      have := h.1
      show (R.ps.filter (· != d)).length ≤ _
      omega
    · have hx' : (R.bs.map (RB.lost d))[i]? = some x := hx
      rw [List.getElem?_map] at hx'
      obtain ⟨y, hy, rfl⟩ := Option.map_eq_some_iff.1 hx'
      have h1 := List.length_filter_le (· != d) y.tr
      have := h.2 i y hy
      show (y.tr.filter (· != d)).length ≤ _
      omega
  · exact h.mono (by omega)
theorem RS.Small.found {R : RS} {n : Nat} (h : R.Small n) (d : Int) : (R.found d).Small (n + 1) := by
  unfold RS.found
  split
  · exact h.mono (by omega)
  · split
    · exact h.mono (by omega)
    · exact ⟨by have := h.1; show (R.ps ++ [d]).length ≤ _; rw [List.length_append]; simp; omega, fun i x hx => by have := h.2 i x hx; omega⟩
theorem RS.Small.made {bs ps : List Int} (h : ps.length ≤ 17) : (RS.made bs ps).Small 0 := by
  refine ⟨h, fun i x hx => ?_⟩
  have hx' : (bs.map nblk)[i]? = some x := hx
  rw [List.getElem?_map] at hx'
  obtain ⟨y, _, rfl⟩ := Option.map_eq_some_iff.1 hx'
  exact Nat.le_refl _

/-- The two fetches, alike. -/
def Pl (b q n : Nat) (Ad : Nat → Prop) (w : World) : Prop := ∃ s R m, FetchAt w b s ∧ RefAt w Ad q R m ∧ Sim s R ∧ R.Small n
theorem FetchAt.from {w w' : World} {b : Nat} {s : FS} {Ad : Nat → Prop} (h : FetchAt w b s) (C : ChgFrom Ad w w') (hb : ¬ Ad b) : FetchAt w' b s := by
  obtain ⟨S, c, hS⟩ := C
  exact h.chg c (fun hm => hb (hS b hm))
theorem ChgFrom.cell {w w' : World} {Ad : Nat → Prop} (C : ChgFrom Ad w w') {a : Addr} {v : Value} (h : w.cell? a = some v) (ha : ¬ Ad a.block) : w'.cell? a = some v := by
  obtain ⟨S, c, hS⟩ := C
  exact c.cell_some h (fun hm => ha (hS _ hm))
theorem ChgFrom.size {w w' : World} {Ad : Nat → Prop} (C : ChgFrom Ad w w') : w.heap.size ≤ w'.heap.size := by
  obtain ⟨S, c, _⟩ := C
  exact c.size
theorem ChgFrom.all {W w w' : World} {Ad : Nat → Prop} (C0 : Chg [] W w) (C : ChgFrom Ad w w') (h : ∀ k, Ad k → W.heap.size ≤ k) : Chg [] W w' := by
  obtain ⟨S, c, hS⟩ := C
  exact C0.trans c (fun k hk => .inr (h k (hS k hk)))
theorem few_of {l : List Int} {a b : Int} (h : rises l a b = true) (m : Nat) (ha : 0 ≤ a) (hb : b < m) : l.length ≤ m := by
  have h1 := count_mem l m (rises_pairwise l a b h) (fun x hx => by have := rises_mem l a b h x hx; omega)
  have h2 := sumTo_one_le (fun n => (decide ((n : Int) ∈ l)).toNat) m (fun k _ => by cases decide ((k : Int) ∈ l) <;> simp)
  omega

/-- An Act as data, and a slice of them in memory. -/
structure ActP where
  what : Int
  blk : Int
  dev : Int
structure ActPC (w : World) (b o : Nat) (x : ActP) : Prop where
  what : w.cell? ⟨b, o, none⟩ = some (.int .i64 x.what)
  blk : w.cell? ⟨b, o + 1, none⟩ = some (.int .i64 x.blk)
  dev : w.cell? ⟨b, o + 2, none⟩ = some (.int .i64 x.dev)
  w1 : -9223372036854775808 ≤ x.what ∧ x.what ≤ 9223372036854775807
def ActsP (w : World) (ao : Option Addr) (l : List ActP) : Prop := ∀ (i : Nat) (x : ActP), l[i]? = some x → ∃ b off, ao = some ⟨b, off, none⟩ ∧ ActPC w b (off + i * 3) x
theorem ActPC.chg {w w' : World} {b o : Nat} {x : ActP} (h : ActPC w b o x) (hc : Chg [] w w') : ActPC w' b o x :=
  ⟨hc.cell_some h.what (by simp), hc.cell_some h.blk (by simp), hc.cell_some h.dev (by simp), h.w1⟩

set_option maxRecDepth 100000 in
set_option maxHeartbeats 40000000 in
theorem fetch_plays (bs ps : List Int) (bo po ao : Option Addr) (bc pc c : Nat) (l : List ActP) (W : World) (hbl : bs.length ≤ 9223372036854775807) (hpl : ps.length ≤ 9223372036854775807) (hl : l.length ≤ 9223372036854775807)
    (hb : Src W bo (ivs bs)) (hp : Src W po (ivs ps)) (hpc : po = none → pc = 0) (hA : ActsP W ao l) :
    Calls Try.prog 5 #[.slice bo bs.length bc, .slice po ps.length pc, .slice ao l.length c] W (Holds W) := by
  have REFN : Hid (∀ w', Chg [] W w' → Calls Try.prog 17 #[.slice bo bs.length bc, .slice po ps.length pc] w' (RNewed bs ps w')) := Lib.hid (fun w' C =>
    ref_new bs ps bo po bc pc w' (hb.chg C (by simp)) (hp.chg C (by simp)) hbl hpl hpc (fun h => few_of h 32 (by omega) (by omega)) (fun h => by have := few_of h 17 (by omega) (by omega); omega))
  obtain ⟨N, hN⟩ : ∃ N, l.length = N := ⟨_, rfl⟩
  have HN := Lib.hid hN
  have hlN : (N : Int) ≤ 9223372036854775807 := by omega
  cases hr : rises bs 0 31 && rises ps 1 16 with
  | false =>
    have k1 := fetch_new_bad bs ps bo po bc pc W hb hp hr hbl hpl
    have RN : Hid (∀ r w w', RNewed bs ps w r w' → r = .returned (.tuple #[.pointer none, .int .i64 2]) ∧ Chg [] w w') := Lib.hid (fun r w w' h => by
      unfold RNewed at h
      rw [hr] at h
      exact h)
    obtain ⟨B, hB⟩ : ∃ N, bs.length = N := ⟨_, rfl⟩
    obtain ⟨M, hM⟩ : ∃ N, ps.length = N := ⟨_, rfl⟩
    rw [hB, hM] at k1 REFN
    rw [hB, hM, hN]
    clear hb hp hr hbl hpl hl hA hB hM hN
    go_enter Try.func5, Try.ntmps5
    go_wp2_with fail
    refine k1.mono ?_
    rintro r w1 ⟨rfl, rfl⟩
    clear k1
    go_wp2_with fail
    refine (REFN.out _ (Chg.refl [] _)).mono ?_
    intro r w2 h2
    obtain ⟨rfl, C2⟩ := RN.out _ _ _ h2
    clear h2
    go_wp2_with fail
    refine (fetch_works w2).mono ?_
    rintro r w3 ⟨rfl, C3⟩
    go_wp2_with fail
    go_ret
    exact ⟨rfl, C2.trans C3 (by simp)⟩
  | true =>
    have hr1 : rises bs 0 31 = true := by
      cases h : rises bs 0 31
      · rw [h] at hr; cases hr
      · rfl
    have hr2 : rises ps 1 16 = true := by
      cases h : rises ps 1 16
      · rw [h] at hr; simp at hr
      · rfl
    have k1 := fetch_new bs ps bo po bc pc W hb hp hr1 hr2 hbl hpl
    have RN : Hid (∀ r w w', RNewed bs ps w r w' → ∃ q m, r = .returned (.tuple #[.pointer (some ⟨q, 0, none⟩), .int .i64 0]) ∧ RefAt w' (fun k => w.heap.size ≤ k) q (RS.made bs ps) m ∧ Chg [] w w') := Lib.hid (fun r w w' h => by
      unfold RNewed at h
      rw [hr] at h
      exact h)
    have SIM := Lib.hid (Sim.made hr1 hr2)
    have SML := Lib.hid (RS.Small.made (bs := bs) (ps := ps) (few_of hr2 17 (by omega) (by omega)))
    obtain ⟨B, hB⟩ : ∃ N, bs.length = N := ⟨_, rfl⟩
    obtain ⟨M, hM⟩ : ∃ N, ps.length = N := ⟨_, rfl⟩
    rw [hB, hM] at k1 REFN
    rw [hB, hM, hN]
    clear hb hp hr hbl hpl hl hB hM hN hr1 hr2
    go_enter Try.func5, Try.ntmps5
    go_wp2_with fail
    refine k1.mono ?_
    rintro r w1 ⟨b, rfl, hb, F1, C1⟩
    clear k1
    go_wp2_with fail
    refine (REFN.out _ C1).mono ?_
    intro r w2 h2
    obtain ⟨q, m, rfl, R2, C2⟩ := RN.out _ _ _ h2
    have hblt := F1.lt
    have F2 := F1.chg C2 (by simp)
    have PL : Hid (Pl b q 0 (fun k => w1.heap.size ≤ k) w2) := Lib.hid ⟨_, _, _, F2, R2, SIM.out, SML.out⟩
    have T2 := C1.trans C2 (by simp)
    have hs2 := C2.size
    have hs1 := C1.size
    obtain ⟨lo, hlo⟩ : ∃ lo, w1.heap.size = lo := ⟨_, rfl⟩
    rw [hlo] at PL hblt hs2 hs1
    clear h2 R2 F1 F2 C1 C2 REFN RN SIM SML hlo
    go_wp2_with fail
    go_loopw [11, 12, 13] (fun u v i wr => ∃ (k : Nat) (bI dI : Int), u = .int .i64 bI ∧ v = .int .i64 dI ∧ i = .int .i64 k ∧ k ≤ N ∧ k ≤ 150 ∧ Hid (Pl b q k (fun j => lo ≤ j) wr) ∧ Chg [] W wr ∧ lo ≤ wr.heap.size) (fun _ _ i _ => N - (intOf i).toNat)
    case atStart => exact ⟨0, 0, 0, rfl, rfl, rfl, by omega, by omega, PL, T2, hs2⟩
    case round =>
      clear PL T2 hs2
      obtain ⟨k, bI, dI, rfl, rfl, rfl, hk, hk150, HP, T, hsz⟩ := hrel
      by_cases hlt : k < N
      · have hlt' : (k : Int) < N := by omega
        by_cases h150 : k < 150
        · have h150' : (k : Int) < 150 := by omega
          have hk0 : (0 : Int) ≤ k := by omega
          obtain ⟨x, hx⟩ : ∃ x, l[k]? = some x := ⟨_, List.getElem?_eq_getElem (by rw [HN.out]; exact hlt)⟩
          obtain ⟨ab, af, rfl, hac⟩ := hA k x hx
          obtain ⟨c1, c2, c3, hwd⟩ := hac.chg T
          obtain ⟨s, R, m, F0, R0, SM, SL⟩ := HP.out
          obtain ⟨xw, hxw⟩ : ∃ z, x.what = z := ⟨_, rfl⟩
          obtain ⟨xb, hxb⟩ : ∃ z, x.blk = z := ⟨_, rfl⟩
          obtain ⟨xd, hxd⟩ : ∃ z, x.dev = z := ⟨_, rfl⟩
          rw [hxw] at c1 hwd
          rw [hxb] at c2
          rw [hxd] at c3
          clear hxw hxb hxd hx hac HP
          go_upto_region 11 with (fail)
          go_cut [14] (fun u w' => u = .pointer (some ⟨wr.heap.size, 0, none⟩) ∧ w' = wr.alloc (Obj.cells #[.int .i64 xw, .int .i64 xb, .int .i64 xd] 47))
          case first =>
            go_wp2_with fail
            all_goals go_meet
            case rel => exact ⟨rfl, rfl⟩
          case rest =>
          rename_i hK0
          obtain ⟨rfl, rfl⟩ := hcut
          refine hK0 _ _ ?_
          clear hK0
          refine wp_seq_k (fun K2 hK2 => ?_)
          have CA := Chg.alloc [] wr (Obj.cells #[.int .i64 xw, .int .i64 xb, .int .i64 xd] 47)
          have hnx := heap_alloc_new wr (Obj.cells #[.int .i64 xw, .int .i64 xb, .int .i64 xd] 47)
          have T2 := T.trans CA (by simp)
          have F2 := F0.chg CA (by simp)
          have R2 : RefAt (wr.alloc (Obj.cells #[.int .i64 xw, .int .i64 xb, .int .i64 xd] 47)) (fun j => lo ≤ j ∧ j ≠ wr.heap.size) q R m := (R0.narrow (fun k h1 h2 => ⟨h1, by omega⟩)).keep CA (by simp)
          have hsz2 : wr.heap.size < (wr.alloc (Obj.cells #[.int .i64 xw, .int .i64 xb, .int .i64 xd] 47)).heap.size := by simp
          generalize wr.alloc (Obj.cells #[.int .i64 xw, .int .i64 xb, .int .i64 xd] 47) = w2 at *
          obtain ⟨e, he⟩ : ∃ e, wr.heap.size = e := ⟨_, rfl⟩
          rw [he] at hnx R2 hsz2 hsz ⊢
          have b0 : w2.cell? ⟨e, 0, none⟩ = some (.int .i64 xw) := by rw [cell_of_row _ _ 0 _ _ _ hnx]; rfl
          have b1 : w2.cell? ⟨e, 1, none⟩ = some (.int .i64 xb) := by rw [cell_of_row _ _ 1 _ _ _ hnx]; rfl
          have b2 : w2.cell? ⟨e, 2, none⟩ = some (.int .i64 xd) := by rw [cell_of_row _ _ 2 _ _ _ hnx]; rfl
          have nb : ¬ (lo ≤ b ∧ b ≠ e) := by omega
          have ne' : ¬ (lo ≤ e ∧ e ≠ e) := by omega
          have hbe : b ≠ e := by omega
          have AW : ∀ j, (lo ≤ j ∧ j ≠ e) → W.heap.size ≤ j := fun j hj => by omega
          have hps : R.ps.length ≤ 1000000 := by have := SL.1; omega
          have htr : ∀ (i : Nat) (x : RB), R.bs[i]? = some x → x.tr.length ≤ 1000000 := fun i x hx => by have := SL.2 i x hx; omega
          have hSI := Lib.hid SM
          have hSL := Lib.hid SL
          have hAW := Lib.hid AW
          have HPS := Lib.hid hps
          have HTR := Lib.hid htr
          clear c1 c2 c3 CA hnx F0 R0 T he SM SL AW hps htr hA
          have KD : Hid (∀ w x y, FetchAt w b s → Calls Try.prog 13 #[.pointer (some ⟨b, 0, none⟩), .int .i64 x, .int .i64 y] w fun e w' => e = .returned (.int .i64 (R.doneC x y)) ∧ FetchAt w' b (s.done x y) ∧ Chg [b] w w') := Lib.hid (fun w x y h => by
            have := fetch_done b s x y w h
            rw [hSI.out.code] at this
            exact this)
          have KF : Hid (∀ w x y, FetchAt w b s → Calls Try.prog 14 #[.pointer (some ⟨b, 0, none⟩), .int .i64 x, .int .i64 y] w fun e w' => e = .returned (.int .i64 (R.doneC x y)) ∧ FetchAt w' b (s.failed x y) ∧ Chg [b] w w') := Lib.hid (fun w x y h => by
            have := fetch_failed b s x y w h hSI.out.ok
            rw [hSI.out.code] at this
            exact this)
          have KL : Hid (∀ w y, FetchAt w b s → Calls Try.prog 21 #[.pointer (some ⟨b, 0, none⟩), .int .i64 y] w fun e w' => e = .returned (.int .i64 (R.lostC y)) ∧ FetchAt w' b (s.lost y) ∧ Chg [b] w w') := Lib.hid (fun w y h => by
            have := fetch_lost b s y w h
            rw [hSI.out.lostC] at this
            exact this)
          have KO : Hid (∀ w y, FetchAt w b s → Calls Try.prog 23 #[.pointer (some ⟨b, 0, none⟩), .int .i64 y] w fun e w' => e = .returned (.int .i64 (R.foundC y)) ∧ FetchAt w' b (s.found y) ∧ Chg [b] w w') := Lib.hid (fun w y h => by
            have := fetch_found b s y w h
            rw [hSI.out.foundC] at this
            exact this)
          have HB : Hid (∀ w w', Chg [b] w w' → RefAt w (fun j => lo ≤ j ∧ j ≠ e) q R m → RefAt w' (fun j => lo ≤ j ∧ j ≠ e) q R m) := Lib.hid (fun w w' C h => h.keep C (fun j hj => by simp at hj; subst hj; exact nb))
          obtain ⟨t, ht⟩ : ∃ t, xw.tmod 7 = t := ⟨_, rfl⟩
          go_cut [11, 12] (fun u v w' => ∃ bJ dJ, u = .int .i64 bJ ∧ v = .int .i64 dJ ∧ Hid (Pl b q (k + 1) (fun j => lo ≤ j ∧ j ≠ e) w') ∧ Chg [] W w' ∧ w'.cell? ⟨e, 2, none⟩ = some (.int .i64 xd) ∧ e < w'.heap.size)
          case first =>
            by_cases t0 : t = 0
            · subst t0
              as_aux_lemma =>
                obtain ⟨x, y, z, hq⟩ : ∃ x y z, s.asksN = .tuple #[.int .i64 x, .int .i64 y, .bool z] := by
                  unfold FS.asksN
                  split
                  · exact ⟨_, _, _, rfl⟩
                  · exact ⟨_, _, _, rfl⟩
                cases z with
                | true =>
                  have ka := fetch_ask b s w2 F2
                  rw [hq] at ka
                  go_wp2_with fail
                  refine ka.mono ?_
                  rintro r w3 ⟨rfl, F3, C3⟩
                  clear ka
                  have kr := ref_ask _ q R m w3 (HB.out _ _ C3 R2) HPS.out HTR.out
                  rw [← hSI.out.asksV, hq] at kr
                  have x2 := C3.cell_some b2 (by simp; exact fun h => hbe h.symm)
                  go_wp2_with fail
                  refine kr.mono ?_
                  rintro r w4 ⟨m4, rfl, R4, C4⟩
                  have eT := C4.cell x2 ne'
                  have HPT : Hid (Pl b q (k + 1) (fun j => lo ≤ j ∧ j ≠ e) w4) := Lib.hid ⟨_, _, m4, F3.from C4 nb, R4, hSI.out.ask , hSL.out.ask ⟩
                  have TT : Chg [] W w4 := ChgFrom.all (T2.trans C3 (fun j hj => by simp at hj; right; omega)) C4 hAW.out
                  have sT : e < w4.heap.size := by have h1 := C3.size; have h2 := C4.size; have h3 : w2.heap.size = w2.heap.size := rfl; omega
                  clear kr x2 b0 b1 b2 F2 R2 F3 R4 C3 C4 hq T2 KD KF KL KO HB
                  go_wp2_with fail
                  all_goals go_meet
                  case rel => exact ⟨_, _, rfl, rfl, HPT, TT, eT, sT⟩
                | false =>
                  have ka := fetch_ask b s w2 F2
                  rw [hq] at ka
                  go_wp2_with fail
                  refine ka.mono ?_
                  rintro r w3 ⟨rfl, F3, C3⟩
                  clear ka
                  have kr := ref_ask _ q R m w3 (HB.out _ _ C3 R2) HPS.out HTR.out
                  rw [← hSI.out.asksV, hq] at kr
                  have x2 := C3.cell_some b2 (by simp; exact fun h => hbe h.symm)
                  go_wp2_with fail
                  refine kr.mono ?_
                  rintro r w4 ⟨m4, rfl, R4, C4⟩
                  have eT := C4.cell x2 ne'
                  have HPT : Hid (Pl b q (k + 1) (fun j => lo ≤ j ∧ j ≠ e) w4) := Lib.hid ⟨_, _, m4, F3.from C4 nb, R4, hSI.out.ask , hSL.out.ask ⟩
                  have TT : Chg [] W w4 := ChgFrom.all (T2.trans C3 (fun j hj => by simp at hj; right; omega)) C4 hAW.out
                  have sT : e < w4.heap.size := by have h1 := C3.size; have h2 := C4.size; have h3 : w2.heap.size = w2.heap.size := rfl; omega
                  clear kr x2 b0 b1 b2 F2 R2 F3 R4 C3 C4 hq T2 KD KF KL KO HB
                  go_wp2_with fail
                  all_goals go_meet
                  case rel => exact ⟨_, _, rfl, rfl, HPT, TT, eT, sT⟩
            · have n0 : (t == 0) = false := by simpa using t0
              by_cases t1 : t = 1
              · subst t1
                as_aux_lemma =>
                  have d1 : (w2.drewN 1).cell? ⟨e, 1, none⟩ = some (.int .i64 xb) := b1
                  have d2 : (w2.drewN 1).cell? ⟨e, 2, none⟩ = some (.int .i64 xd) := b2
                  go_wp2_with fail
                  go_region_held3 (fun w' => w'.cell? ⟨e, 1, none⟩ = some (.int .i64 xb) ∧ w'.cell? ⟨e, 2, none⟩ = some (.int .i64 xd)) (exact ⟨by assumption, by assumption⟩) (first | (go_at_call 13; refine (KD.out _ xb xd (F2.chg (Chg.drewN [] _ 1) (by simp))).mono ?_; rintro r w3 ⟨rfl, F3, C3⟩; have x1 := C3.cell_some d1 (by simp; exact fun h => hbe h.symm); have x2 := C3.cell_some d2 (by simp; exact fun h => hbe h.symm)) | (go_at_call 19; refine (ref_done _ q R m xb xd w3 (HB.out _ _ C3 (R2.keep (Chg.drewN [] _ 1) (by simp))) ).mono ?_; rintro r w4 ⟨m4, rfl, R4, C4⟩; have y1 := C4.cell x1 ne'; have eT := C4.cell x2 ne'))
                  have HPT : Hid (Pl b q (k + 1) (fun j => lo ≤ j ∧ j ≠ e) w4) := Lib.hid ⟨_, _, m4, F3.from C4 nb, R4, hSI.out.done xb xd, hSL.out.done xb xd⟩
                  have TT : Chg [] W w4 := ChgFrom.all ((T2.trans (Chg.drewN [] w2 1) (by simp)).trans C3 (fun j hj => by simp at hj; right; omega)) C4 hAW.out
                  have sT : e < w4.heap.size := by have h1 := C3.size; have h2 := C4.size; have h3 : (w2.drewN 1).heap.size = w2.heap.size := rfl; omega
                  clear d1 d2 x1 x2 y1 b0 b1 b2 F2 R2 F3 R4 C3 C4 T2 KD KF KL KO HB
                  go_wp2_with fail
                  all_goals go_meet
                  case rel => exact ⟨_, _, rfl, rfl, HPT, TT, eT, sT⟩
              · have n1 : (t == 1) = false := by simpa using t1
                by_cases t2 : t = 2
                · subst t2
                  as_aux_lemma =>
                    have d1 : (w2.drewN 1).cell? ⟨e, 1, none⟩ = some (.int .i64 xb) := b1
                    have d2 : (w2.drewN 1).cell? ⟨e, 2, none⟩ = some (.int .i64 xd) := b2
                    go_wp2_with fail
                    go_region_held3 (fun w' => w'.cell? ⟨e, 1, none⟩ = some (.int .i64 xb) ∧ w'.cell? ⟨e, 2, none⟩ = some (.int .i64 xd)) (exact ⟨by assumption, by assumption⟩) (first | (go_at_call 14; refine (KF.out _ xb xd (F2.chg (Chg.drewN [] _ 1) (by simp))).mono ?_; rintro r w3 ⟨rfl, F3, C3⟩; have x1 := C3.cell_some d1 (by simp; exact fun h => hbe h.symm); have x2 := C3.cell_some d2 (by simp; exact fun h => hbe h.symm)) | (go_at_call 20; refine (ref_failed _ q R m xb xd w3 (HB.out _ _ C3 (R2.keep (Chg.drewN [] _ 1) (by simp))) (fun j hj => by have h1 := C3.size; have h3 : (w2.drewN 1).heap.size = w2.heap.size := rfl; exact ⟨by omega, by omega⟩) HTR.out).mono ?_; rintro r w4 ⟨m4, rfl, R4, C4⟩; have y1 := C4.cell x1 ne'; have eT := C4.cell x2 ne'))
                    have HPT : Hid (Pl b q (k + 1) (fun j => lo ≤ j ∧ j ≠ e) w4) := Lib.hid ⟨_, _, m4, F3.from C4 nb, R4, hSI.out.failed xb xd, hSL.out.failed xb xd⟩
                    have TT : Chg [] W w4 := ChgFrom.all ((T2.trans (Chg.drewN [] w2 1) (by simp)).trans C3 (fun j hj => by simp at hj; right; omega)) C4 hAW.out
                    have sT : e < w4.heap.size := by have h1 := C3.size; have h2 := C4.size; have h3 : (w2.drewN 1).heap.size = w2.heap.size := rfl; omega
                    clear d1 d2 x1 x2 y1 b0 b1 b2 F2 R2 F3 R4 C3 C4 T2 KD KF KL KO HB
                    go_wp2_with fail
                    all_goals go_meet
                    case rel => exact ⟨_, _, rfl, rfl, HPT, TT, eT, sT⟩
                · have n2 : (t == 2) = false := by simpa using t2
                  by_cases t3 : t = 3
                  · subst t3
                    as_aux_lemma =>
                      have d1 : (w2.drewN 1).cell? ⟨e, 1, none⟩ = some (.int .i64 xb) := b1
                      have d2 : (w2.drewN 1).cell? ⟨e, 2, none⟩ = some (.int .i64 xd) := b2
                      go_wp2_with fail
                      go_region_held3 (fun w' => w'.cell? ⟨e, 1, none⟩ = some (.int .i64 xb) ∧ w'.cell? ⟨e, 2, none⟩ = some (.int .i64 xd)) (exact ⟨by assumption, by assumption⟩) (first | (go_at_call 21; refine (KL.out _ xd (F2.chg (Chg.drewN [] _ 1) (by simp))).mono ?_; rintro r w3 ⟨rfl, F3, C3⟩; have x1 := C3.cell_some d1 (by simp; exact fun h => hbe h.symm); have x2 := C3.cell_some d2 (by simp; exact fun h => hbe h.symm)) | (go_at_call 22; refine (ref_lost _ q R m xd w3 (HB.out _ _ C3 (R2.keep (Chg.drewN [] _ 1) (by simp))) (fun j hj => by have h1 := C3.size; have h3 : (w2.drewN 1).heap.size = w2.heap.size := rfl; exact ⟨by omega, by omega⟩) HPS.out HTR.out).mono ?_; rintro r w4 ⟨m4, rfl, R4, C4⟩; have y1 := C4.cell x1 ne'; have eT := C4.cell x2 ne'))
                      have HPT : Hid (Pl b q (k + 1) (fun j => lo ≤ j ∧ j ≠ e) w4) := Lib.hid ⟨_, _, m4, F3.from C4 nb, R4, hSI.out.lost xd, hSL.out.lost xd⟩
                      have TT : Chg [] W w4 := ChgFrom.all ((T2.trans (Chg.drewN [] w2 1) (by simp)).trans C3 (fun j hj => by simp at hj; right; omega)) C4 hAW.out
                      have sT : e < w4.heap.size := by have h1 := C3.size; have h2 := C4.size; have h3 : (w2.drewN 1).heap.size = w2.heap.size := rfl; omega
                      clear d1 d2 x1 x2 y1 b0 b1 b2 F2 R2 F3 R4 C3 C4 T2 KD KF KL KO HB
                      go_wp2_with fail
                      all_goals go_meet
                      case rel => exact ⟨_, _, rfl, rfl, HPT, TT, eT, sT⟩
                  · have n3 : (t == 3) = false := by simpa using t3
                    by_cases t4 : t = 4
                    · subst t4
                      as_aux_lemma =>
                        have d1 : (w2.drewN 1).cell? ⟨e, 1, none⟩ = some (.int .i64 xb) := b1
                        have d2 : (w2.drewN 1).cell? ⟨e, 2, none⟩ = some (.int .i64 xd) := b2
                        go_wp2_with fail
                        go_region_held3 (fun w' => w'.cell? ⟨e, 1, none⟩ = some (.int .i64 xb) ∧ w'.cell? ⟨e, 2, none⟩ = some (.int .i64 xd)) (exact ⟨by assumption, by assumption⟩) (first | (go_at_call 23; refine (KO.out _ xd (F2.chg (Chg.drewN [] _ 1) (by simp))).mono ?_; rintro r w3 ⟨rfl, F3, C3⟩; have x1 := C3.cell_some d1 (by simp; exact fun h => hbe h.symm); have x2 := C3.cell_some d2 (by simp; exact fun h => hbe h.symm)) | (go_at_call 24; refine (ref_found _ q R m xd w3 (HB.out _ _ C3 (R2.keep (Chg.drewN [] _ 1) (by simp))) (fun j hj => by have h1 := C3.size; have h3 : (w2.drewN 1).heap.size = w2.heap.size := rfl; exact ⟨by omega, by omega⟩) HPS.out).mono ?_; rintro r w4 ⟨m4, rfl, R4, C4⟩; have y1 := C4.cell x1 ne'; have eT := C4.cell x2 ne'))
                        have HPT : Hid (Pl b q (k + 1) (fun j => lo ≤ j ∧ j ≠ e) w4) := Lib.hid ⟨_, _, m4, F3.from C4 nb, R4, hSI.out.found xd, hSL.out.found xd⟩
                        have TT : Chg [] W w4 := ChgFrom.all ((T2.trans (Chg.drewN [] w2 1) (by simp)).trans C3 (fun j hj => by simp at hj; right; omega)) C4 hAW.out
                        have sT : e < w4.heap.size := by have h1 := C3.size; have h2 := C4.size; have h3 : (w2.drewN 1).heap.size = w2.heap.size := rfl; omega
                        clear d1 d2 x1 x2 y1 b0 b1 b2 F2 R2 F3 R4 C3 C4 T2 KD KF KL KO HB
                        go_wp2_with fail
                        all_goals go_meet
                        case rel => exact ⟨_, _, rfl, rfl, HPT, TT, eT, sT⟩
                    · have n4 : (t == 4) = false := by simpa using t4
                      by_cases t5 : t = 5
                      · subst t5
                        as_aux_lemma =>
                          go_wp2_with fail
                          refine (KD.out _ bI dI F2).mono ?_
                          rintro r w3 ⟨rfl, F3, C3⟩
                          have x2 := C3.cell_some b2 (by simp; exact fun h => hbe h.symm)
                          go_wp2_with fail
                          refine (ref_done _ q R m bI dI w3 (HB.out _ _ C3 R2) ).mono ?_
                          rintro r w4 ⟨m4, rfl, R4, C4⟩
                          have eT := C4.cell x2 ne'
                          have HPT : Hid (Pl b q (k + 1) (fun j => lo ≤ j ∧ j ≠ e) w4) := Lib.hid ⟨_, _, m4, F3.from C4 nb, R4, hSI.out.done bI dI, hSL.out.done bI dI⟩
                          have TT : Chg [] W w4 := ChgFrom.all (T2.trans C3 (fun j hj => by simp at hj; right; omega)) C4 hAW.out
                          have sT : e < w4.heap.size := by have h1 := C3.size; have h2 := C4.size; have h3 : w2.heap.size = w2.heap.size := rfl; omega
                          clear x2 b0 b1 b2 F2 R2 F3 R4 C3 C4 T2 KD KF KL KO HB
                          go_wp2_with fail
                          all_goals go_meet
                          case rel => exact ⟨_, _, rfl, rfl, HPT, TT, eT, sT⟩
                      · have n5 : (t == 5) = false := by simpa using t5
                        clear t0 t1 t2 t3 t4 t5
                        as_aux_lemma =>
                          go_wp2_with fail
                          refine (KF.out _ bI dI F2).mono ?_
                          rintro r w3 ⟨rfl, F3, C3⟩
                          have x2 := C3.cell_some b2 (by simp; exact fun h => hbe h.symm)
                          go_wp2_with fail
                          refine (ref_failed _ q R m bI dI w3 (HB.out _ _ C3 R2) (fun j hj => by have h1 := C3.size; exact ⟨by omega, by omega⟩) HTR.out).mono ?_
                          rintro r w4 ⟨m4, rfl, R4, C4⟩
                          have eT := C4.cell x2 ne'
                          have HPT : Hid (Pl b q (k + 1) (fun j => lo ≤ j ∧ j ≠ e) w4) := Lib.hid ⟨_, _, m4, F3.from C4 nb, R4, hSI.out.failed bI dI, hSL.out.failed bI dI⟩
                          have TT : Chg [] W w4 := ChgFrom.all (T2.trans C3 (fun j hj => by simp at hj; right; omega)) C4 hAW.out
                          have sT : e < w4.heap.size := by have h1 := C3.size; have h2 := C4.size; have h3 : w2.heap.size = w2.heap.size := rfl; omega
                          clear x2 b0 b1 b2 F2 R2 F3 R4 C3 C4 T2 KD KF KL KO HB
                          go_wp2_with fail
                          all_goals go_meet
                          case rel => exact ⟨_, _, rfl, rfl, HPT, TT, eT, sT⟩
          case rest =>
          rename_i hK0
          obtain ⟨bJ, dJ, rfl, rfl, HPT, TT, eT, sT⟩ := hcut
          clear b0 b1 b2 F2 R2 T2 KD KF KL KO HB ht hSI hSL hAW HPS HTR
          refine hK2 _ _ ?_
          as_aux_lemma =>
            obtain ⟨s5, R5, m5, F5, Rr5, SM5, SL5⟩ := HPT.out
            have hps5 : R5.ps.length ≤ 1000000 := by have := SL5.1; omega
            have htr5 : ∀ (i : Nat) (x : RB), R5.bs[i]? = some x → x.tr.length ≤ 1000000 := fun i x hx => by have := SL5.2 i x hx; omega
            have LE : Hid (nums s5.leftB 32 = R5.left ∧ nums s5.stuckB 32 = R5.stuck ∧ s5.asked xd = R5.asked xd) := Lib.hid ⟨SM5.left.symm, SM5.stuck.symm, (SM5.asked xd).symm⟩
            have KA : Hid (∀ w, FetchAt w b s5 → Calls Try.prog 11 #[.pointer (some ⟨b, 0, none⟩), .int .i64 xd] w fun e w' => e = .returned (.int .i64 (R5.asked xd)) ∧ Chg [] w w') := Lib.hid (fun w h => by
              have := fetch_asked b s5 xd w h
              rw [LE.out.2.2] at this
              exact this)
            have KLe : Hid (∀ w, FetchAt w b s5 → Calls Try.prog 15 #[.pointer (some ⟨b, 0, none⟩)] w (Listed w R5.left)) := Lib.hid (fun w h => by
              have := fetch_left b s5 w h
              rw [LE.out.1] at this
              exact this)
            have KSt : Hid (∀ w, FetchAt w b s5 → Calls Try.prog 16 #[.pointer (some ⟨b, 0, none⟩)] w (Listed w R5.stuck)) := Lib.hid (fun w h => by
              have := fetch_stuck b s5 w h
              rw [LE.out.2.1] at this
              exact this)
            have hl5 : R5.left.length ≤ 32 := by have h1 := gat_le (fun x => !x.had) R5.bs R5.bs.length; have h2 := Rr5.few; show (gat (fun x => !x.had) R5.bs R5.bs.length).length ≤ 32; omega
            have hk5 : R5.stuck.length ≤ 32 := by have h1 := gat_le R5.free R5.bs R5.bs.length; have h2 := Rr5.few; show (gat R5.free R5.bs R5.bs.length).length ≤ 32; omega
            have PK : Hid (∀ w', Chg [] wc w' → Pl b q (k + 1) (fun j => lo ≤ j) w') := Lib.hid (fun w' C => ⟨s5, R5, m5, F5.chg C (by simp), (Rr5.keep C (by simp)).narrow (fun j h _ => h.1), SM5, SL5⟩)
            have FK : Hid (∀ w', Chg [] wc w' → FetchAt w' b s5) := Lib.hid (fun w' C => F5.chg C (by simp))
            have RK : Hid (∀ w', Chg [] wc w' → RefAt w' (fun j => lo ≤ j ∧ j ≠ e) q R5 m5) := Lib.hid (fun w' C => Rr5.keep C (by simp))
            have eD : (wc.drewN 1).cell? ⟨e, 2, none⟩ = some (.int .i64 xd) := eT
            clear F5 Rr5 SM5 SL5 LE HPT
            go_wp2_with fail
            go_region_held3 (fun w' => w'.cell? ⟨e, 2, none⟩ = some (.int .i64 xd)) (first | assumption | exact eD) (first | (go_at_call 15; refine (KLe.out _ (FK.out _ (Chg.drewN [] _ 1))).mono ?_; rintro r wa ⟨va, rfl, ova, Ca, nva⟩; have ea := Ca.cell_some eD (by simp); have Da := (Chg.drewN [] wc 1).trans Ca (by simp); obtain ⟨aa, caa, rfl, _, _⟩ := ownsRow_slice ova) | (go_at_call 16; refine (KSt.out _ (FK.out _ Da)).mono ?_; rintro r wb ⟨vb, rfl, ovb, Cb, nvb⟩; have eb := Cb.cell_some ea (by simp); have Db := Da.trans Cb (by simp); obtain ⟨ab2, cab, rfl, _, _⟩ := ownsRow_slice ovb) | (go_at_call 11; refine (KA.out _ (FK.out _ Db)).mono ?_; rintro r wk ⟨rfl, Cc⟩; have ec := Cc.cell_some eb (by simp); have Dc := Db.trans Cc (by simp)))
            have sa := (ownsRow_src ova).chg (Cb.trans Cc (by simp)) (by simp)
            have sb := (ownsRow_src ovb).chg Cc (by simp)
            clear ova ovb Ca Cb Cc nva nvb ea eb eD Da Db
            go_wp2_with fail
            refine (ref_left _ q R5 m5 _ (RK.out _ Dc)).mono ?_
            rintro r wd ⟨vd, rfl, ovd, Cd, nvd⟩
            obtain ⟨ad, cad, rfl, _, _⟩ := ownsRow_slice ovd
            have k1 := ref_same R5.left R5.left aa ad caa cad wd (sa.chg Cd (by simp)) (ownsRow_src ovd) (by omega) (by omega)
            rw [decide_eq_true rfl] at k1
            have sb2 := sb.chg Cd (by simp)
            have ed := Cd.cell_some ec (by simp)
            have Dd := Dc.trans Cd (by simp)
            clear ovd nvd Cd ec Dc sa sb
            go_wp2_with fail
            refine k1.mono ?_
            rintro r we ⟨rfl, n1, rfl⟩
            have De := Dd.trans (Chg.drewN [] wd n1) (by simp)
            have sb3 := sb2.chg (Chg.drewN [] wd n1) (by simp)
            have ee : (wd.drewN n1).cell? ⟨e, 2, none⟩ = some (.int .i64 xd) := ed
            clear k1 sb2 ed Dd
            generalize wd.drewN n1 = we at *
            go_wp2_with fail
            refine (ref_stuck _ q R5 m5 _ (RK.out _ De) hps5 htr5).mono ?_
            rintro r wf ⟨vf, rfl, ovf, Cf, nvf⟩
            obtain ⟨af2, caf, rfl, _, _⟩ := ownsRow_slice ovf
            have k1 := ref_same R5.stuck R5.stuck ab2 af2 cab caf wf (sb3.chg Cf (by simp)) (ownsRow_src ovf) (by omega) (by omega)
            rw [decide_eq_true rfl] at k1
            have ef := Cf.cell_some ee (by simp)
            have Df := De.trans Cf (by simp)
            clear ovf nvf Cf ee De sb3
            go_wp2_with fail
            refine k1.mono ?_
            rintro r wg ⟨rfl, n2, rfl⟩
            have Dg := Df.trans (Chg.drewN [] wf n2) (by simp)
            have eg : (wf.drewN n2).cell? ⟨e, 2, none⟩ = some (.int .i64 xd) := ef
            clear k1 ef Df
            generalize wf.drewN n2 = wg at *
            go_wp2_with fail
            refine (ref_asked _ q R5 m5 xd _ (RK.out _ Dg)).mono ?_
            rintro r w' ⟨rfl, rfl⟩
            have HPL := Lib.hid (PK.out _ Dg)
            have TG := TT.trans Dg (by simp)
            have szg : lo ≤ wg.heap.size := by have := Dg.size; omega
            clear Dg PK FK RK KA KLe KSt
            go_wp2_with fail
            go_roundw
            case rel => exact ⟨k + 1, bJ, dJ, rfl, rfl, by go_num, by omega, by omega, HPL, TG, szg⟩
            case measure => simp [intOf]; omega
        · have h150' : ¬ (k : Int) < 150 := by omega
          clear hk150
          go_wp2_with fail
          refine (fetch_works wr).mono ?_
          rintro r w3 ⟨rfl, C3⟩
          go_wp2_with fail
          go_ret
          exact ⟨rfl, T.trans C3 (by simp)⟩
      · have hkn : k = N := by omega
        subst hkn
        go_wp2_with fail
        refine (fetch_works wr).mono ?_
        rintro r w3 ⟨rfl, C3⟩
        go_wp2_with fail
        go_ret
        exact ⟨rfl, T.trans C3 (by simp)⟩
end Go.Proofs.Ytcapbfhiiiggdaa
