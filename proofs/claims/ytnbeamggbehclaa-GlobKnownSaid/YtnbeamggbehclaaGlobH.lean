/- The class of a text, walked. No conditions beyond those that each statement types. -/
import Derived.Test.YtnbeamggbehclaaGlobF
import Derived.Test.YtnbeamggbehclaaGlobG
import Derived.Test.YtnbeamggbehclaaAggY
namespace Go.Proofs.Ytnbeamggbehclaa
open Go.RowKit

theorem clo_set {w : World} {b gt gi gp gr n c lo hi : Nat} {a : Option Addr} {no : Bool} {rs : List (UInt8 × UInt8)} (fold : Bool) (hn : rs.length = n) (hs : n ≤ 1000000)
    (ht : w.cell? ⟨gt, 0, none⟩ = some (.bool no)) (hi' : w.cell? ⟨gi, 0, none⟩ = some (.func (.func 54) #[] #[.pointer (some ⟨gr, 0, none⟩)])) (hp : w.cell? ⟨gp, 0, none⟩ = some (.pointer (some ⟨b, 0, none⟩)))
    (hr : w.cell? ⟨gr, 0, none⟩ = some (.slice a n c)) (ho : w.ownsRow 0 90 2 (.slice a n c) n (rvs rs)) (n1 : lo ≤ gt ∧ gt < hi) (n2 : lo ≤ gi ∧ gi < hi) (n3 : lo ≤ gp ∧ gp < hi) (n4 : lo ≤ gr ∧ gr < hi) (n5 : ∀ k, (Value.slice a n c).ownBlock = some k → lo ≤ k ∧ k < hi) :
    CloAt w b lo hi fold (.func (.func 55) #[] #[.pointer (some ⟨gt, 0, none⟩), .pointer (some ⟨gi, 0, none⟩), .pointer (some ⟨gp, 0, none⟩)]) ((El.set no rs).holds fold) :=
  ⟨_, _, rfl, enters_of Try.func55 (by kernel_rfl) rfl, fun w' S x C hS h3 =>
    glob_class2 x b gt gi gp gr no fold a n c rs w' hn hs (C.cell_some ht (fun hm => by have := hS _ hm; simp at this; omega)) (C.cell_some hi' (fun hm => by have := hS _ hm; simp at this; omega)) (C.cell_some hp (fun hm => by have := hS _ hm; simp at this; omega)) h3 (C.cell_some hr (fun hm => by have := hS _ hm; simp at this; omega)) (ownsRow_chg ho C (fun k hk hm => by have := n5 k hk; have := hS k hm; omega))⟩

/-- What taking an element off a text hands back. -/
def Took (w : World) (b : Nat) (l : List UInt8) (res : Option (El × List UInt8)) (e : Ending) (w' : World) : Prop :=
  match res with
  | none => e = .returned (.tuple #[.agg #[Value.nilFunc, .bool false], .int .i64 0]) ∧ Chg [] w w'
  | some (x, r) => ∃ v, ∃ n : Nat, e = .returned (.tuple #[v, .int .i64 n]) ∧ 0 < n ∧ n ≤ l.length ∧ l.drop n = r ∧ ElOut w b x v w'

theorem results_el_tmp {fn : Func} {p u : Tmp} (h : fn.results = #[.cell p 48, .tmp u]) (tmps : Array Value) (w : World) (g : Nat) (t : TypeId) (x y : Value) (fr : Nat × Nat) (v : Value)
    (hp : tmps.getD p undef = .pointer (some ⟨g, 0, none⟩)) (hv : tmps.getD u undef = v) (hg : w.heap[g]? = some (.cells #[x, y] t fr)) :
    (results fn tmps).run Try.prog w = .ok (.tuple #[.agg #[x, y], v]) w := by
  have h1 := run_loadVar_row (P := Try.prog) w g t 48 #[x, y] fr _ hg Try.underlying48 rfl Try.infoEl
  rw [results_cell_tmp h, hp, hv]
  have h2 : (asAddr (.pointer (some ⟨g, 0, none⟩))).run Try.prog w = .ok ⟨g, 0, none⟩ w := rfl
  rw [h2]
  simp only [Result.andThen, h1]

/-- What stands in memory while a class is read. -/
structure Cls (w wr : World) (b gp : Nat) (no : Bool) (a : Option Addr) (n c : Nat) (acc : List (UInt8 × UInt8)) : Prop where
  p : wr.heap[gp]? = some (.cells #[.pointer (some ⟨b, 0, none⟩)] 23 (0, 0))
  e : wr.heap[gp + 1]? = some (.cells #[Value.nilFunc, .bool false] 48 (0, 0))
  t : wr.heap[gp + 2]? = some (.cells #[.bool no] 4 (0, 0))
  r : wr.heap[gp + 3]? = some (.cells #[.slice a n c] 51 (0, 0))
  own : wr.ownsRow 0 90 2 (.slice a n c) n (rvs acc)
  new : ∀ k, (Value.slice a n c).ownBlock = some k → gp + 3 < k
  len : acc.length = n
  chg : Chg [] w wr
  size : w.heap.size = gp

theorem Try.infoPairU : (Try.prog.info? 90).map (fun i => (i.zero, i.size, i.bytes)) = some (some (.agg #[.int .u8 0, .int .u8 0]), 2, 2) := by kernel_rfl
/-- A world behind an append of one range: nothing of the class has turned but the row. -/
theorem Cls.grown {w wr w1 : World} {b gp n c : Nat} {no : Bool} {a : Option Addr} {acc : List (UInt8 × UInt8)} (H : Cls w wr b gp no a n c acc) {o : Obj} (hgr : (wr.alloc o).grownBy w1 (Value.slice a n c).ownBlock) :
    (∀ k, k ≤ gp + 3 → w1.heap[k]? = wr.heap[k]?) ∧ Chg [] w w1 ∧ wr.heap.size < w1.heap.size := by
  have hl := lt_of_block H.r
  have CA := Chg.alloc (Value.slice a n c).ownBlock.toList wr o
  have CG := Chg.grown hgr (S := (Value.slice a n c).ownBlock.toList) (fun k hk => .inl (by simp [hk]))
  have CT := CA.trans CG (fun k hk => .inl hk)
  have hsz := hgr.size
  simp only [World.size_alloc] at hsz
  refine ⟨fun k hk => CT.block k (by omega) (fun hm => ?_), H.chg.trans CT (fun k hk => .inr ?_), by omega⟩
  · have := H.new k (by simpa using hm); omega
  · have := H.new k (by simpa using hk); have := H.size; omega
theorem Cls.push {w wr w1 : World} {b gp n c c' : Nat} {no : Bool} {a ao' : Option Addr} {acc : List (UInt8 × UInt8)} (H : Cls w wr b gp no a n c acc) {o : Obj} {r : UInt8 × UInt8} (hgr : (wr.alloc o).grownBy w1 (Value.slice a n c).ownBlock)
    (hown : w1.ownsRow 0 90 2 (.slice ao' (n + 1) c') (n + 1) (rvs acc ++ rvs [r])) (hblk : (Value.slice ao' (n + 1) c').ownBlock = (Value.slice a n c).ownBlock ∨ (Value.slice ao' (n + 1) c').ownBlock = some (wr.heap.size + 1)) :
    Cls w (w1.setCell ⟨gp + 3, 0, none⟩ (.slice ao' (n + 1) c')) b gp no ao' (n + 1) c' (acc ++ [r]) := by
  obtain ⟨hb, hc, hsz⟩ := H.grown hgr
  have hl := lt_of_block H.r
  have hnew : ∀ k, (Value.slice ao' (n + 1) c').ownBlock = some k → gp + 3 < k := by
    intro k hk
    rcases hblk with h1 | h1 <;> rw [h1] at hk
    · exact H.new k hk
    · have := Option.some.inj hk
      omega
  have CS : Chg [gp + 3] w1 (w1.setCell ⟨gp + 3, 0, none⟩ (.slice ao' (n + 1) c')) := Chg.setCell _ _ _ (.inl (by simp))
  have hs := H.size
  refine ⟨?_, ?_, ?_, ?_, ?_, hnew, by rw [List.length_append, H.len]; rfl, hc.trans CS (fun k hk => .inr (by simp at hk; omega)), hs⟩
  · exact (heap_setCell_other _ _ _ _ (by simp)).trans ((hb _ (by omega)).trans H.p)
  · exact (heap_setCell_other _ _ _ _ (by simp)).trans ((hb _ (by omega)).trans H.e)
  · exact (heap_setCell_other _ _ _ _ (by simp)).trans ((hb _ (by omega)).trans H.t)
  · exact heap_setCell_same _ _ _ _ _ _ ((hb _ (by omega)).trans H.r)
  · rw [rvs_append]
    exact ownsRow_chg hown CS (fun k hk hm => by have := hnew k hk; simp at hm; omega)

set_option maxRecDepth 100000 in
set_option maxHeartbeats 8000000 in
theorem glob_class (b : Nat) (s : ByteArray) (w : World) (_ : b < w.heap.size) (hs : s.size ≤ 1000) :
    Calls Try.prog 42 #[.pointer (some ⟨b, 0, none⟩), .string s] w (Took w b s.data.toList (class1 s.data.toList)) := by
  have hmf : ∀ (fn : Fn) (first cap : Array Value) (w : World), (Instr.makeFunc fn first cap).run Try.prog w = .ok (.func fn first cap) w := fun _ _ _ _ => rfl
  have K1 := Lib.hid (glob_hasPrefixS s ⟨#[33]⟩)
  have e1 : (⟨#[33]⟩ : ByteArray).data.toList = [33] := rfl
  rw [e1] at K1
  have KO := Lib.hid (fun t w => glob_one t w)
  obtain ⟨R, hR⟩ : ∃ R, rangesOf (if pre [33] s.data.toList then s.data.toList.drop 1 else s.data.toList) [] = R := ⟨_, rfl⟩
  obtain ⟨l, hl⟩ : ∃ l, s.data.toList = l := ⟨_, rfl⟩
  have HL := Lib.hid hl
  obtain ⟨RES, hRES⟩ : ∃ RES, class1 s.data.toList = RES := ⟨_, rfl⟩
  have hres := hRES
  rw [class1, hR, hl] at hres
  rw [hRES, hl]
  rw [hl] at hR K1
  obtain ⟨no, hno⟩ : ∃ no, pre [33] l = no := ⟨_, rfl⟩
  rw [hno] at K1 hR hres
  have HR := Lib.hid hR
  have HRES := Lib.hid hres
  have HNO : Hid (no = true → 0 < s.size) := Lib.hid (fun h => by rw [h] at hno; have := pre_len hno; rw [← hl] at this; exact this)
  clear hR hRES hres hno e1 hl
  have h0 := heap_alloc_new w (.cells #[.pointer (some ⟨b, 0, none⟩)] 23)
  have h1 := heap_alloc_new (w.alloc (.cells #[.pointer (some ⟨b, 0, none⟩)] 23)) (.cells #[Value.nilFunc, .bool false] 48)
  have C1 := Chg.alloc [] w (.cells #[.pointer (some ⟨b, 0, none⟩)] 23)
  have C2 := Chg.alloc [] (w.alloc (.cells #[.pointer (some ⟨b, 0, none⟩)] 23)) (.cells #[Value.nilFunc, .bool false] 48)
  have h0' := (C2.block _ (lt_of_block h0) (by simp)).trans h0
  have T2 := C1.trans C2 (by simp)
  clear h0 C1 C2
  have hsz2 : ((w.alloc (.cells #[.pointer (some ⟨b, 0, none⟩)] 23)).alloc (.cells #[Value.nilFunc, .bool false] 48)).heap.size = w.heap.size + 2 := by simp
  simp only [World.size_alloc] at h1
  go_enter Try.func42, Try.ntmps42
  go_wp2_with fail
  generalize (w.alloc (.cells #[.pointer (some ⟨b, 0, none⟩)] 23)).alloc (.cells #[Value.nilFunc, .bool false] 48) = w2 at *
  obtain ⟨gp, hgp⟩ : ∃ g, w.heap.size = g := ⟨_, rfl⟩
  rw [hgp] at h0' h1 hsz2 ⊢
  have HG := Lib.hid hgp
  clear hgp
  refine (K1.out _).mono ?_
  rintro e w2' ⟨rfl, rfl⟩
  clear K1
  go_upto_region 3 with (fail)
  have h2 := heap_alloc_new w2' (.cells #[.bool no] 4)
  rw [hsz2] at h2
  have C3 := Chg.alloc [] w2' (.cells #[.bool no] 4)
  have h03 := (C3.block _ (lt_of_block h0') (by simp)).trans h0'
  have h13 := (C3.block _ (lt_of_block h1) (by simp)).trans h1
  have T3 := T2.trans C3 (by simp)
  have hsz3 : (w2'.alloc (.cells #[.bool no] 4)).heap.size = gp + 3 := by simp [hsz2]
  clear h0' h1 C3 T2 hsz2
  generalize w2'.alloc (.cells #[.bool no] 4) = w3 at *
  have ct : w3.cell? ⟨gp + 2, 0, none⟩ = some (.bool no) := by rw [cell_of_row _ _ _ _ _ _ h2]; rfl
  go_upto_if 15 with (fail)
  go_cut [6] (fun v w' => v = .int .i64 (if no then 1 else 0) ∧ w3 = w')
  case first =>
    cases no with
    | true => go_wp2_with fail; go_meet; exact ⟨rfl, rfl⟩
    | false => go_wp2_with fail; go_meet; exact ⟨rfl, rfl⟩
  case rest =>
  obtain ⟨rfl, rfl⟩ := hcut
  obtain ⟨at0, hat0⟩ : ∃ at0, (if no then 1 else 0 : Nat) = at0 := ⟨_, rfl⟩
  have hat1 : (if no then 1 else 0 : Int) = (at0 : Int) := by rw [← hat0]; cases no <;> rfl
  rw [hat1]
  have HR1 : Hid (rangesOf (l.drop at0) [] = R) := Lib.hid (by rw [← HR.out, ← hat0]; cases no <;> rfl)
  have hsz0 : l.length = s.size := by rw [← HL.out]; rfl
  have hat2 : at0 ≤ s.size := by rw [← hat0]; cases no with | true => exact HNO.out rfl | false => exact Nat.zero_le _
  clear hat0 hat1 HR HNO
  have h3 := heap_alloc_new w3 (.cells #[.slice none 0 0] 51)
  rw [hsz3] at h3
  have C4 := Chg.alloc [] w3 (.cells #[.slice none 0 0] 51)
  have CL : Cls w (w3.alloc (.cells #[.slice none 0 0] 51)) b gp no none 0 0 [] :=
    ⟨(C4.block _ (lt_of_block h03) (by simp)).trans h03, (C4.block _ (lt_of_block h13) (by simp)).trans h13, (C4.block _ (lt_of_block h2) (by simp)).trans h2, h3, World.ownsRow_nil _ _ _ _, fun q hq => (by cases hq), rfl, T3.trans C4 (by simp), HG.out⟩
  have HCL := Lib.hid CL
  clear h3 C4 h03 h13 h2 T3 ct CL
  go_upto_region 5 with (fail)
  go_wp2_with fail
  generalize w3.alloc (.cells #[.slice none 0 0] 51) = w4 at *
  (try rw [hsz3])
  clear hsz3
  go_loopw [6] (fun v wr => ∃ (k n c : Nat) (a : Option Addr) (acc : List (UInt8 × UInt8)), v = .int .i64 k ∧ k ≤ s.size ∧ n ≤ k ∧ Hid (rangesOf (l.drop k) acc = R) ∧ Hid (Cls w wr b gp no a n c acc)) (fun v _ => s.size - (intOf v).toNat)
  case atStart => exact ⟨at0, 0, 0, none, [], rfl, hat2, by omega, HR1, HCL⟩
  case round =>
    obtain ⟨k, n, c, a, acc, rfl, hk, hnk, hR, hC⟩ := hrel
    clear HR1 HCL hat2
    have hE := rangesOf_eq (l.drop k) acc
    by_cases hsh : shut (l.drop k) = true
    · rw [if_pos hsh, hR.out] at hE
      subst hE
      have hcr : wr.cell? ⟨gp + 3, 0, none⟩ = some (.slice a n c) := by rw [cell_of_row _ _ _ _ _ _ hC.out.r]; rfl
      have he := hC.out.e
      rcases Nat.lt_or_ge k s.size with hkl | hkl
      · have hd := data_head hkl
        rw [HL.out] at hd
        have h93 : s[k].toNat = 93 := by
          unfold shut at hsh; rw [hd] at hsh
          have : s[k] = 93 := by simpa using hsh
          rw [this]; rfl
        have hkl' : (k : Int) < s.size := by omega
        have hk0 : (0 : Int) ≤ k := by omega
        have hb93 : ((s[k].toNat : Int) != 93) = false := by rw [h93]; rfl
        have hks : ((k : Int) == s.size) = false := beq_eq_false_iff_ne.2 (by omega)
        rcases Nat.eq_zero_or_pos n with hn0 | hn0
        · subst hn0
          have HRE : none = RES := by rw [← HRES.out]; simp [hC.out.len]
          clear hd hsh h93
          go_wp2_with (refine wpList_store_y 48 (.tmp 4) (.tmp 93) rfl rfl (.pointer (some ⟨gp + 1, 0, none⟩)) (.agg #[Value.nilFunc, .bool false]) _ (store_el _ _ _ _ _ _ he rfl rfl) rfl rfl ?_)
          have hr := setRow_heap wr (gp + 1) _ #[Value.nilFunc, .bool false] _ _ he
          subst HRE
          exact bodyPost_ret (results_el_tmp rfl _ _ (gp + 1) _ _ _ _ _ rfl rfl hr) rfl ⟨rfl, hC.out.chg.trans (Chg.setRow (S := [gp + 1]) _ _ _ (.inl (by simp))) (fun q hq => by simp at hq; right; have := HG.out; omega)⟩
        · have HRE : some (El.set no acc, l.drop (k + 1)) = RES := by
            rw [← HRES.out]
            simp only [List.length_drop, hsz0, hC.out.len, List.drop_drop]
            rw [if_neg (by omega)]
          have hn1 : ((n : Int) == 0) = false := beq_eq_false_iff_ne.2 (by omega)
          have hwk : IntKind.i64.wrap ((k : Int) + 1) = k + 1 := by rw [IntKind.wrap_i64]; omega
          have CA := Chg.alloc [] wr (.cells #[.func (.func 54) #[] #[.pointer (some ⟨gp + 3, 0, none⟩)]] 46)
          have hgi := heap_alloc_new wr (.cells #[.func (.func 54) #[] #[.pointer (some ⟨gp + 3, 0, none⟩)]] 46)
          have hfs : (store ⟨wr.heap.size, 0, none⟩ (.func (.func 54) #[] #[.pointer (some ⟨gp + 3, 0, none⟩)])).run Try.prog (wr.alloc (.cells #[Value.nilFunc] 46)) = .ok () (wr.alloc (.cells #[.func (.func 54) #[] #[.pointer (some ⟨gp + 3, 0, none⟩)]] 46)) := run_store_func_new _ _ _ _ _
          obtain ⟨gi, hgq⟩ : ∃ g, wr.heap.size = g := ⟨_, rfl⟩
          rw [hgq] at hgi hfs
          clear hd hsh h93
          go_upto_region 21 with (fail)
          generalize wr.alloc (.cells #[.func (.func 54) #[] #[.pointer (some ⟨gp + 3, 0, none⟩)]] 46) = w5 at *
          clear hfs
          have he5 := (CA.block _ (lt_of_block he) (by simp)).trans he
          go_wp2_with (refine wpList_store_y 48 (.tmp 4) (.tmp 96) rfl rfl (.pointer (some ⟨gp + 1, 0, none⟩)) (.agg #[.func (.func 55) #[] #[.pointer (some ⟨gp + 2, 0, none⟩), .pointer (some ⟨gi, 0, none⟩), .pointer (some ⟨gp, 0, none⟩)], .bool false]) _ (store_el _ _ _ _ _ _ he5 rfl rfl) rfl rfl ?_)
          have hr := setRow_heap w5 (gp + 1) _ #[.func (.func 55) #[] #[.pointer (some ⟨gp + 2, 0, none⟩), .pointer (some ⟨gi, 0, none⟩), .pointer (some ⟨gp, 0, none⟩)], .bool false] _ _ he5
          have C6 : Chg [gp + 1] w5 (w5.setRow (gp + 1) #[.func (.func 55) #[] #[.pointer (some ⟨gp + 2, 0, none⟩), .pointer (some ⟨gi, 0, none⟩), .pointer (some ⟨gp, 0, none⟩)], .bool false]) := Chg.setRow _ _ _ (.inl (by simp))
          generalize w5.setRow (gp + 1) #[.func (.func 55) #[] #[.pointer (some ⟨gp + 2, 0, none⟩), .pointer (some ⟨gi, 0, none⟩), .pointer (some ⟨gp, 0, none⟩)], .bool false] = w6 at *
          subst HRE
          have hlr := lt_of_block hC.out.r
          have hsw := HG.out
          have hz5 := lt_of_block hgi
          have C5 := (CA.mono (T := [gp + 1]) (fun q hq => by cases hq)).trans C6 (fun q hq => .inl hq)
          have ct : w6.cell? ⟨gp + 2, 0, none⟩ = some (.bool no) := by rw [cell_of_row _ _ _ _ _ _ ((C5.block (gp + 2) (by omega) (by simp)).trans hC.out.t)]; rfl
          have cp : w6.cell? ⟨gp, 0, none⟩ = some (.pointer (some ⟨b, 0, none⟩)) := by rw [cell_of_row _ _ _ _ _ _ ((C5.block gp (by omega) (by simp)).trans hC.out.p)]; rfl
          have cr : w6.cell? ⟨gp + 3, 0, none⟩ = some (.slice a n c) := by rw [cell_of_row _ _ _ _ _ _ ((C5.block (gp + 3) (by omega) (by simp)).trans hC.out.r)]; rfl
          have ci : w6.cell? ⟨gi, 0, none⟩ = some (.func (.func 54) #[] #[.pointer (some ⟨gp + 3, 0, none⟩)]) := by rw [cell_of_row _ _ _ _ _ _ ((C6.block gi (by omega) (by simp; omega)).trans hgi)]; rfl
          have ho := ownsRow_chg hC.out.own C5 (fun q hq hm => by have := hC.out.new q hq; simp at hm; omega)
          have CW : Chg [] w w6 := hC.out.chg.trans C5 (fun q hq => by simp at hq; right; omega)
          exact bodyPost_ret (results_el_tmp rfl _ _ (gp + 1) _ _ _ _ _ rfl rfl hr) rfl ⟨_, k + 1, rfl, by omega, by omega, rfl, _, rfl, fun fold => clo_set fold hC.out.len (by omega) ct ci cp cr ho (by have := lt_of_block hr; have := C6.size; omega) (by have := C6.size; omega) (by have := C6.size; omega) (by have := C6.size; omega) (fun q hq => by have := hC.out.new q hq; have := ownsRow_lt ho q hq; omega), CW⟩
      · have hkk : k = s.size := by omega
        have HRE : none = RES := by rw [← HRES.out]; simp [hkk, hsz0]
        have hks : ((k : Int) == s.size) = true := beq_iff_eq.2 (by omega)
        have hkl' : ¬ (k : Int) < s.size := by omega
        clear hsh hkk
        go_wp2_with (refine wpList_store_y 48 (.tmp 4) (.tmp 93) rfl rfl (.pointer (some ⟨gp + 1, 0, none⟩)) (.agg #[Value.nilFunc, .bool false]) _ (store_el _ _ _ _ _ _ he rfl rfl) rfl rfl ?_)
        have hr := setRow_heap wr (gp + 1) _ #[Value.nilFunc, .bool false] _ _ he
        subst HRE
        exact bodyPost_ret (results_el_tmp rfl _ _ (gp + 1) _ _ _ _ _ rfl rfl hr) rfl ⟨rfl, hC.out.chg.trans (Chg.setRow (S := [gp + 1]) _ _ _ (.inl (by simp))) (fun q hq => by simp at hq; right; have := HG.out; omega)⟩
    · rw [if_neg hsh, hR.out] at hE
      have hkl : k < s.size := by
        rcases Nat.lt_or_ge k s.size with h | h
        · exact h
        · exact absurd (by unfold shut; rw [List.length_drop, hsz0, show s.size - k = 0 by omega]; rfl) hsh
      have hd := data_head hkl
      rw [HL.out] at hd
      have h93 : s[k].toNat ≠ 93 := fun h => hsh (by
        have : s[k] = 93 := u8_eq.2 h
        unfold shut; rw [hd, this]; simp)
      have hkl' : (k : Int) < s.size := by omega
      have hk0 : (0 : Int) ≤ k := by omega
      have hb93 : ((s[k].toNat : Int) != 93) = true := bne_iff_ne.2 (by omega)
      obtain ⟨o, ho⟩ : ∃ o, one1 (l.drop k) = o := ⟨_, rfl⟩
      have hcut : s.extract k s.size = cutB s k := rfl
      have HCD : Hid ((cutB s k).data.toList = l.drop k) := Lib.hid (by rw [cutB_data, HL.out])
      have HO1 := Lib.hid ho
      generalize cutB s k = u at *
      cases o with
      | none =>
        have hRn : R = none := by rw [hE, range1, ho]
        have hRES : RES = none := by rw [← HRES.out, hRn]
        clear hE hsh hd h93 ho
        have K2 := KO.out u wr
        rw [HCD.out, oneV, HO1.out] at K2
        have HK := Lib.hid K2
        have he := hC.out.e
        clear K2
        go_wp2_with fail
        refine HK.out.mono ?_
        rintro e w' ⟨rfl, rfl⟩
        go_wp2_with (refine wpList_store_y 48 (.tmp 4) (.tmp 35) rfl rfl (.pointer (some ⟨gp + 1, 0, none⟩)) (.agg #[Value.nilFunc, .bool false]) _ (store_el _ _ _ _ _ _ he rfl rfl) rfl rfl ?_)
        have hr := setRow_heap w' (gp + 1) _ #[Value.nilFunc, .bool false] _ _ he
        subst hRES
        exact bodyPost_ret (results_el_tmp rfl _ _ (gp + 1) _ _ _ _ _ rfl rfl hr) rfl ⟨rfl, hC.out.chg.trans (Chg.setRow (S := [gp + 1]) _ _ _ (.inl (by simp))) (fun q hq => by simp at hq; right; have := HG.out; omega)⟩
      | some o =>
        obtain ⟨x, m⟩ := o
        have hpos := one1_pos ho
        rw [List.length_drop, hsz0] at hpos
        obtain ⟨K1, hK1⟩ : ∃ K1, k + m = K1 := ⟨_, rfl⟩
        have hK1s : K1 ≤ s.size := by omega
        have hkK : k < K1 := by omega
        have hw1 : IntKind.i64.wrap ((k : Int) + m) = K1 := by rw [IntKind.wrap_i64]; omega
        have hw2 : IntKind.i64.wrap ((K1 : Int) + 1) = K1 + 1 := by rw [IntKind.wrap_i64]; omega
        have hm0 : ((m : Int) == 0) = false := beq_eq_false_iff_ne.2 (by omega)
        have HE : Hid (R = match range1 (l.drop k) with | none => none | some (r, n) => rangesOf ((l.drop k).drop n) (acc ++ [r])) := Lib.hid hE
        have HNo : Hid (range1 (l.drop k) = none → none = RES) := Lib.hid (fun h => by have h2 := HE.out; rw [h] at h2; rw [← HRES.out, h2])
        have HOk : Hid (∀ p j, range1 (l.drop k) = some (p, j) → rangesOf (l.drop (k + j)) (acc ++ [p]) = R) := Lib.hid (fun p j h => by have h2 := HE.out; rw [h] at h2; simp only [List.drop_drop] at h2; exact h2.symm)
        have HO2 : Hid (one1 (l.drop k) = some (x, m)) := Lib.hid ho
        obtain ⟨D, hD⟩ : ∃ D, dash (l.drop K1) = D := ⟨_, rfl⟩
        have HD := Lib.hid hD
        have HK1 := Lib.hid hK1
        have K2 := KO.out u wr
        rw [HCD.out, oneV, HO1.out] at K2
        have HK := Lib.hid K2
        clear K2 hE hsh hd h93 ho hK1 hpos HCD HO1 hD
        unfold bv at HK
        go_wp2_with fail
        refine HK.out.mono ?_
        rintro e w' ⟨rfl, rfl⟩
        go_upto_region 12 with (fail)
        go_cut [57] (fun v w3 => v = .bool D ∧ w' = w3)
        case first =>
          have hdl : (l.drop K1).length = s.size - K1 := by rw [List.length_drop, hsz0]
          by_cases h1 : K1 + 1 < s.size
          · have hK1l : K1 < s.size := by omega
            have hd0 := data_head hK1l
            have hd1 := data_head h1
            rw [HL.out] at hd0 hd1
            have hdash : dash (l.drop K1) = (s[K1] == 45 && s[K1 + 1] != 93) := by
              unfold dash
              rw [hdl, decide_eq_true (by omega), hd0, hd1]
              rfl
            have e1 : (s[K1] == 45) = ((s[K1].toNat : Int) == 45) := by
              rw [Bool.eq_iff_iff, beq_iff_eq, beq_iff_eq, u8_eq]
              have : (45 : UInt8).toNat = 45 := rfl
              omega
            have e2 : (s[K1 + 1] != 93) = ((s[K1 + 1].toNat : Int) != 93) := by
              rw [Bool.eq_iff_iff, bne_iff_ne, bne_iff_ne, Ne, Ne, u8_eq]
              have : (93 : UInt8).toNat = 93 := rfl
              omega
            rw [e1, e2, HD.out] at hdash
            clear e1 e2 hd0 hd1 hdl
            have h1' : (K1 : Int) + 1 < s.size := by omega
            have hK1l' : (K1 : Int) < s.size := by omega
            have hK10 : (0 : Int) ≤ K1 := by omega
            have hK11 : (0 : Int) ≤ (K1 : Int) + 1 := by omega
            have htn : ((K1 : Int) + 1).toNat = K1 + 1 := by omega
            by_cases h45 : ((s[K1].toNat : Int) == 45) = true
            · rw [h45, Bool.true_and] at hdash
              have HDD := Lib.hid hdash
              clear hdash
              go_wp2_with fail
              go_meet
              case rel => exact ⟨by rw [HDD.out], rfl⟩
            · have h45' : ((s[K1].toNat : Int) == 45) = false := by simpa using h45
              rw [h45', Bool.false_and] at hdash
              have HDD := Lib.hid hdash
              clear hdash h45
              go_wp2_with fail
              go_meet
              case rel => exact ⟨by rw [HDD.out], rfl⟩
          · have hdash : D = false := by
              rw [← HD.out]
              unfold dash
              rw [hdl, decide_eq_false (by omega)]
              rfl
            have HDD := Lib.hid hdash
            have h1' : ¬ (K1 : Int) + 1 < s.size := by omega
            clear hdash
            go_wp2_with fail
            go_meet
            case rel => exact ⟨by rw [HDD.out], rfl⟩
        case rest =>
        rename_i hK0
        obtain ⟨rfl, rfl⟩ := hcut
        refine hK0 _ _ ?_
        clear hK0
        go_upto_if 57 with (fail)
        go_cut [6, 11] (fun v6 v11 w3 => ∃ (y : UInt8) (K2 : Nat), v6 = .int .i64 K2 ∧ v11 = .int .u8 y.toNat ∧ K1 ≤ K2 ∧ K2 ≤ s.size ∧ Hid (range1 (l.drop k) = some ((x, y), K2 - k)) ∧ w' = w3)
        case first =>
          have hkd : (l.drop k).drop m = l.drop K1 := by rw [List.drop_drop, HK1.out]
          have hkd1 : (l.drop k).drop (m + 1) = l.drop (K1 + 1) := by rw [List.drop_drop, ← HK1.out, Nat.add_assoc]
          cases D with
          | false =>
            have HR2 := Lib.hid (range1_single HO2.out (by rw [hkd, HD.out]))
            have HK1m : m = K1 - k := by have := HK1.out; omega
            clear hkd hkd1
            go_wp2_with fail
            go_meet
            case rel => exact ⟨x, K1, rfl, rfl, Nat.le_refl _, hK1s, by rw [← HK1m]; exact HR2, rfl⟩
          | true =>
            have hK1l : K1 + 1 < s.size := by
              rcases Nat.lt_or_ge (K1 + 1) s.size with h | h
              · exact h
              · have h2 := HD.out
                unfold dash at h2
                rw [List.length_drop, hsz0, decide_eq_false (by omega)] at h2
                cases h2
            have hdd : dash ((l.drop k).drop m) = true := by rw [hkd, HD.out]
            have htn : ((K1 : Int) + 1).toNat = K1 + 1 := by omega
            have hK1l' : (K1 : Int) + 1 ≤ s.size := by omega
            have hK10 : (0 : Int) ≤ (K1 : Int) + 1 := by omega
            have hcut2 : s.extract (K1 + 1) s.size = cutB s (K1 + 1) := rfl
            have HCD : Hid ((cutB s (K1 + 1)).data.toList = l.drop (K1 + 1)) := Lib.hid (by rw [cutB_data, HL.out])
            generalize cutB s (K1 + 1) = u2 at *
            obtain ⟨o2, ho2⟩ : ∃ o, one1 (l.drop (K1 + 1)) = o := ⟨_, rfl⟩
            have he := hC.out.e
            have K3 := KO.out u2 w'
            rw [HCD.out, oneV, ho2] at K3
            cases o2 with
            | none =>
              have HRE := HNo.out (range1_open HO2.out hdd (by rw [hkd1, ho2]))
              have HK := Lib.hid K3
              clear K3 ho2 hkd hkd1 hdd HNo HOk HE
              go_wp2_with fail
              refine HK.out.mono ?_
              rintro e w2 ⟨rfl, rfl⟩
              go_wp2_with (refine wpList_store_y 48 (.tmp 4) (.tmp 73) rfl rfl (.pointer (some ⟨gp + 1, 0, none⟩)) (.agg #[Value.nilFunc, .bool false]) _ (store_el _ _ _ _ _ _ he rfl rfl) rfl rfl ?_)
              have hr := setRow_heap w2 (gp + 1) _ #[Value.nilFunc, .bool false] _ _ he
              subst HRE
              exact bodyPost_ret (results_el_tmp rfl _ _ (gp + 1) _ _ _ _ _ rfl rfl hr) rfl ⟨rfl, hC.out.chg.trans (Chg.setRow (S := [gp + 1]) _ _ _ (.inl (by simp))) (fun q hq => by simp at hq; right; have := HG.out; omega)⟩
            | some o2 =>
              obtain ⟨y, m2⟩ := o2
              have hpos2 := one1_pos ho2
              rw [List.length_drop, hsz0] at hpos2
              have hm20 : ((m2 : Int) == 0) = false := beq_eq_false_iff_ne.2 (by omega)
              have HK := Lib.hid K3
              unfold bv at HK
              by_cases hlt : y < x
              · have HRE := HNo.out (range1_turned HO2.out hdd (by rw [hkd1, ho2]) hlt)
                have hlt' : y.toNat < x.toNat := UInt8.lt_iff_toNat_lt.1 hlt
                have hlt2 : (y.toNat : Int) < x.toNat := by omega
                clear K3 ho2 hkd hkd1 hdd HNo HOk HE hlt hpos2
                go_wp2_with fail
                refine HK.out.mono ?_
                rintro e w2 ⟨rfl, rfl⟩
                go_wp2_with (refine wpList_store_y 48 (.tmp 4) (.tmp 73) rfl rfl (.pointer (some ⟨gp + 1, 0, none⟩)) (.agg #[Value.nilFunc, .bool false]) _ (store_el _ _ _ _ _ _ he rfl rfl) rfl rfl ?_)
                have hr := setRow_heap w2 (gp + 1) _ #[Value.nilFunc, .bool false] _ _ he
                subst HRE
                exact bodyPost_ret (results_el_tmp rfl _ _ (gp + 1) _ _ _ _ _ rfl rfl hr) rfl ⟨rfl, hC.out.chg.trans (Chg.setRow (S := [gp + 1]) _ _ _ (.inl (by simp))) (fun q hq => by simp at hq; right; have := HG.out; omega)⟩
              · have HR2 := Lib.hid (range1_pair HO2.out hdd (by rw [hkd1, ho2]) hlt)
                have hlt2 : ¬ (y.toNat : Int) < x.toNat := by
                  have : ¬ y.toNat < x.toNat := fun h => hlt (UInt8.lt_iff_toNat_lt.2 h)
                  omega
                obtain ⟨K2, hK2⟩ : ∃ K2, K1 + (1 + m2) = K2 := ⟨_, rfl⟩
                have hw3 : IntKind.i64.wrap ((1 : Int) + m2) = 1 + m2 := by rw [IntKind.wrap_i64]; omega
                have hw4 : IntKind.i64.wrap ((K1 : Int) + (1 + m2)) = K2 := by rw [IntKind.wrap_i64]; omega
                have HF : Hid (K1 ≤ K2 ∧ K2 ≤ s.size ∧ m + (1 + m2) = K2 - k) := Lib.hid (by have := HK1.out; omega)
                clear K3 ho2 hkd hkd1 hdd HNo HOk HE hlt hpos2 hK2
                go_wp2_with fail
                refine HK.out.mono ?_
                rintro e w2 ⟨rfl, rfl⟩
                go_wp2_with fail
                go_meet
                case rel => exact ⟨y, K2, rfl, rfl, HF.out.1, HF.out.2.1, by rw [← HF.out.2.2]; exact HR2, rfl⟩
        case rest =>
        obtain ⟨y, K2, rfl, rfl, hK2, hK2s, hR2, rfl⟩ := hcut
        have HR2 : Hid (rangesOf (l.drop K2) (acc ++ [(x, y)]) = R) := Lib.hid (by have := HOk.out _ _ hR2.out; rwa [show k + (K2 - k) = K2 by omega] at this)
        clear HOk HE HNo HD hR HK HO2
        obtain ⟨ip, hip, hipz, hips, hipb⟩ := info_parts Try.infoPairU
        have hnx := heap_alloc_new w' (.cells #[.int .u8 x.toNat, .int .u8 y.toNat] 90)
        have hown := ownsRow_chg hC.out.own (Chg.alloc [] w' (.cells #[.int .u8 x.toNat, .int .u8 y.toNat] 90)) (by simp)
        have hsrc : Src (w'.alloc (.cells #[.int .u8 x.toNat, .int .u8 y.toNat] 90)) (some ⟨w'.heap.size, 0, none⟩) (rvs [(x, y)]) := by
          refine ⟨fun h => by (cases h), fun q hq j u hu => ?_⟩
          cases hq
          have hj : j < 2 := (List.getElem?_eq_some_iff.1 hu).1
          rw [addr_add0, cell_of_row _ _ j _ _ _ hnx]
          match j, hj with
          | 0, _ => exact hu
          | 1, _ => exact hu
        have cr : w'.cell? ⟨gp + 3, 0, none⟩ = some (.slice a n c) := by rw [cell_of_row _ _ _ _ _ _ hC.out.r]; rfl
        have hk5 : Hid (k < K2) := Lib.hid (by omega)
        clear hkl hkl' hk0 hb93 hm0 hw1 hw2 hkK hK1s
        go_upto_region 17 with (fail)
        go_wp2_with (at_builtin; refine wpList_append_y (.tmp 78) (.tmp 82) 51 rfl rfl 90 ip _ 2 2 Try.underlying51 hip hipz hips hipb rfl (by decide) (.slice a n c) n (rvs acc) hown (some ⟨w'.heap.size, 0, none⟩) 1 1 (rvs [(x, y)]) rfl hsrc (fun h => by cases h) (rvs_one _) (by unfold maxLen; omega) (by omega) rfl rfl ?_)
        intro ao' c' w5 hown5 hgr hblk
        have HP := Lib.hid (hC.out.push (r := (x, y)) hgr hown5 hblk)
        have cr5 : w5.cell? ⟨gp + 3, 0, none⟩ = some (.slice a n c) := by rw [cell_of_row _ _ _ _ _ _ (((hC.out.grown hgr).1 _ (by omega)).trans hC.out.r)]; rfl
        have fr5 := frozen_of_row w5 (gp + 3) 0 _ _ (((hC.out.grown hgr).1 _ (by omega)).trans hC.out.r)
        clear hown5 hgr hblk hown hsrc cr hnx hipz hips hipb hip
        go_wp2_with fail
        go_roundw
        case rel => exact ⟨K2, n + 1, c', ao', acc ++ [(x, y)], rfl, hK2s, by have := hk5.out; omega, HR2, HP⟩
        case measure => simp [intOf]; have := hk5.out; omega
end Go.Proofs.Ytnbeamggbehclaa
