/- A finder and the reference's beside one another, in memory; what else is the call's own. No conditions beyond those that each statement types. -/
import Derived.Test.YtfdhpjflkimihaaDoorBkJb
import Derived.Test.YtfdhpjflkimihaaDoorBkJc
import Derived.Test.YtfdhpjflkimihaaDoorBkJd
import Derived.Laws.BitsAllLaws
namespace Go.Proofs.YtfdhpjflkimihaaDoor
open Go.RowKit

theorem FinderAt.ltS {w : World} {b : Nat} {F : Files} {S : List Nat} (H : FinderAt w b F S) : ∀ k ∈ S, k < w.heap.size := by
  obtain ⟨_, _, _, _, _, _, HI, _⟩ := H
  exact HI.lt
theorem RefIs.ltT {w : World} {b : Nat} {R : Files} {T : List Nat} (H : RefIs w b R T) : ∀ k ∈ T, k < w.heap.size := by
  obtain ⟨_, _, _, _, _, _, h⟩ := H
  exact h.lt
theorem RefIs.own {w : World} {b : Nat} {R : Files} {T : List Nat} (H : RefIs w b R T) : b ∈ T := by
  obtain ⟨_, _, _, _, _, _, h⟩ := H
  exact h.own
/-- A finder and the reference's: the same files. -/
structure FindSt (w0 wr : World) (b bg : Nat) (F R : Files) (S T : List Nat) : Prop where
  fin : FinderAt wr b F S
  ref : RefIs wr bg R T
  same : SameF F R
  apart : ∀ k ∈ S, k ∉ T
  newS : ∀ k ∈ S, w0.heap.size ≤ k
  newT : ∀ k ∈ T, w0.heap.size ≤ k
  chg : Chg [] w0 wr
theorem FindSt.keep {w0 wr w' : World} {b bg : Nat} {F R : Files} {S T U : List Nat} (h : FindSt w0 wr b bg F R S T) (C : Chg U wr w') (hU : ∀ k ∈ U, (k ∉ S ∧ k ∉ T) ∧ w0.heap.size ≤ k) : FindSt w0 w' b bg F R S T :=
  ⟨h.fin.chg C (fun k hk hm => (hU k hm).1.1 hk), h.ref.chg C (fun k hk hm => (hU k hm).1.2 hk), h.same, h.apart, h.newS, h.newT, h.chg.trans C (fun k hk => .inr (hU k hk).2)⟩
theorem FindSt.keep0 {w0 wr w' : World} {b bg : Nat} {F R : Files} {S T : List Nat} (h : FindSt w0 wr b bg F R S T) (C : Chg [] wr w') : FindSt w0 w' b bg F R S T := h.keep C (by simp)
/-- One step of each. -/
structure BothTo (wr w2 : World) (S T S' T' : List Nat) : Prop where
  chg : Chg (S ++ T) wr w2
  toS : ∀ k ∈ S', k ∈ S ∨ wr.heap.size ≤ k
  toT : ∀ k ∈ T', k ∈ T ∨ wr.heap.size ≤ k
theorem FindSt.both {w0 wr w1 w2 : World} {b bg : Nat} {F R F' R' : Files} {S T S' : List Nat} (h : FindSt w0 wr b bg F R S T) (h1 : FinderAt w1 b F' S') (C1 : Chg S wr w1) (g1 : ∀ k ∈ S', k ∈ S ∨ wr.heap.size ≤ k) (h2 : RefTo w1 bg R' T w2) (hs : SameF F' R') :
    ∃ T', FindSt w0 w2 b bg F' R' S' T' ∧ BothTo wr w2 S T S' T' := by
  obtain ⟨T', hr, C2, g2⟩ := h2
  have hsz := h.chg.size
  have hbT := h.ref.own
  have hlT := h.ref.ltT
  have hlS := h.fin.ltS
  have hl1 := h1.ltS
  have hd : ∀ k ∈ S', k ∉ T := fun k hk hm => by
    rcases g1 k hk with g | g
    · exact h.apart k g hm
    · have := hlT k hm
      omega
  have hg2 : ∀ k ∈ T', k ∈ T ∨ wr.heap.size ≤ k := fun k hk => (g2 k hk).imp id (fun g => Nat.le_trans C1.size g)
  have hB : BothTo wr w2 S T S' T' := ⟨(C1.mono (T := S ++ T) (fun k hk => List.mem_append_left _ hk)).trans C2 (fun k hk => .inl (List.mem_append_right _ (by simp at hk; subst hk; exact hbT))), g1, hg2⟩
  refine ⟨T', ⟨h1.chg C2 (fun k hk hm => ?_), hr, hs, fun k hk hm => ?_, fun k hk => ?_, fun k hk => ?_, h.chg.trans hB.chg (fun k hk => ?_)⟩, hB⟩
  · have : k = bg := by simpa using hm
    subst this
    exact hd _ hk hbT
  · rcases g2 k hm with g | g
    · exact hd k hk g
    · have := hl1 k hk
      omega
  · rcases g1 k hk with g | g
    · exact h.newS k g
    · omega
  · rcases hg2 k hk with g | g
    · exact h.newT k g
    · omega
  · right
    rcases List.mem_append.1 hk with g | g
    · exact h.newS k g
    · exact h.newT k g
theorem SameF.short {F R : Files} (h : SameF F R) (hF : ∀ p ∈ F, p.2.length ≤ 4096) : ∀ p ∈ R, p.2.length ≤ 4096 := fun p hp => hF p ((h.mem p).2 hp)
/-- A row of the call's own, beside the two. -/
structure OwnSt (w0 wr : World) (S T : List Nat) (e : TypeId) (size : Nat) (v : Value) (n : Nat) (xs : List Value) : Prop where
  own : wr.ownsRow 0 e size v n xs
  new : ∀ k, v.ownBlock = some k → w0.heap.size ≤ k ∧ k ∉ S ∧ k ∉ T
theorem OwnSt.both {w0 wr w2 : World} {S T S' T' : List Nat} {e : TypeId} {size n : Nat} {v : Value} {xs : List Value} (h : OwnSt w0 wr S T e size v n xs) (B : BothTo wr w2 S T S' T') : OwnSt w0 w2 S' T' e size v n xs := by
  have hlt := ownsRow_lt h.own
  refine ⟨ownsRow_chg h.own B.chg (fun k hk hm => ?_), fun k hk => ⟨(h.new k hk).1, fun hm => ?_, fun hm => ?_⟩⟩
  · rcases List.mem_append.1 hm with g | g
    · exact (h.new k hk).2.1 g
    · exact (h.new k hk).2.2 g
  · rcases B.toS k hm with g | g
    · exact (h.new k hk).2.1 g
    · have := hlt k hk
      omega
  · rcases B.toT k hm with g | g
    · exact (h.new k hk).2.2 g
    · have := hlt k hk
      omega
theorem OwnSt.keep {w0 wr w' : World} {S T U : List Nat} {e : TypeId} {size n : Nat} {v : Value} {xs : List Value} (h : OwnSt w0 wr S T e size v n xs) (C : Chg U wr w') (hU : ∀ k, v.ownBlock = some k → k ∉ U) : OwnSt w0 w' S T e size v n xs :=
  ⟨ownsRow_chg h.own C hU, h.new⟩
theorem OwnSt.keep0 {w0 wr w' : World} {S T : List Nat} {e : TypeId} {size n : Nat} {v : Value} {xs : List Value} (h : OwnSt w0 wr S T e size v n xs) (C : Chg [] wr w') : OwnSt w0 w' S T e size v n xs := h.keep C (by simp)
/-- What is new is apart from the two. -/
theorem FindSt.fresh {w0 wr : World} {b bg : Nat} {F R : Files} {S T : List Nat} (h : FindSt w0 wr b bg F R S T) {k : Nat} (hk : wr.heap.size ≤ k) : w0.heap.size ≤ k ∧ k ∉ S ∧ k ∉ T :=
  ⟨Nat.le_trans h.chg.size hk, fun hm => by have := h.fin.ltS k hm; omega, fun hm => by have := h.ref.ltT k hm; omega⟩
def fM (r : Option (Pl × List UInt8)) : Pl := (r.map (·.1)).getD (⟨#[]⟩, 0)
def fX (r : Option (Pl × List UInt8)) : List UInt8 := (r.map (·.2)).getD []
theorem found_any {w : World} {r : Option (Pl × List UInt8)} {e : Ending} {w' : World} (h : Found w r e w') :
    Chg [] w w' ∧ ∃ ao c, e = .returned (.tuple #[.slice ao (fX r).length c, .agg (plC (fM r)), .bool r.isSome]) ∧ w'.ownsRow 0 5 1 (.slice ao (fX r).length c) (fX r).length (bvs (fX r)) ∧ ∀ k, (Value.slice ao (fX r).length c).ownBlock = some k → w.heap.size ≤ k := by
  obtain ⟨C, h⟩ := h
  refine ⟨C, ?_⟩
  match r with
  | none => exact ⟨none, 0, h, World.ownsRow_nil _ _ _ _, fun k hk => by cases hk⟩
  | some (m, xs) => exact h
theorem foundR_any {w : World} {r : Option (Pl × List UInt8)} {e : Ending} {w' : World} (h : FoundR w r e w') :
    Chg [] w w' ∧ ∃ ao c, e = .returned (.tuple #[.slice ao (fX r).length c, .string (fM r).1, .int .i64 (fM r).2, .bool r.isSome]) ∧ w'.ownsRow 0 5 1 (.slice ao (fX r).length c) (fX r).length (bvs (fX r)) ∧ ∀ k, (Value.slice ao (fX r).length c).ownBlock = some k → w.heap.size ≤ k := by
  obtain ⟨C, h⟩ := h
  refine ⟨C, ?_⟩
  match r with
  | none => exact ⟨none, 0, h, World.ownsRow_nil _ _ _ _, fun k hk => by cases hk⟩
  | some (m, xs) =>
    obtain ⟨v, he, ⟨ao, c, rfl, ho⟩, hn⟩ := h
    exact ⟨ao, c, he, ho, hn⟩
theorem findL_short (F : Files) (k : HKey) : (fX (findL F k)).length ≤ 128 := by
  unfold findL
  cases pickP (occ F k) with
  | none => exact Nat.zero_le _
  | some m =>
    show (partZ (dataF F m.1) m.2).length ≤ 128
    unfold partZ
    split
    · rw [partL_length]
      exact Nat.le_trans (Nat.min_le_left _ _) (bszN_le _)
    · exact Nat.zero_le _
/-- What holds ahead of each round of the law's first loop. -/
def LoopSt (w wr : World) (b bg i : Nat) (ao : Option Addr) (n c : Nat) : Prop :=
  ∃ F R S T L, FindSt w wr b bg F R S T ∧ F.length ≤ i ∧ L.length = n ∧ OwnSt w wr S T 32 32 (.slice ao n c) n (hvs L)
theorem infoAct : (Tryd.prog.info? 50).map (·.size) = some 4 := by kernel_rfl
theorem load_act {w wr : World} {a : Addr} {acts : List ActV} (hs : Src w (some a) (avs acts)) (C : Chg [] w wr) {i : Nat} {x : ActV} (hx : acts[i]? = some x) :
    (Instr.loadAt 50 (.pointer (some (a.add (i * 4))))).run Tryd.prog wr = .ok (.agg x.cells) wr := by
  have h := src_flat (w := wr) (a := a) (cells := fun a : ActV => a.cells.toList) (size := 4) (fun _ => rfl) ((hs.chg C (by simp)).cell a rfl) hx
  exact run_loadAt_any _ _ x.cells.toList _ h Tryd.underlying50 rfl infoAct
theorem listedR_new {w : World} {r : Option (List (Nat → UInt8))} {e : Ending} {w' : World} {al : Option Addr} {n cl : Nat} {x : Int} (h : ListedR w r e w') (he : e = .returned (.tuple #[.slice al n cl, .int .i64 x])) :
    ∀ k, (Value.slice al n cl).ownBlock = some k → w.heap.size ≤ k := by
  obtain ⟨_, h⟩ := h
  cases r with
  | none =>
    rw [h] at he
    cases he
    intro k hk
    cases hk
  | some L =>
    obtain ⟨a, c, h1, _, h3⟩ := h
    rw [h1] at he
    cases he
    exact h3
/-- The row that is asked, grown or not. -/
def Asked (w w7 w' : World) (b bg : Nat) (F R : Files) (S T : List Nat) (ao : Option Addr) (n c : Nat) : Prop :=
  FindSt w w' b bg F R S T ∧ (∃ L, L.length = n ∧ OwnSt w w' S T 32 32 (.slice ao n c) n (hvs L)) ∧ ∃ U : List Nat, Chg U w7 w' ∧ ∀ k ∈ U, ∃ e t, w7.heap[k]? = some (.cells e t (0, 0)) ∧ t = 32
theorem asked_grown {w w7 wx w8 : World} {b bg : Nat} {F R : Files} {S T : List Nat} {ao ao8 : Option Addr} {n c c8 : Nat} {L : List (Nat → UInt8)} {xs : List Value} {f g : Nat → UInt8} (hf : FindSt w wx b bg F R S T) (ho : OwnSt w wx S T 32 32 (.slice ao n c) n (hvs L))
    (hlt : ∀ k, (Value.slice ao n c).ownBlock = some k → k < w7.heap.size) (CA : Chg [] w7 wx) (hown : w8.ownsRow 0 32 32 (.slice ao8 (n + 2) c8) (n + 2) (hvs L ++ xs)) (hgr : wx.grownBy w8 (Value.slice ao n c).ownBlock)
    (hblk : (Value.slice ao8 (n + 2) c8).ownBlock = (Value.slice ao n c).ownBlock ∨ (Value.slice ao8 (n + 2) c8).ownBlock = some wx.heap.size) (hxs : xs = hvs [f, g]) (hL : L.length = n) : Asked w w7 w8 b bg F R S T ao8 (n + 2) c8 := by
  have CG := Chg.grown hgr (S := (Value.slice ao n c).ownBlock.toList) (fun x hx => .inl (by simp [hx]))
  refine ⟨hf.keep CG (fun k hk => ?_), ⟨L ++ [f, g], by simp [hL], ?_, fun k hk => ?_⟩, (Value.slice ao n c).ownBlock.toList, (CA.mono (by simp)).trans CG (fun k hk => .inl hk), fun k hk => ?_⟩
  · have := ho.new k (by simpa using hk)
    exact ⟨this.2, this.1⟩
  · rw [hvs_append, ← hxs]
    exact hown
  · rcases hblk with h | h <;> rw [h] at hk
    · exact ho.new k hk
    · rw [← Option.some.inj hk]
      exact hf.fresh (Nat.le_refl _)
  · have hk' : (Value.slice ao n c).ownBlock = some k := by simpa using hk
    obtain ⟨cur, hc⟩ := row_block ho.own hk'
    exact ⟨cur, _, (CA.block k (hlt k hk') (by simp)).symm.trans hc, rfl⟩
theorem listO_len {d : List UInt8} {LV : List (Nat → UInt8)} {M : Nat} (h : (listO d).getD [] = LV) (hM : LV.length = M + 1) : M ≤ 5000 := by
  have h1 := cntN_le d.length
  have h2 := listL_length d
  unfold listO at h
  split at h
  · rw [← h] at hM
    cases hM
  · rw [← h] at hM
    simp only [Option.getD_some] at hM
    omega
theorem Fadd_len (F : Files) (nm : ByteArray) (d : List UInt8) : (Fadd F nm d).length ≤ F.length + 1 := by
  have := List.length_filter_le (fun p : ByteArray × List UInt8 => !decide (p.1 = nm)) F
  unfold Fadd Fdel
  rw [List.length_append]
  exact Nat.succ_le_succ this
theorem xor85 (x : UInt8) : bits .xor .u8 (x.toNat : Int) 85 = ((x ^^^ 85).toNat : Int) := by
  have h := u8_xor_nat x.toNat 85 (UInt8.toNat_lt x) (by decide)
  rw [show (x ^^^ 85).toNat = x.toNat ^^^ 85 from UInt8.toNat_xor x 85]
  exact h
theorem step_value {P : Program} {ops : Array Oper} {o : Oper} {a : Act} {w : World} {K : Act → World → Prop} {Q : Exit → Act → World → Prop} {E : Prop} (hgd : Region.wanted o (yielded ops a.tmps) = true) (v : Value) (w' : World)
    (hr : (execOp a.eval o).run P w = .ok (.value v) w') (h : K (a.put o.dst v) w') : if Region.wanted o (yielded ops a.tmps) = true then Oper.wp P o a w K Q else E := by
  rw [if_pos hgd]
  unfold Oper.wp
  rw [hr, Oper.upon_value]
  exact h
theorem fill_two (f g : Nat → UInt8) : Instr.fill (fun i => some (i * 32, 32)) ((Array.range (2 * 32)).map fun j => (Value.agg (hashC fun _ => 0)).cells[j % (Value.agg (hashC fun _ => 0)).cells.size]!) [(0, hashV f), (1, hashV g)] = some (hashC f ++ hashC g) := by kernel_rfl
theorem run_two_hashes (f g : Nat → UInt8) (w : World) : (Instr.buildSlice 27 2 #[(0, hashV f), (1, hashV g)]).run Tryd.prog w = .ok (.slice (some ⟨w.heap.size, 0, none⟩) 2 2) (w.alloc (.cells (hashC f ++ hashC g) 32)) := by
  obtain ⟨i, hi, hz, hs, _⟩ := info_parts infoHashU
  have hzv : (zeroValue 32).run Tryd.prog w = .ok (.agg (hashC fun _ => 0)) w := by kernel_rfl
  have hsz : (sizeOf 32).run Tryd.prog w = .ok 32 w := by kernel_rfl
  unfold Instr.buildSlice
  simp only [Sem.run_bind, run_underlying Tryd.underlying27, Result.andThen_ok, hsz, hzv, show ¬ (2 * 32 > 2 ^ 24) by decide, show (2 * 32 = 0) = False by simp, if_false, Sem.run_pure, fill_two]
  rfl
end Go.Proofs.YtfdhpjflkimihaaDoor
