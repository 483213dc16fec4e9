/- Two finders beside one another, in memory; an act that is put into one of them. No conditions beyond those that each statement types. -/
import Derived.Test.YtfdhpjflkimihaaDoorBkOa
namespace Go.Proofs.YtfdhpjflkimihaaDoor
open Go.RowKit

def PutTo (w : World) (b : Nat) (F' : Files) (S : List Nat) (e : Ending) (w' : World) : Prop :=
  (∃ r, e = .returned (.int .i64 r)) ∧ ∃ S', FinderAt w' b F' S' ∧ Chg S w w' ∧ ∀ k ∈ S', k ∈ S ∨ w.heap.size ≤ k
theorem blk_put (b : Nat) (F : Files) (S : List Nat) (x : ActV) (da : Option Addr) (dc : Nat) (w : World) (hL : Laid w) (H : FinderAt w b F S) (hFl : F.length ≤ 29000) (hs : Src w da (bvs x.data)) (hlc : x.data.length ≤ dc) (hc0 : da = none → dc = 0) (hsep : ∀ a, da = some a → a.block ∉ S) :
    Calls Tryd.prog 31 #[.pointer (some ⟨b, 0, none⟩), .string x.name, .slice da x.data.length dc] w (PutTo w b (putA F x) S) := by
  by_cases h : shortA x = true
  · have hp : putA F x = Fadd F x.name x.data := by unfold putA; rw [if_pos h]
    rw [hp]
    exact (blk_add b F S x.name x.data da dc w hL H hFl hs hlc hc0 hsep ((shortA_iff x).1 h)).mono fun e w' ⟨he, hr⟩ => ⟨⟨_, he⟩, hr⟩
  · have hp : putA F x = F := by unfold putA; rw [if_neg h]
    have hl : 4096 < x.data.length := Nat.lt_of_not_le (fun hl => h ((shortA_iff x).2 hl))
    rw [hp]
    exact (blk_add_long b F S x.name x.data da dc w hL H hs hlc hl).mono fun e w' ⟨he, hr⟩ => ⟨⟨_, he⟩, hr⟩
structure TwoSt (w0 wr : World) (b b2 : Nat) (F G : Files) (S S2 : List Nat) : Prop where
  fin1 : FinderAt wr b F S
  fin2 : FinderAt wr b2 G S2
  apart : ∀ k ∈ S, k ∉ S2
  new1 : ∀ k ∈ S, w0.heap.size ≤ k
  new2 : ∀ k ∈ S2, w0.heap.size ≤ k
  chg : Chg [] w0 wr
theorem TwoSt.swap {w0 wr : World} {b b2 : Nat} {F G : Files} {S S2 : List Nat} (h : TwoSt w0 wr b b2 F G S S2) : TwoSt w0 wr b2 b G F S2 S :=
  ⟨h.fin2, h.fin1, fun k hk hm => h.apart k hm hk, h.new2, h.new1, h.chg⟩
theorem TwoSt.keep {w0 wr w' : World} {b b2 : Nat} {F G : Files} {S S2 U : List Nat} (h : TwoSt w0 wr b b2 F G S S2) (C : Chg U wr w') (hU : ∀ k ∈ U, (k ∉ S ∧ k ∉ S2) ∧ w0.heap.size ≤ k) : TwoSt w0 w' b b2 F G S S2 :=
  ⟨h.fin1.chg C (fun k hk hm => (hU k hm).1.1 hk), h.fin2.chg C (fun k hk hm => (hU k hm).1.2 hk), h.apart, h.new1, h.new2, h.chg.trans C (fun k hk => .inr (hU k hk).2)⟩
theorem TwoSt.keep0 {w0 wr w' : World} {b b2 : Nat} {F G : Files} {S S2 : List Nat} (h : TwoSt w0 wr b b2 F G S S2) (C : Chg [] wr w') : TwoSt w0 w' b b2 F G S S2 := h.keep C (by simp)
theorem TwoSt.one {w0 wr w1 : World} {b b2 : Nat} {F G F' : Files} {S S2 S' : List Nat} (h : TwoSt w0 wr b b2 F G S S2) (h1 : FinderAt w1 b F' S') (C : Chg S wr w1) (g : ∀ k ∈ S', k ∈ S ∨ wr.heap.size ≤ k) : TwoSt w0 w1 b b2 F' G S' S2 := by
  have hsz := h.chg.size
  refine ⟨h1, h.fin2.chg C (fun k hk hm => h.apart k hm hk), fun k hk hm => ?_, fun k hk => ?_, h.new2, h.chg.trans C (fun k hk => .inr (h.new1 k hk))⟩
  · rcases g k hk with g | g
    · exact h.apart k g hm
    · have := h.fin2.ltS k hm
      omega
  · rcases g k hk with g | g
    · exact h.new1 k g
    · omega
theorem TwoSt.fresh {w0 wr : World} {b b2 : Nat} {F G : Files} {S S2 : List Nat} (h : TwoSt w0 wr b b2 F G S S2) {k : Nat} (hk : wr.heap.size ≤ k) : w0.heap.size ≤ k ∧ k ∉ S ∧ k ∉ S2 :=
  ⟨Nat.le_trans h.chg.size hk, fun hm => by have := h.fin1.ltS k hm; omega, fun hm => by have := h.fin2.ltS k hm; omega⟩
theorem OwnSt.swap {w0 wr : World} {S T : List Nat} {e : TypeId} {size n : Nat} {v : Value} {xs : List Value} (h : OwnSt w0 wr S T e size v n xs) : OwnSt w0 wr T S e size v n xs :=
  ⟨h.own, fun k hk => ⟨(h.new k hk).1, (h.new k hk).2.2, (h.new k hk).2.1⟩⟩
theorem OwnSt.one {w0 wr w1 : World} {S T S' : List Nat} {e : TypeId} {size n : Nat} {v : Value} {xs : List Value} (h : OwnSt w0 wr S T e size v n xs) (C : Chg S wr w1) (g : ∀ k ∈ S', k ∈ S ∨ wr.heap.size ≤ k) : OwnSt w0 w1 S' T e size v n xs :=
  ⟨ownsRow_chg h.own C (fun k hk => (h.new k hk).2.1), fun k hk => ⟨(h.new k hk).1, fun hm => by
    rcases g k hm with g | g
    · exact (h.new k hk).2.1 g
    · have := ownsRow_lt h.own k hk
      omega, (h.new k hk).2.2⟩⟩
/-- Ahead of each round of the law's first loop. -/
def OrdSt (w wr : World) (b b2 : Nat) (acts : List ActV) (i : Nat) (ao : Option Addr) (m c : Nat) : Prop :=
  ∃ S S2 lst, TwoSt w wr b b2 (filesA (acts.take i)) [] S S2 ∧ lst ++ lastA (acts.drop i) = lastA acts ∧ lst.length = m ∧ OwnSt w wr S S2 50 4 (.slice ao m c) m (avs lst)
/-- Ahead of each round of its second one. -/
def BackSt (w wr : World) (b b2 : Nat) (acts : List ActV) (j : Nat) (ao : Option Addr) (m c : Nat) : Prop :=
  ∃ S S2, TwoSt w wr b b2 (filesA acts) (backA (lastA acts) j) S S2 ∧ OwnSt w wr S S2 50 4 (.slice ao m c) m (avs (lastA acts))
theorem infoActU : (Tryd.prog.info? 50).map (fun i => (i.zero, i.size, i.bytes)) = some (some (.agg #[.bool false, .string ⟨#[]⟩, .string ⟨#[]⟩, .int .i64 0]), 4, 48) := by kernel_rfl
theorem avs_append (a b : List ActV) : avs (a ++ b) = avs a ++ avs b := by simp [avs]
theorem act_cells {w wr : World} {a : Addr} {acts : List ActV} (hs : Src w (some a) (avs acts)) (C : Chg [] w wr) {i : Nat} {x : ActV} (hx : acts[i]? = some x) :
    wr.cell? ⟨(a.add (i * 4)).block, (a.add (i * 4)).off + 1, none⟩ = some (.string x.name) ∧ wr.cell? ⟨(a.add (i * 4)).block, (a.add (i * 4)).off + 3, none⟩ = some (.int .i64 x.long) := by
  have h := src_flat (w := wr) (a := a) (cells := fun a : ActV => a.cells.toList) (size := 4) (fun _ => rfl) ((hs.chg C (by simp)).cell a rfl) hx
  exact ⟨h 1 _ rfl, h 3 _ rfl⟩
theorem row_act {wr : World} {g m c : Nat} {l : List ActV} (ho : wr.ownsRow 0 50 4 (.slice (some ⟨g, 0, none⟩) m c) m (avs l)) {i : Nat} {x : ActV} (hx : l[i]? = some x) :
    wr.cell? ⟨g, i * 4 + 1, none⟩ = some (.string x.name) ∧ (Instr.loadAt 50 (.pointer (some ⟨g, i * 4, none⟩))).run Tryd.prog wr = .ok (.agg x.cells) wr := by
  have hc := fun j u hu => by
    have := ho.cells (g := g) rfl j u hu
    rwa [addr_add0] at this
  have h := src_flat (w := wr) (a := ⟨g, 0, none⟩) (cells := fun a : ActV => a.cells.toList) (size := 4) (l := l) (fun _ => rfl) (fun j u hu => by rw [addr_add0]; exact hc j u hu) hx
  rw [addr_add0] at h
  refine ⟨?_, run_loadAt_any _ _ x.cells.toList _ h Tryd.underlying50 rfl infoAct⟩
  have := h 1 _ rfl
  rwa [show (⟨g, i * 4, none⟩ : Addr).add 1 = ⟨g, i * 4 + 1, none⟩ from rfl] at this
theorem laterA_nil (nm : ByteArray) : laterA [] nm = false := rfl
theorem laterA_step {r : List ActV} {k : Nat} {y : ActV} (h : r[k]? = some y) (nm : ByteArray) : laterA (r.take (k + 1)) nm = (laterA (r.take k) nm || (decide (y.name = nm) && shortA y)) := by
  rw [take_nextE h]
  unfold laterA
  rw [List.any_append]
  simp
theorem src_act (w : World) (x : ActV) : Src (w.alloc (.cells x.cells 50)) (some ⟨w.heap.size, 0, none⟩) x.cells.toList := src_row w x.cells 50 (0, 0)
end Go.Proofs.YtfdhpjflkimihaaDoor
