/- The functions of the package link, each by one contract for all arguments. No conditions beyond those that each statement types. -/
import Derived.Test.YtehhnoanbdjgbaaLinkC
namespace Go.Proofs.Ytehhnoanbdjgbaa
open Go.RowKit

def LinkS.ok (L : LinkS) : Prop := L.s1.length ≤ 262144 ∧ L.s2.length ≤ 262144 ∧ 0 ≤ L.e ∧ L.e ≤ 1000000

/-- What Send answers, and the link behind it. -/
def LinkS.send (L : LinkS) (n : Int) (d : List UInt8) : Int × LinkS :=
  if n = 1 then (if L.s2.length + d.length ≤ 262144 then (0, { L with s2 := L.s2 ++ d }) else (7, L))
  else if n = 2 then (if L.s1.length + d.length ≤ 262144 then (0, { L with s1 := L.s1 ++ d }) else (7, L))
  else (2, L)

def LinkS.deliver (L : LinkS) (t n : Int) : (List UInt8 × Int) × LinkS :=
  if t = 1 ∧ 0 ≤ n then ((L.s1.take n.toNat, 0), { L with s1 := L.s1.drop n.toNat })
  else if t = 2 ∧ 0 ≤ n then ((L.s2.take n.toNat, 0), { L with s2 := L.s2.drop n.toNat })
  else (([], 2), L)

theorem LinkS.ok.send {L : LinkS} (h : L.ok) (n : Int) (d : List UInt8) : (L.send n d).2.ok := by
  unfold LinkS.send LinkS.ok at *
  split
  · split
    · simp; omega
    · exact h
  · split
    · split
      · simp; omega
      · exact h
    · exact h
theorem LinkS.ok.deliver {L : LinkS} (h : L.ok) (t n : Int) : (L.deliver t n).2.ok := by
  unfold LinkS.deliver LinkS.ok at *
  split
  · simp; omega
  · split
    · simp; omega
    · exact h

theorem LinkAt.stay {w w' : World} {b : Nat} {L : LinkS} {F : List Nat} (h : LinkAt w b L F) (hc : Chg [] w w') : LinkAt w' b L F ∧ Step F F w w' :=
  ⟨h.chg hc (by simp), ⟨hc.mono (by simp), fun k hk => ⟨.inl hk, Nat.lt_of_lt_of_le (h.lt k hk) hc.size⟩⟩⟩

/-- What Send leaves. -/
def Sent (w : World) (b : Nat) (F : List Nat) (x : Int × LinkS) (r : Ending) (w' : World) : Prop :=
  r = .returned (.int .i64 x.1) ∧ ∃ F', LinkAt w' b x.2 F' ∧ Step F F' w w'

theorem link_send (b : Nat) (L : LinkS) (F : List Nat) (n : Int) (d : List UInt8) (ao : Option Addr) (c m : Nat) (w : World) (hL : LinkAt w b L F) (hok : L.ok) (hsrc : Src w ao (bvs d)) (hc : ao = none → c = 0) (hm : d.length = m) :
    Calls Try.prog 10 #[.pointer (some ⟨b, 0, none⟩), .int .i64 n, .slice ao m c] w (Sent w b F (L.send n d)) := by
  subst hm
  unfold LinkS.send Sent
  by_cases h1 : n = 1
  · subst h1
    by_cases hf : L.s2.length + d.length ≤ 262144
    · simp only [if_true, if_pos hf]
      exact link_send1 b L F d ao c w hL hsrc hc hf
    · simp only [if_true, if_neg hf]
      exact (link_send_full b L F 1 d ao c w hL (.inl ⟨rfl, by omega⟩) hok.1 hok.2.1).mono fun r w' ⟨h, g⟩ => ⟨h, F, hL.stay g⟩
  rw [if_neg h1]
  by_cases h2 : n = 2
  · subst h2
    by_cases hf : L.s1.length + d.length ≤ 262144
    · simp only [if_true, if_pos hf]
      exact link_send2 b L F d ao c w hL hsrc hc hf
    · simp only [if_true, if_neg hf]
      exact (link_send_full b L F 2 d ao c w hL (.inr ⟨rfl, by omega⟩) hok.1 hok.2.1).mono fun r w' ⟨h, g⟩ => ⟨h, F, hL.stay g⟩
  rw [if_neg h2]
  exact (link_send_arg b L F n _ w hL (by simp [isEnd, h1, h2])).mono fun r w' ⟨h, g⟩ => ⟨h, F, hL.stay g⟩

/-- What Deliver leaves, whatever it is given. -/
def Took (w : World) (b : Nat) (F : List Nat) (x : (List UInt8 × Int) × LinkS) (r : Ending) (w' : World) : Prop :=
  ∃ ao n c F', r = .returned (.tuple #[.slice ao n c, .int .i64 x.1.2]) ∧ n = x.1.1.length ∧ n ≤ c ∧ w'.ownsRow 0 5 1 (.slice ao n c) n (bvs x.1.1) ∧ LinkAt w' b x.2 F' ∧ Step F F' w w' ∧
      (∀ a, ao = some a → w.heap.size ≤ a.block ∧ a.block ∉ F' ∧ a.block < w'.heap.size)

theorem link_deliver (b : Nat) (L : LinkS) (F : List Nat) (t n : Int) (hnn : n ≤ 9223372036854775807) (w : World) (hL : LinkAt w b L F) (hok : L.ok) :
    Calls Try.prog 11 #[.pointer (some ⟨b, 0, none⟩), .int .i64 t, .int .i64 n] w (Took w b F (L.deliver t n)) := by
  have conv : ∀ (d : List UInt8) (L' : LinkS) r w', Delivered w b F d L' r w' → Took w b F ((d, 0), L') r w' := by
    rintro d L' r w' ⟨v, F', rfl, hown, hLA, hst, hnew⟩
    obtain ⟨ao, c, rfl, hc, _⟩ := ownsRow_slice hown
    exact ⟨ao, _, c, F', rfl, rfl, hc, hown, hLA, hst, fun a ha => by
      subst ha
      have := hnew a.block rfl
      exact ⟨this.1, this.2, ownsRow_lt hown _ rfl⟩⟩
  unfold LinkS.deliver
  by_cases h0 : 0 ≤ n
  · by_cases h1 : t = 1
    · subst h1
      simp only [h0, and_self, if_true]
      exact (link_deliver1 b L F n h0 hnn w hL hok.1).mono fun r w' h => conv _ _ _ _ h
    by_cases h2 : t = 2
    · subst h2
      simp only [h0, h1, and_self, if_true, and_true, if_false]
      exact (link_deliver2 b L F n h0 hnn w hL hok.2.1).mono fun r w' h => conv _ _ _ _ h
    rw [if_neg (by simp [h1]), if_neg (by simp [h2])]
    exact (link_deliver_arg b L F t n w hL (.inl (by simp [isEnd, h1, h2]))).mono fun r w' ⟨h, g⟩ => ⟨none, 0, 0, F, h, rfl, Nat.le_refl _, World.ownsRow_nil _ _ _ _, (hL.stay (g ▸ Chg.refl [] w)).1, (hL.stay (g ▸ Chg.refl [] w)).2, fun a ha => by cases ha⟩
  · rw [if_neg (by simp [h0]), if_neg (by simp [h0])]
    exact (link_deliver_arg b L F t n w hL (.inr (by omega))).mono fun r w' ⟨h, g⟩ => ⟨none, 0, 0, F, h, rfl, Nat.le_refl _, World.ownsRow_nil _ _ _ _, (hL.stay (g ▸ Chg.refl [] w)).1, (hL.stay (g ▸ Chg.refl [] w)).2, fun a ha => by cases ha⟩

theorem link_send_x (b : Nat) (L : LinkS) (F : List Nat) (n : Int) (d : List UInt8) (x : Int × LinkS) (hx : L.send n d = x) (ao : Option Addr) (c m : Nat) (w : World) (hL : LinkAt w b L F) (hok : L.ok) (hsrc : Src w ao (bvs d)) (hc : ao = none → c = 0) (hm : d.length = m) :
    Calls Try.prog 10 #[.pointer (some ⟨b, 0, none⟩), .int .i64 n, .slice ao m c] w (Sent w b F x) := hx ▸ link_send b L F n d ao c m w hL hok hsrc hc hm
theorem link_deliver_x (b : Nat) (L : LinkS) (F : List Nat) (t n : Int) (x : (List UInt8 × Int) × LinkS) (hx : L.deliver t n = x) (hnn : n ≤ 9223372036854775807) (w : World) (hL : LinkAt w b L F) (hok : L.ok) :
    Calls Try.prog 11 #[.pointer (some ⟨b, 0, none⟩), .int .i64 t, .int .i64 n] w (Took w b F x) := hx ▸ link_deliver b L F t n hnn w hL hok

/-- A literal's bytes. -/
theorem src_lit {w : World} {g : Nat} (d : List UInt8) (e : TypeId) (fr : Nat × Nat) (h : w.heap.size = g) : Src (w.alloc (.cells (bvs d).toArray e fr)) (some ⟨g, 0, none⟩) (bvs d) := by
  subst h
  refine ⟨fun h => by (cases h), fun a ha j u hu => ?_⟩
  have ha' := Option.some.inj ha
  subst ha'
  have hadd : (⟨w.heap.size, 0, none⟩ : Addr).add j = ⟨w.heap.size, j, none⟩ := by unfold Addr.add; split <;> simp_all
  rw [hadd, cell_of_row _ _ j _ _ _ (heap_alloc_new w _)]
  simpa using hu

/-- A new link. -/
theorem link_made (w : World) : Calls Try.prog 9 #[] w fun e w' => e = .returned (.pointer (some ⟨w.heap.size, 0, none⟩)) ∧ LinkAt w' w.heap.size ⟨[], [], 0⟩ [w.heap.size] ∧ Step [] [w.heap.size] w w' := by
  refine (link_new w).mono ?_
  rintro r w' ⟨rfl, rfl⟩
  exact ⟨rfl, ⟨_, _, ⟨heap_alloc_new w _, World.ownsRow_nil _ _ _ _, World.ownsRow_nil _ _ _ _⟩, .inl rfl, rfl⟩, ⟨Chg.alloc _ _ _, by simp⟩⟩

end Go.Proofs.Ytehhnoanbdjgbaa
