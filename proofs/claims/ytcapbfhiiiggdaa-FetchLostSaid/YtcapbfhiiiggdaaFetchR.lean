/- The plain law of FetchLost. No program, no conditions beyond those that each statement types. -/
import Derived.Test.YtcapbfhiiiggdaaFetchK
namespace Go.Proofs.Ytcapbfhiiiggdaa
open Go.RowKit

/-- Nothing is asked, and nothing was had. -/
def FS.Plain (s : FS) (bs : List Int) : Prop := ∀ n : Nat, n < 32 → s.is n = if (n : Int) ∈ bs then 1 else 0

theorem FS.Plain.not2 {s : FS} {bs : List Int} (h : s.Plain bs) (n : Nat) (hn : n < 32) : s.is n ≠ 2 := by rw [h n hn]; split <;> omega
theorem FS.Plain.asked {s : FS} {bs : List Int} (h : s.Plain bs) (d : Int) : s.asked d = 0 := by
  rw [FS.asked_sum, sumTo_congr (g := fun _ => 0) (fun k hk => by
    have := h.not2 k hk
    simp [FS.asks, this]), sumTo_const]
theorem FS.Plain.left {s : FS} {bs : List Int} (h : s.Plain bs) (hbs : bs.Pairwise (· < ·)) (hbb : ∀ x ∈ bs, 0 ≤ x ∧ x ≤ 31) : (nums s.leftB 32).length = bs.length := by
  rw [nums_length, ← count_mem bs 32 hbs (fun x hx => by have := hbb x hx; omega)]
  refine sumTo_congr fun k hk => ?_
  unfold FS.leftB
  rw [h k hk]
  by_cases hm : (k : Int) ∈ bs <;> simp [hm]
theorem FS.Plain.stuck {s : FS} {bs : List Int} (h : s.Plain bs) (hbs : bs.Pairwise (· < ·)) (hbb : ∀ x ∈ bs, 0 ≤ x ∧ x ≤ 31) (ht : ∀ n d : Nat, n < 32 → (n : Int) ∈ bs → d < 17 → s.pe d = true → s.tr n d = true) : (nums s.stuckB 32).length = bs.length := by
  rw [nums_length, ← count_mem bs 32 hbs (fun x hx => by have := hbb x hx; omega)]
  refine sumTo_congr fun k hk => ?_
  by_cases hm : (k : Int) ∈ bs
  · rw [FS.stuck_yes (by rw [h k hk, if_pos hm]) (fun d hd hp => ht k d hk hm hd hp)]
    simp [hm]
  · have : s.stuckB k = false := by
      unfold FS.stuckB
      rw [h k hk, if_neg hm]
      rfl
    simp [this, hm]
theorem FS.unstuck {s : FS} (d : Nat) (hd : d < 17) (hp : s.pe d = true) (ht : ∀ n : Nat, n < 32 → s.tr n d = false) : (nums s.stuckB 32).length = 0 := by
  rw [nums_length, sumTo_congr (g := fun _ => 0) (fun k hk => by rw [FS.stuck_no hd hp (ht k hk)]; rfl), sumTo_const]

/-- Behind k rounds of asking and failing. -/
structure LInv (bs : List Int) (one : Nat) (s : FS) (k : Nat) : Prop where
  pl : s.Plain bs
  tr : ∀ n d : Nat, n < 32 → s.tr n d = decide ((n : Int) ∈ bs.take k ∧ d = one)
  pe : ∀ d : Nat, s.pe d = decide (d = one)
  kb : k ≤ bs.length

theorem LInv.start (bs : List Int) (one : Nat) : LInv bs one (FS.made bs [(one : Int)]) 0 :=
  ⟨fun _ _ => rfl, fun n d _ => by simp [FS.made], fun d => by simp [FS.made]; omega, Nat.zero_le _⟩

theorem FS.Plain.ok {s : FS} {bs : List Int} (h : s.Plain bs) : s.Ok := fun n hn h2 => absurd h2 (h.not2 n hn)

/-- Only one peer that was not tried: it is the one. -/
theorem FS.peer_one {s : FS} {n d : Nat} (hd : d < 17) (hc : s.cand n d = true) (hu : ∀ e, e < 17 → s.cand n e = true → e = d) (ha : s.asked d = 0) : s.peer n = d :=
  FS.peer_some d hd hc (by omega) (fun e he hce => by rw [hu e he hce]; omega)

theorem putAsk_ok {s : FS} (h : s.Ok) (n d : Nat) (h1 : 1 ≤ d) (h2 : d < 17) : (s.putAsk n d).Ok := fun k hk h2' => by
  rw [putAsk_is] at h2'
  rw [putAsk_of]
  by_cases e : k = n
  · rw [if_pos e]; omega
  · rw [if_neg e] at h2' ⊢
    exact h k hk h2'

theorem LInv.step {bs one s k} (I : LInv bs one s k) (h1 : 1 ≤ one) (h17 : one < 17) (hbs : bs.Pairwise (· < ·)) (hbb : ∀ x ∈ bs, 0 ≤ x ∧ x ≤ 31) :
    (s.asksN = .tuple #[.int .i64 0, .int .i64 0, .bool false] ∧ s.ask = s ∧ k = bs.length) ∨
    (k < bs.length ∧ ∃ n : Nat, s.asksN = .tuple #[.int .i64 n, .int .i64 one, .bool true] ∧ s.ask.Ok ∧ s.ask.code n one = 0 ∧ LInv bs one (s.ask.failed n one) (k + 1)) := by
  have hpe0 : s.pe 0 = false := by rw [I.pe]; simp; omega
  have cand1 : ∀ n : Nat, n < 32 → ∀ d, s.cand n d = decide (d = one ∧ ¬ (n : Int) ∈ bs.take k) := fun n hn d => by
    unfold FS.cand
    rw [I.pe, I.tr n d hn]
    by_cases e : d = one <;> simp [e]
  rcases s.next_cases with ⟨_, h2, h3, hno⟩ | ⟨n, d, hn, hd1, hd2, hi, _, hc, hnx, hask, hasks⟩
  · refine .inl ⟨h3, h2, ?_⟩
    rcases Nat.lt_or_ge k bs.length with hk | hk
    · exfalso
      obtain ⟨m, hm⟩ : ∃ m : Nat, bs[k]? = some (m : Int) := ⟨bs[k].toNat, by
        have := hbb _ (List.getElem_mem hk)
        rw [List.getElem?_eq_getElem hk]; congr 1; omega⟩
      have hmb : (m : Int) ∈ bs := List.mem_of_getElem? hm
      have hm32 : m < 32 := by have := hbb _ hmb; omega
      have hnt : ¬ (m : Int) ∈ bs.take k := fun h => by
        obtain ⟨i, hi, h⟩ := mem_take_index.1 h
        have := lt_of_index hbs h hm hi
        omega
      have hp : s.peer m = one := FS.peer_one h17 (by rw [cand1 m hm32]; simp [hnt]) (fun e _ he => by rw [cand1 m hm32] at he; simp at he; exact he.1) (I.pl.asked _)
      have := hno m hm32 (by rw [I.pl m hm32, if_pos hmb])
      omega
    · have := I.kb; omega
  · right
    have hcd := hc
    rw [cand1 n hn] at hcd
    simp only [decide_eq_true_eq] at hcd
    obtain ⟨rfl, hnt⟩ := hcd
    have hnb : (n : Int) ∈ bs := by
      have := I.pl n hn
      rw [hi] at this
      split at this
      · assumption
      · omega
    obtain ⟨i, hix⟩ := mem_index hnb
    have hki : k ≤ i := by
      rcases Nat.lt_or_ge i k with h | h
      · exact absurd (mem_take_index.2 ⟨i, h, hix⟩) hnt
      · exact h
    have hkb : k < bs.length := by have := (List.getElem?_eq_some_iff.1 hix).1; omega
    obtain ⟨m, hm⟩ : ∃ m : Nat, bs[k]? = some (m : Int) := ⟨bs[k].toNat, by
      have := hbb _ (List.getElem_mem hkb)
      rw [List.getElem?_eq_getElem hkb]; congr 1; omega⟩
    have hmb : (m : Int) ∈ bs := List.mem_of_getElem? hm
    have hm32 : m < 32 := by have := hbb _ hmb; omega
    have hmt : ¬ (m : Int) ∈ bs.take k := fun h => by
      obtain ⟨i, hi, h⟩ := mem_take_index.1 h
      have := lt_of_index hbs h hm hi
      omega
    have hmn : m = n := by
      rcases Nat.lt_trichotomy m n with h | h | h
      · have h5 := FS.next_first hnx m h
        have hp : s.peer m = d := FS.peer_one h17 (by rw [cand1 m hm32]; simp [hmt]) (fun e _ he => by rw [cand1 m hm32] at he; simp at he; exact he.1) (I.pl.asked _)
        have h4 := (s.free_iff m).2 ⟨by rw [I.pl m hm32, if_pos hmb], by omega⟩
        rw [h4] at h5; cases h5
      · exact h
      · rcases Nat.eq_or_lt_of_le hki with h5 | h5
        · subst h5; rw [hix] at hm; simp at hm; omega
        · have := lt_of_index hbs hm hix h5; omega
    subst hmn
    refine ⟨hkb, m, hasks, ?_⟩
    rw [hask]
    have ha : (s.putAsk m d).isAsked m d := ⟨by omega, by omega, by simp [putAsk_is], by simp [putAsk_of]⟩
    have e2 : (s.putAsk m d).failed m d = ((s.putAsk m d).putIs m 1).putTr m d true := by simp [FS.failed, ha]
    refine ⟨putAsk_ok I.pl.ok m d h1 h17, by simp [FS.code, ha], ?_⟩
    rw [e2]
    refine ⟨fun x hx => ?_, fun x e hx => ?_, I.pe, by omega⟩
    · show (if x = m then (1 : Int) else if x = m then 2 else s.is x) = _
      by_cases e : x = m
      · subst e; simp [hmb]
      · rw [if_neg e, if_neg e, I.pl x hx]
    · show (if x = m ∧ e = d then true else s.tr x e) = _
      rw [I.tr x e hx, List.take_add_one, hm]
      by_cases e1 : e = d
      · by_cases e2 : x = m
        · simp [e1, e2]
        · have : ¬ (x : Int) = m := by omega
          simp [e1, e2, this]
      · simp [e1]

/-- The states behind the loop. -/
theorem lost_plain {s : FS} {bs : List Int} (h : s.Plain bs) (d : Nat) (h1 : 1 ≤ d) (h17 : d < 17) (hp : s.pe d = true) : s.lostCode d = 0 ∧ (s.lost d).Plain bs ∧ (∀ e, (s.lost d).pe e = if e = d then false else s.pe e) ∧ (∀ n e, n < 32 → (s.lost d).tr n e = if e = d then false else s.tr n e) ∧ ∀ n, n < 32 → s.lost d = s.lostTo d 32 := by
  have hd : isDev d = true := (isDev_iff _).2 ⟨d, rfl, h1, by omega⟩
  have e : s.lost d = s.lostTo d 32 := by simp [FS.lost, hd, hp]
  rw [e]
  refine ⟨by simp [FS.lostCode, hd, hp], fun n hn => ?_, fun e => rfl, fun n e hn => ?_, fun _ _ => rfl⟩
  · show (if n < 32 ∧ s.is n = 2 ∧ s.of n = (d : Int) then (1 : Int) else s.is n) = _
    rw [if_neg (fun h2 => h.not2 n hn h2.2.1), h n hn]
  · show (if n < 32 ∧ e = d then false else s.tr n e) = _
    simp [hn]

theorem lost_again {s : FS} (d : Nat) (hp : s.pe d = false) : s.lostCode d = 5 ∧ s.lost d = s := by
  simp [FS.lostCode, FS.lost, hp]

theorem found_new {s : FS} (d : Nat) (h1 : 1 ≤ d) (h17 : d < 17) (hp : s.pe d = false) : s.foundCode d = 0 ∧ s.found d = s.putPe d true := by
  have hd : isDev d = true := (isDev_iff _).2 ⟨d, rfl, h1, by omega⟩
  simp [FS.foundCode, FS.found, hd, hp]
theorem found_again {s : FS} (d : Nat) (h1 : 1 ≤ d) (h17 : d < 17) (hp : s.pe d = true) : s.foundCode d = 6 ∧ s.found d = s := by
  have hd : isDev d = true := (isDev_iff _).2 ⟨d, rfl, h1, by omega⟩
  simp [FS.foundCode, FS.found, hd, hp]

/-- All that FetchLost sees behind its loop, of plain states. -/
structure LostEnd (bs : List Int) (one two : Nat) (s s1 s2 : FS) : Prop where
  st0 : (nums s.stuckB 32).length = bs.length
  c0 : s.lostCode one = 0
  e0 : s.lost one = s1
  c1 : s1.lostCode one = 5
  e1 : s1.lost one = s1
  a1 : s1.asked one = 0
  st1 : (nums s1.stuckB 32).length = bs.length
  c2 : s1.foundCode two = 0
  e2 : s1.found two = s2
  c3 : s2.foundCode two = 6
  e3 : s2.found two = s2
  st2 : (nums s2.stuckB 32).length = 0
  ask : (bs = [] ∧ s2.asksN = .tuple #[.int .i64 0, .int .i64 0, .bool false] ∧ s2.ask = s2) ∨
    (bs ≠ [] ∧ ∃ n : Nat, bs[0]? = some (n : Int) ∧ s2.asksN = .tuple #[.int .i64 n, .int .i64 two, .bool true] ∧ ∃ s4, s2.ask.lostCode two = 0 ∧ s2.ask.lost two = s4 ∧ s4.code n two = 5 ∧ s4.done n two = s4 ∧ (nums s4.leftB 32).length = bs.length)

theorem LInv.ends {bs one s} (I : LInv bs one s bs.length) (two : Nat) (h1 : 1 ≤ one) (h17 : one < 17) (t1 : 1 ≤ two) (t17 : two < 17) (hbs : bs.Pairwise (· < ·)) (hbb : ∀ x ∈ bs, 0 ≤ x ∧ x ≤ 31) :
    ∃ s1 s2, LostEnd bs one two s s1 s2 := by
  have hp1 : s.pe one = true := by rw [I.pe]; simp
  obtain ⟨c0, P1, pe1, tr1, _⟩ := lost_plain I.pl one h1 h17 hp1
  have pn1 : ∀ e, (s.lost one).pe e = false := fun e => by
    rw [pe1, I.pe]
    by_cases h : e = one <;> simp [h]
  have tn1 : ∀ n e, n < 32 → (s.lost one).tr n e = false := fun n e hn => by
    rw [tr1 n e hn, I.tr n e hn]
    by_cases h : e = one <;> simp [h]
  obtain ⟨s1, hs1⟩ : ∃ s1, s.lost one = s1 := ⟨_, rfl⟩
  rw [hs1] at P1 pn1 tn1
  have P2 : (s1.putPe two true).Plain bs := P1
  have pe2 : ∀ e, (s1.putPe two true).pe e = decide (e = two) := fun e => by
    show (if e = two then true else s1.pe e) = _
    rw [pn1]
    by_cases h : e = two <;> simp [h]
  have tr2 : ∀ n e, n < 32 → (s1.putPe two true).tr n e = false := tn1
  obtain ⟨c2, e2⟩ := found_new (s := s1) two t1 t17 (pn1 two)
  obtain ⟨c1, e1⟩ := lost_again (s := s1) one (pn1 one)
  obtain ⟨c3, e3⟩ := found_again (s := s1.putPe two true) two t1 t17 (by rw [pe2]; simp)
  refine ⟨s1, s1.putPe two true, ⟨I.pl.stuck hbs hbb (fun n d hn hm _ hp => ?_), c0, hs1, c1, e1, P1.asked _, P1.stuck hbs hbb (fun n d _ _ _ hp => by rw [pn1] at hp; cases hp), c2, e2, c3, e3,
    FS.unstuck two t17 (by rw [pe2]; simp) (fun n hn => tr2 n two hn), ?_⟩⟩
  · rw [I.tr n d hn, List.take_length]
    rw [I.pe] at hp
    simp only [decide_eq_true_eq] at hp ⊢
    exact ⟨hm, hp⟩
  · have cand2 : ∀ n, n < 32 → ∀ d, (s1.putPe two true).cand n d = decide (d = two) := fun n hn d => by
      unfold FS.cand
      rw [pe2, tr2 n d hn]
      simp
    have hpn : ∀ n, n < 32 → (s1.putPe two true).peer n = two := fun n hn => FS.peer_one t17 (by rw [cand2 n hn]; simp) (fun e _ he => by rw [cand2 n hn] at he; simpa using he) (P2.asked _)
    generalize s1.putPe two true = s2 at *
    rcases s2.next_cases with ⟨_, h2, h3, hno⟩ | ⟨n, d, hn, hd1, hd2, hi, hpd, hc, hnx, hask, hasks⟩
    · left
      have hb : bs = [] := List.eq_nil_iff_forall_not_mem.2 fun x hx => by
        have hb := hbb x hx
        obtain ⟨m, rfl⟩ : ∃ m : Nat, x = m := ⟨x.toNat, by omega⟩
        have := hno m (by omega) (by rw [P2 m (by omega), if_pos hx])
        have := hpn m (by omega)
        omega
      exact ⟨hb, h3, h2⟩
    · right
      obtain rfl : d = two := by have := hpn n hn; omega
      have hnb : (n : Int) ∈ bs := by
        have := P2 n hn
        rw [hi] at this
        split at this
        · assumption
        · omega
      refine ⟨(fun h => by rw [h] at hnb; cases hnb), n, ?_, hasks, ?_⟩
      · obtain ⟨i, hix⟩ := mem_index hnb
        have h0 : 0 < bs.length := by have := (List.getElem?_eq_some_iff.1 hix).1; omega
        obtain ⟨m, hm⟩ : ∃ m : Nat, bs[0]? = some (m : Int) := ⟨bs[0].toNat, by
          have := hbb _ (List.getElem_mem h0)
          rw [List.getElem?_eq_getElem h0]; congr 1; omega⟩
        have hmb : (m : Int) ∈ bs := List.mem_of_getElem? hm
        have hm32 : m < 32 := by have := hbb _ hmb; omega
        have hmn : m = n := by
          rcases Nat.lt_trichotomy m n with h | h | h
          · have h5 := FS.next_first hnx m h
            have := hpn m hm32
            have h4 := (s2.free_iff m).2 ⟨by rw [P2 m hm32, if_pos hmb], by omega⟩
            rw [h4] at h5; cases h5
          · exact h
          · rcases Nat.eq_or_lt_of_le (Nat.zero_le i) with h5 | h5
            · subst h5; rw [hix] at hm; simp at hm; omega
            · have := lt_of_index hbs hm hix h5; omega
        rw [← hmn]; exact hm
      · rw [hask]
        have hdv : isDev d = true := (isDev_iff _).2 ⟨d, rfl, t1, by omega⟩
        have hpd2 : (s2.putAsk n d).pe d = true := by rw [putAsk_pe, pe2]; simp
        have e4 : (s2.putAsk n d).lost d = (s2.putAsk n d).lostTo d 32 := by simp [FS.lost, hdv, hpd2]
        have hpl : ((s2.putAsk n d).lostTo d 32).Plain bs := fun x hx => by
          show (if x < 32 ∧ (s2.putAsk n d).is x = 2 ∧ (s2.putAsk n d).of x = (d : Int) then (1 : Int) else (s2.putAsk n d).is x) = _
          rw [putAsk_is, putAsk_of]
          by_cases e : x = n
          · subst e; simp [hx, hnb]
          · have h2 := P2.not2 x hx
            simp only [e, if_false]
            rw [if_neg (fun h => h2 h.2.1), P2 x hx]
        have hna : ¬ ((s2.putAsk n d).lostTo d 32).isAsked n d := fun h => by
          have := h.2.2.1
          rw [Int.toNat_natCast] at this
          exact hpl.not2 n hn this
        exact ⟨_, by simp [FS.lostCode, hdv, hpd2], e4, by simp [FS.code, hna], by simp [FS.done, hna], hpl.left hbs hbb⟩

end Go.Proofs.Ytcapbfhiiiggdaa
