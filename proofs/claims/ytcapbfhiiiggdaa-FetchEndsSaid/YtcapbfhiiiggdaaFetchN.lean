/- The law FetchEnds. No conditions beyond those that each statement types. -/
import Derived.Test.YtcapbfhiiiggdaaFetchM
namespace Go.Proofs.Ytcapbfhiiiggdaa
open Go.RowKit

set_option maxRecDepth 100000 in
set_option maxHeartbeats 4000000 in
theorem fetch_ends (x y : Nat) (hx : x < 4294967296) (hy : y < 65536) (av : Option Addr) (cv : Nat) (ans : List UInt8) (hans : ans.length ≤ 9223372036854775807) (w : World) (hA : Src w av (bvs ans)) :
    Calls Try.prog 4 #[.int .u32 x, .int .u16 y, .slice av ans.length cv] w (Holds w) := by
  obtain ⟨ip, hip, hipz, hips, hipb⟩ := info_parts Try.infoPair
  obtain ⟨La, hLa⟩ : ∃ La, ans.length = La := ⟨_, rfl⟩
  have hans' : (La : Int) ≤ 9223372036854775807 := by omega
  rw [hLa]
  have HLA := Lib.hid hLa
  clear hLa hans
  go_enter Try.func4, Try.ntmps4
  go_wp2_with fail
  refine (some_blocks x hx w).mono ?_
  rintro r w1 ⟨bs, ao, ca, rfl, B1, S1, C1, N1⟩
  go_wp2_with fail
  refine (some_peers y (by omega) w1).mono ?_
  rintro r w2 ⟨ps, po, cp, rfl, B2, S2, C2, N2⟩
  go_wp2_with fail
  refine (fetch_new bs ps ao po ca cp w2 (S1.chg C2 (by simp)) S2 B1.rs B2.rs (by have := B1.len; omega) (by have := B2.len; omega)).mono ?_
  rintro r w3 ⟨b, rfl, hb, h0, C3⟩
  have D3 := (C1.trans C2 (by simp)).trans C3 (by simp)
  have TA := hA.chg D3 (by simp)
  have hbw : w.heap.size ≤ b := by have := C1.size; have := C2.size; omega
  have hb3 : b < w3.heap.size := h0.lt
  have MA : ∀ a, av = some a → 0 < La → a.block ≠ b := fun a ha h0 => by
    obtain ⟨a', ha', hlt⟩ := hA.lt (by rw [bvs_length, HLA.out]; exact h0)
    rw [ha] at ha'
    cases ha'
    omega
  have I0 := EInv.start bs ps B2.up B2.bd B1.up B1.bd
  have hBl := B1.len
  have hPl := B2.len
  clear S1 S2 N1 N2 C1 C2 C3 hb hA
  obtain ⟨B, hB⟩ : ∃ B, bs.length = B := ⟨_, rfl⟩
  obtain ⟨P, hP⟩ : ∃ P, ps.length = P := ⟨_, rfl⟩
  rw [hB] at hBl
  rw [hP] at hPl
  rw [hB, hP]
  have hBP : B * P ≤ 32 * 32 := Nat.mul_le_mul hBl hPl
  have hBP' : (B : Int) * P = ((B * P : Nat) : Int) := by simp
  obtain ⟨Q, hQ⟩ : ∃ Q, B * P = Q := ⟨_, rfl⟩
  rw [hQ] at hBP hBP'
  have HB := Lib.hid hB
  have HP := Lib.hid hP
  have HQ := Lib.hid hQ
  clear hB hP hQ
  generalize FS.made bs ps = s0 at *
  go_wp2_with fail
  go_loopw [11, 12, 13, 14] (fun o f d i wr => ∃ (t dn fl n c : Nat) (a : Option Addr) (op : List (Nat × Nat)) (s : FS), o = .slice a n c ∧ f = .int .i64 fl ∧ d = .int .i64 dn ∧ i = .int .i64 t ∧ t ≤ Q ∧ dn ≤ t ∧ fl ≤ t ∧ Open w3.heap.size wr a n c op ∧ EInv bs ps s op t dn fl ∧ FetchAt wr b s ∧ Chg [b] w3 wr) (fun _ _ _ i _ => Q + 1 - (intOf i).toNat)
  case atStart => exact ⟨0, 0, 0, 0, 0, none, [], s0, rfl, rfl, rfl, rfl, by omega, by omega, by omega, Open.nil _ _, I0, h0, Chg.refl _ _⟩
  case round =>
    obtain ⟨t, dn, fl, n, c, a, op, s, rfl, rfl, rfl, rfl, ht, hdn, hfl, O, I, h, C⟩ := hrel
    clear I0 h0
    have htQ : (t : Int) ≤ Q := by omega
    go_wp2_with fail
    go_loopw [11, 15] (fun o i wr' => ∃ (k n c : Nat) (a : Option Addr) (op : List (Nat × Nat)) (s : FS), o = .slice a n c ∧ i = .int .i64 k ∧ Open w3.heap.size wr' a n c op ∧ EInv bs ps s op t dn fl ∧ FetchAt wr' b s ∧ Chg [b] w3 wr' ∧ s.wants + k ≤ 32) (fun _ i _ => 40 - (intOf i).toNat)
    case atStart => exact ⟨0, n, c, a, op, s, rfl, rfl, O, I, h, C, s.wants_le⟩
    case round =>
      clear O I h C
      obtain ⟨k, n, c, a, op, s, rfl, rfl, O, I, h, C, hk⟩ := hrel
      have hk40 : k < 40 := by omega
      have hk40' : (k : Int) < 40 := by omega
      have k1 := fetch_ask b s wr h
      rcases s.next_cases with ⟨_, e2, e1, hno⟩ | ⟨m, d, hm, hd1, hd2, hi, _, hc, _, e2, e1⟩
      · rw [e1, e2] at k1
        have HNO := Lib.hid hno
        clear e1 e2 hno
        go_wp2_with fail
        refine k1.mono ?_
        clear k1
        rintro r wk ⟨rfl, hF, Ck⟩
        have O2 := O.chg Ck (O.ne h)
        have D2 := C.trans Ck (by simp)
        clear C Ck h O hk40 hk40' hk
        by_cases hn0 : n = 0
        · have hop : op = [] := List.eq_nil_of_length_eq_zero (by rw [O2.len, hn0])
          subst hop
          have hn0' : ((n : Int) == 0) = true := by simpa using hn0
          have HN0 := Lib.hid hn0
          clear hn0
          obtain ⟨q1, q2, q3⟩ := I.ends B2.up B2.bd B1.up B1.bd (fun n hn h => by have := HNO.out n hn h; omega)
          have k1 := fetch_left b s wk hF
          obtain ⟨L, hL⟩ : ∃ L, nums s.leftB 32 = L := ⟨_, rfl⟩
          rw [← q1, hL] at q3
          rw [hL] at k1 q2
          rw [hL] at q1
          obtain ⟨N, hN⟩ : ∃ N, L.length = N := ⟨_, rfl⟩
          rw [hN, HB.out] at q2
          rw [hN, HP.out] at q3
          have hNB : N ≤ 32 := by omega
          have hNP : (N : Int) * P = ((N * P : Nat) : Int) := by simp
          have hNP2 : N * P ≤ 32 * 32 := Nat.mul_le_mul hNB hPl
          obtain ⟨R, hR⟩ : ∃ R, N * P = R := ⟨_, rfl⟩
          rw [hR] at hNP hNP2 q3
          have HQ1 := Lib.hid q1
          have HLN := Lib.hid hN
          have q2' : ((dn : Int) + N != B) = false := by rw [bne_eq_false_iff_eq]; omega
          clear hR hL q1 HNO hN I q2
          go_wp2_with fail
          refine k1.mono ?_
          clear k1
          rintro r w6 ⟨v6, rfl, o6, C6, n6⟩
          have hF6 := hF.chg C6 (by simp)
          have D6 := D2.trans C6 (by simp)
          rw [HLN.out] at o6
          obtain ⟨a6, c6, rfl, _, _⟩ := ownsRow_slice o6
          have k1 := fetch_stuck b s w6 hF6
          rw [← HQ1.out] at k1
          clear hF D2 C6 n6
          go_wp2_with fail
          refine k1.mono ?_
          clear k1
          rintro r w7 ⟨v7, rfl, o7, C7, n7⟩
          rw [HLN.out] at o7
          obtain ⟨a7, c7, rfl, _, _⟩ := ownsRow_slice o7
          have T6 := (ownsRow_src o6).chg C7 (by simp)
          have T7 := ownsRow_src o7
          have D7 := D6.trans C7 (by simp)
          clear o6 o7 C7 D6 hF6 n7 HQ1
          go_wp2_with fail
          go_loopw [26] (fun i wr => ∃ (j q : Nat), i = .int .i64 j ∧ j ≤ N ∧ wr = w7.drewN q) (fun i _ => N - (intOf i).toNat)
          case atStart => exact ⟨0, 0, rfl, by omega, rfl⟩
          case round =>
            obtain ⟨j, q, rfl, hj, rfl⟩ := hrel
            by_cases hjn : j < N
            · have hjn' : (j : Int) < N := by omega
              have hj0 : (0 : Int) ≤ j := by omega
              obtain ⟨b6, x6, rfl, hx, cx⟩ := ivs_src_at T6 (k := j) (by rw [HLN.out]; exact hjn)
              obtain ⟨b7, x7, rfl, hy, cy⟩ := ivs_src_at T7 (k := j) (by rw [HLN.out]; exact hjn)
              obtain rfl : x6 = x7 := Option.some.inj (hx.symm.trans hy)
              have cx' : (w7.drewN q).cell? (b6.add j) = some (.int .i64 x6) := cx
              have cy' : (w7.drewN q).cell? (b7.add j) = some (.int .i64 x6) := cy
              have hne : (x6 != x6) = false := by simp
              clear hx hy cx cy
              generalize hw2 : w7.drewN q = wq at *
              have HW := Lib.hid hw2
              clear hw2
              go_wp2_with fail
              go_quiet (fail)
              go_wp2_with fail
              go_roundw
              case rel => exact ⟨j + 1, q + nq, by go_num, by omega, by rw [← HW.out, World.drewN_drewN]⟩
              case measure => simp [intOf]; omega
            · go_wp2_with fail
              refine (fetch_works _).mono ?_
              rintro r w8 ⟨rfl, S8⟩
              go_wp2_with fail
              go_ret
              exact ⟨rfl, ((D3.trans D7 (fun k hk => by simp at hk; subst hk; exact .inr hbw)).trans (Chg.drewN [] w7 q) (by simp)).trans S8 (by simp)⟩
        · have hn0' : ((n : Int) == 0) = false := by simpa using hn0
          have hnp : 0 < n := by omega
          obtain ⟨g, rfl, hg3, hnc, hgw⟩ := O2.some hnp
          clear hn0
          go_upto_if 86 with (fail)
          go_cut [20] (fun v w' => ∃ A : Nat, v = .int .i64 A ∧ A ≤ 255 ∧ wk = w')
          case first =>
            by_cases htl : t < La
            · have htl' : (t : Int) < La := by omega
              have htl2 : t < ans.length := by rw [HLA.out]; exact htl
              obtain ⟨aA, rfl, hlt⟩ := TA.lt (by rw [bvs_length, HLA.out]; omega)
              have cx := (TA.chg D2 (fun a ha => by have := MA a ha (by omega); simpa using this)).cell aA rfl t (bv ans[t]) (by simp [bvs, htl2])
              unfold bv at cx
              have h255 := (ans[t]).toNat_lt
              generalize ans[t] = byte at cx h255
              go_wp2_with fail
              go_meet
              case rel => exact ⟨byte.toNat, rfl, by omega, rfl⟩
            · have htl' : ¬ (t : Int) < La := by omega
              go_wp2_with fail
              go_meet
              case rel => exact ⟨0, rfl, by omega, rfl⟩
          case rest =>
          obtain ⟨A, rfl, hA255, rfl⟩ := hcut
          obtain ⟨q, hq⟩ : ∃ q, A / 2 % n = q := ⟨_, rfl⟩
          have hqn : q < n := by rw [← hq]; exact Nat.mod_lt _ hnp
          have hat : (A : Int) / 2 % (n : Int) = (q : Int) := by rw [← hq]; simp
          clear hq
          have hqn' : (q : Int) < n := by omega
          have hnn : ¬ (n : Int) = 0 := by omega
          obtain ⟨⟨m, d⟩, hx⟩ : ∃ x, op[q]? = some x := ⟨op[q]'(by rw [O2.len]; exact hqn), by simp [O2.len, hqn]⟩
          have hlen := I.len
          rw [O2.len] at hlen
          have hlen2 : n ≤ 32 := by omega
          have SR := ownsRow_srcG O2.own
          have x0 : wk.cell? ⟨g, q * 2, none⟩ = some (.int .i64 m) := by
            have := SR.cell _ rfl _ _ (pvs_at hx).1
            rwa [addr_add0] at this
          have x1 : wk.cell? ⟨g, q * 2 + 1, none⟩ = some (.int .i64 d) := by
            have := SR.cell _ rfl _ _ (pvs_at hx).2
            rwa [addr_add0] at this
          have HX := Lib.hid hx
          clear hx hlen
          go_upto_region 30 with (fail)
          have CA := Chg.alloc [] wk (Obj.cells #[.int .i64 m, .int .i64 d] 38)
          have hnx := heap_alloc_new wk (Obj.cells #[.int .i64 m, .int .i64 d] 38)
          have y0 : (wk.alloc (Obj.cells #[.int .i64 m, .int .i64 d] 38)).cell? ⟨wk.heap.size, 0, none⟩ = some (.int .i64 m) := by rw [cell_of_row _ _ 0 _ _ _ hnx]; rfl
          have y1 : (wk.alloc (Obj.cells #[.int .i64 m, .int .i64 d] 38)).cell? ⟨wk.heap.size, 1, none⟩ = some (.int .i64 d) := by rw [cell_of_row _ _ 1 _ _ _ hnx]; rfl
          have SR3 := SR.chg CA (by simp)
          have hF3 := hF.chg CA (by simp)
          have D5 := D2.trans CA (by simp)
          have hlt1 : ((pvs op).take (q * 2)).length = q * 2 := by rw [List.length_take, pvs_length, O2.len]; omega
          have HLT1 := Lib.hid hlt1
          have zl : wk.heap.size < (wk.alloc (Obj.cells #[.int .i64 m, .int .i64 d] 38)).heap.size := by simp
          have hsk := D2.size
          generalize wk.alloc (Obj.cells #[.int .i64 m, .int .i64 d] 38) = wl at *
          obtain ⟨wke, hwke⟩ : ∃ z, wk.heap.size = z := ⟨_, rfl⟩
          rw [hwke] at y0 y1 zl hsk ⊢
          clear hlt1 hnx x0 x1 CA SR hwke
          go_wp2_with (at_builtin; refine wpList_append_x _ rfl _ _ 36 rfl 38 ip _ 2 16 Try.underlying36 hip hipz hips hipb rfl (by decide) (.slice none 0 0) 0 [] rfl (World.ownsRow_nil _ _ _ _) (some ⟨g, 0, none⟩) q c ((pvs op).take (q * 2)) rfl HLT1.out (SR3.take (q * 2)) (fun h => by cases h) (fun u hu => pvs_one op u (List.mem_of_mem_take hu)) (by unfold maxLen; omega) (by omega) ?_)
          intro a1 c1 wm hown1 hgr1 hblk1
          try simp only [Nat.zero_add, List.nil_append] at hown1
          try simp only [Nat.zero_add, List.nil_append] at hblk1
          have CG1 : Chg [] wl wm := Chg.grown hgr1 (S := []) (by intro q hq; cases hq)
          have new1 : ∀ k, (Value.slice a1 q c1).ownBlock = some k → w3.heap.size ≤ k := by
            intro k hk
            rcases hblk1 with h1 | h1 <;> rw [h1] at hk
            · cases hk
            · have := Option.some.inj hk
              omega
          have SRm := SR3.chg CG1 (by simp)
          have hFm := hF3.chg CG1 (by simp)
          have Dm := D5.trans CG1 (by simp)
          have z0 := CG1.cell_some y0 (by simp)
          have z1 := CG1.cell_some y1 (by simp)
          have wkm : (Value.slice a1 q c1).ownBlock ≠ some wke := fun hk => by
            rcases hblk1 with h1 | h1 <;> rw [h1] at hk
            · cases hk
            · have := Option.some.inj hk
              omega
          have hbm := ownsRow_ne hown1 hFm (by decide)
          have hlen1 : (pvs op).length = n * 2 := by rw [pvs_length, O2.len]
          have HL := Lib.hid hlen1
          have HN := Lib.hid O2.len
          clear hblk1 hgr1 CG1 SR3 hF3 D5 y0 y1 hlen1 O2 hF D2
          go_upto_region 31 with (fail)
          go_cut [11] (fun v w' => ∃ (a2 : Option Addr) (n2 c2 : Nat), v = .slice a2 n2 c2 ∧ Open w3.heap.size w' a2 n2 c2 (op.eraseIdx q) ∧ Chg [b] w3 w' ∧ FetchAt w' b s ∧ w'.cell? ⟨wke, 0, none⟩ = some (.int .i64 m) ∧ w'.cell? ⟨wke, 1, none⟩ = some (.int .i64 d))
          case first =>
            have hld : ((pvs op).drop ((q + 1) * 2)).length = (n - (q + 1)) * 2 := by rw [List.length_drop, HL.out]; omega
            have FIN : ∀ (r : Nat) (a2 : Option Addr) (c2 : Nat) (wq : World), r = n - (q + 1) → wq.ownsRow 0 38 2 (.slice a2 (q + r) c2) (q + r) ((pvs op).take (q * 2) ++ (pvs op).drop ((q + 1) * 2)) → wm.grownBy wq (Value.slice a1 q c1).ownBlock → ((Value.slice a2 (q + r) c2).ownBlock = (Value.slice a1 q c1).ownBlock ∨ (Value.slice a2 (q + r) c2).ownBlock = some wm.heap.size) →
                Open w3.heap.size wq a2 (q + r) c2 (op.eraseIdx q) ∧ Chg [b] w3 wq ∧ FetchAt wq b s ∧ wq.cell? ⟨wke, 0, none⟩ = some (.int .i64 m) ∧ wq.cell? ⟨wke, 1, none⟩ = some (.int .i64 d) := by
              intro r a2 c2 wq hr ho hg hb2
              have G : Chg (Value.slice a1 q c1).ownBlock.toList wm wq := Chg.grown hg (by intro k hk; left; simp [hk])
              refine ⟨⟨?_, ?_, ?_⟩, ?_, ?_, ?_, ?_⟩
              · rw [List.length_eraseIdx_of_lt (by rw [HN.out]; exact hqn), HN.out, hr]; omega
              · rw [List.eraseIdx_eq_take_drop_succ, pvs_append, pvs_take, pvs_drop]; exact ho
              · intro k hk
                rcases hb2 with h1 | h1 <;> rw [h1] at hk
                · exact new1 k hk
                · have h9 := Option.some.inj hk
                  have h8 := Dm.size
                  omega
              · exact Dm.trans G (by intro k hk; right; exact new1 k (by simpa using hk))
              · exact hFm.chg G (fun hm => hbm (by simpa using hm))
              · exact G.cell_some z0 (fun hm => wkm (by simpa using hm))
              · exact G.cell_some z1 (fun hm => wkm (by simpa using hm))
            have HLD := Lib.hid hld
            have HF := Lib.hid FIN
            clear FIN hld new1 wkm hbm z0 z1 hFm Dm
            by_cases hcq : c = q + 1
            · have SD : ∀ ao, Src wm ao ((pvs op).drop ((q + 1) * 2)) := fun ao => by
                have e0 : (pvs op).drop ((q + 1) * 2) = [] := List.eq_nil_of_length_eq_zero (by rw [HLD.out]; omega)
                rw [e0]
                exact Src.empty _ _
              subst hcq
              go_wp2_with (at_builtin; refine wpList_append_x _ rfl (.tmp 106) (.tmp 110) 36 rfl 38 ip _ 2 16 Try.underlying36 hip hipz hips hipb rfl (by decide) (.slice a1 q c1) q ((pvs op).take (q * 2)) rfl hown1 _ 0 _ ((pvs op).drop ((q + 1) * 2)) rfl (by rw [HLD.out, Nat.zero_mul]; omega) (SD _) (fun h => by cases h) (fun u hu => pvs_one op u (List.mem_of_mem_drop hu)) (by unfold maxLen; omega) (by omega) ?_)
              intro a2 c2 wq ho hg hb2
              go_wp2_with fail
              go_meet
              case rel => exact ⟨a2, _, c2, rfl, HF.out 0 a2 c2 wq (by omega) ho hg hb2⟩
            · have hcq' : q + 1 < c := by omega
              have SD : Src wm (some ⟨g, (q + 1) * 2, none⟩) ((pvs op).drop ((q + 1) * 2)) := by
                have := SRm.drop ((q + 1) * 2)
                rwa [Option.map_some, addr_add0] at this
              clear hcq
              go_wp2_with (at_builtin; refine wpList_append_x _ rfl (.tmp 106) (.tmp 110) 36 rfl 38 ip _ 2 16 Try.underlying36 hip hipz hips hipb rfl (by decide) (.slice a1 q c1) q ((pvs op).take (q * 2)) rfl hown1 _ _ _ ((pvs op).drop ((q + 1) * 2)) rfl HLD.out SD (fun h => by cases h) (fun u hu => pvs_one op u (List.mem_of_mem_drop hu)) (by unfold maxLen; omega) (by omega) ?_)
              intro a2 c2 wq ho hg hb2
              go_wp2_with fail
              go_meet
              case rel => exact ⟨a2, _, c2, rfl, HF.out _ a2 c2 wq rfl ho hg hb2⟩
          case rest =>
          obtain ⟨a2, n2, c2, rfl, O5, D6, hF6, y0, y1⟩ := hcut
          have hok : s.Ok := fun n hn h2 => by
            obtain ⟨e, h1, h3, h4, _⟩ := I.askd n hn h2
            omega
          have hmul := HQ.out
          have hBe := HB.out
          have hPe := HP.out
          clear SRm hown1 hat
          by_cases hA2 : A % 2 = 0
          · have hA2' : ((A : Int) % 2 == 0) = true := by rw [beq_iff_eq]; omega
            obtain ⟨e0, I6⟩ := I.doneStep HX.out
            have k1 := fetch_done b s m d wc hF6
            rw [e0] at k1
            have ht1 : t + 1 ≤ Q := by have := I6.M; rw [hBe, hPe, hmul] at this; omega
            have HA2 := Lib.hid hA2
            clear e0 hA2 hmul hBe hPe
            go_wp2_with fail
            refine k1.mono ?_
            clear k1
            rintro r w6 ⟨rfl, hF7, C7⟩
            have O7 := O5.chg C7 (O5.ne hF6)
            have D7 := D6.trans C7 (by simp)
            clear O5 D6 hF6 C7 y0 y1
            go_wp2_with fail
            go_roundw
            case rel => exact ⟨t + 1, dn + 1, fl, n2, c2, a2, _, _, rfl, by go_num, by go_num, by go_num, by omega, by omega, by omega, O7, I6, hF7, D7⟩
            case measure => simp [intOf]; omega
          · have hA2' : ((A : Int) % 2 == 0) = false := by rw [beq_eq_false_iff_ne]; omega
            obtain ⟨e0, I6⟩ := I.failStep HX.out
            have k1 := fetch_failed b s m d wc hF6 hok
            rw [e0] at k1
            have ht1 : t + 1 ≤ Q := by have := I6.M; rw [hBe, hPe, hmul] at this; omega
            have HA2 := Lib.hid hA2
            clear e0 hA2 hmul hBe hPe
            go_wp2_with fail
            refine k1.mono ?_
            clear k1
            rintro r w6 ⟨rfl, hF7, C7⟩
            have O7 := O5.chg C7 (O5.ne hF6)
            have D7 := D6.trans C7 (by simp)
            clear O5 D6 hF6 C7 y0 y1
            go_wp2_with fail
            go_roundw
            case rel => exact ⟨t + 1, dn, fl + 1, n2, c2, a2, _, _, rfl, by go_num, by go_num, by go_num, by omega, by omega, by omega, O7, I6, hF7, D7⟩
            case measure => simp [intOf]; omega
      · rw [e1, e2] at k1
        obtain ⟨I2, hw, hfr⟩ := I.ask m d hm hd1 hd2 hi hc
        have HFR := Lib.hid hfr
        have HW := Lib.hid hw
        have hlen := I2.len
        rw [List.length_append, O.len] at hlen
        have hlen2 : n ≤ 32 := by omega
        clear e1 e2 hfr hw I hi hc hlen
        go_wp2_with fail
        refine k1.mono ?_
        clear k1
        rintro r wk ⟨rfl, hF, Ck⟩
        have O2 := O.chg Ck (O.ne h)
        have D2 := C.trans Ck (by simp)
        clear C Ck h O
        go_wp2_with fail
        go_loopw [19] (fun i wr' => ∃ j : Nat, i = .int .i64 j ∧ j ≤ n ∧ wk = wr') (fun i _ => n - (intOf i).toNat)
        case atStart => exact ⟨0, rfl, by omega, rfl⟩
        case round =>
          obtain ⟨j, rfl, hj, rfl⟩ := hrel
          by_cases hjn : j < n
          · obtain ⟨⟨m2, d2⟩, hx⟩ : ∃ x, op[j]? = some x := ⟨op[j]'(by rw [O2.len]; exact hjn), by simp [O2.len, hjn]⟩
            have hne : m2 ≠ m := HFR.out _ (List.mem_of_getElem? hx)
            have hne' : ((m2 : Int) == m) = false := by simp; omega
            obtain ⟨g, rfl, _, _, _⟩ := O2.some (by omega)
            have cx : wk.cell? ⟨g, j * 2, none⟩ = some (.int .i64 m2) := by
              have := (ownsRow_srcG O2.own).cell _ rfl _ _ (pvs_at hx).1
              rwa [addr_add0] at this
            clear hx
            go_wp2_with fail
            go_roundw
            case rel => exact ⟨j + 1, by go_num, by omega, by trivial⟩
            case measure => simp [intOf]; omega
          · have CA := Chg.alloc [] wk (Obj.cells #[.int .i64 m, .int .i64 d] 38)
            have hnx := heap_alloc_new wk (Obj.cells #[.int .i64 m, .int .i64 d] 38)
            have hsrc : Src (wk.alloc (Obj.cells #[.int .i64 m, .int .i64 d] 38)) (some ⟨wk.heap.size, 0, none⟩) (pvs [(m, d)]) := by
              refine ⟨fun h => by (cases h), fun q hq j u hu => ?_⟩
              cases hq
              rw [addr_add0, cell_of_row _ _ j _ _ _ hnx, ← Array.getElem?_toList]
              exact hu
            have O3 := O2.chg CA (by simp)
            go_wp2_with (at_builtin; refine wpList_append_x _ rfl _ _ 36 rfl 38 ip _ 2 16 Try.underlying36 hip hipz hips hipb rfl (by decide) (.slice a n c) n (pvs op) rfl O3.own (some ⟨wk.heap.size, 0, none⟩) 1 1 (pvs [(m, d)]) rfl rfl hsrc (fun h => by cases h) (pvs_one _) (by unfold maxLen; omega) (by omega) ?_)
            intro ao' c' wq hown hgr hblk
            have DA := D2.trans CA (by simp)
            have D4 : Chg [b] w3 wq := DA.trans (Chg.grown hgr (S := (Value.slice a n c).ownBlock.toList) (by intro q hq; left; simp [hq])) (by intro q hq; right; exact O3.new q (by simpa using hq))
            have hne := O3.ne (hF.chg CA (by simp))
            have hF4 : FetchAt wq b _ := (hF.chg CA (by simp)).chg (Chg.grown hgr (S := (Value.slice a n c).ownBlock.toList) (by intro q hq; left; simp [hq])) (fun hm => hne b (by simpa using hm) (by simp))
            have O4 : Open w3.heap.size wq ao' (n + 1) c' (op ++ [(m, d)]) := by
              refine ⟨by rw [List.length_append, O2.len]; rfl, by rw [pvs_append]; exact hown, fun q hq => ?_⟩
              rcases hblk with h1 | h1 <;> rw [h1] at hq
              · exact O3.new q hq
              · have h9 := Option.some.inj hq
                have h8 := DA.size
                try simp only [World.size_alloc] at h8 h9
                omega
            go_wp2_with fail
            go_roundw
            case rel => exact ⟨k + 1, n + 1, c', ao', _, _, rfl, by go_num, O4, I2, hF4, D4, by have := HW.out; omega⟩
            case measure => simp [intOf]; omega

theorem fetch_ends_row (n0 : Int) (h0 : 0 ≤ n0 ∧ n0 ≤ 4294967295) (n1 : Int) (h1 : 0 ≤ n1 ∧ n1 ≤ 65535) (av : Option Addr) (cv : Nat) (ans : List UInt8) (hans : ans.length ≤ 9223372036854775807) (w : World) (hA : Src w av (bvs ans)) :
    Calls Try.prog 4 #[.int .u32 n0, .int .u16 n1, .slice av ans.length cv] w (Holds w) := by
  have := fetch_ends n0.toNat n1.toNat (by omega) (by omega) av cv ans hans w hA
  rwa [show ((n0.toNat : Nat) : Int) = n0 by omega, show ((n1.toNat : Nat) : Int) = n1 by omega] at this
end Go.Proofs.Ytcapbfhiiiggdaa
