/- impl.leastCut by impl.fromMiddle. -/
import Derived.Test.YtfbccnameppikaaQRow
import Derived.Test.YtfbccnameppikaaOwnF
import Derived.Test.YtfbccnameppikaaFmP
import Derived.Test.YtfbccnameppikaaCutF
import Derived.Test.YtfbccnameppikaaMisA
import Derived.Deep.DeepCutAuto
namespace Go.Proofs.Ytfbccnameppikaa
open Go.RowKit

/-- The least sums, for each number of pieces. -/
def outLMid (xs : List Int) (n : Nat) : List Rat := tab (fun p => lcN fmQ xs p xs.length) n

set_option maxHeartbeats 8000000 in
theorem leastCutMid_any (b o c : Nat) (xs : List Int) (w : World) (h : RowI w b o xs) (hc : xs.length ≤ c) (hv : Rv xs) :
    Calls Try.prog 42 #[.slice (some ⟨b, o, none⟩) xs.length c, .func (.func 48) #[] #[]] w
      fun e w' => ∃ g cap, e = .returned (.slice (some ⟨g, 0, none⟩) xs.length cap) ∧ OwnF w' w.heap.size (.slice (some ⟨g, 0, none⟩) xs.length cap) xs.length (outLMid xs xs.length) ∧ Below w.heap.size w w' := by
  have n0 := hv.n0
  have n8 := hv.n8
  have HX := Lib.hid hv.x
  have H := Lib.hid h
  have hbw := h.blk
  obtain ⟨i0, hi, hz0, hz1, hz2⟩ := info_parts infoF
  have HI2 := Lib.hid hz2
  obtain ⟨n, hn⟩ : ∃ n, xs.length = n := ⟨_, rfl⟩
  rw [hn] at n0 n8 hc ⊢
  have HN := Lib.hid hn
  have CT := Lib.hid (fun e (h1 : 1 ≤ e) (h2 : e ≤ n) w (h : RowI w b o xs) => fromMiddle_any b o c e (xs.take e) _ w ⟨h.blk, fun k hk => by rw [List.length_take] at hk; rw [h.cell k (by omega), ← pc_zero, gi_pc (by omega), Nat.zero_add]⟩ (by rw [List.length_take]; omega) h1 (by omega) (hv.x.take e) rfl)
  have CP := Lib.hid (fun a e (h1 : a < e) (h2 : e ≤ n) w (h : RowI w b o xs) => fromMiddle_any b (o + a) (c - a) (e - a) (pc xs a e) _ w (h.pc (by omega) (by omega)) (pc_length (by omega)) (by omega) (by omega) (hv.x.pc a e) rfl)
  have PN := Lib.hid (fun p e (h1 : p + 1 ≤ e) (h2 : e ≤ n) => lcN_pq fmQ_good (xs := xs) (by omega) hv.x h1 (by omega : e ≤ xs.length))
  have PC := Lib.hid (fun i k (h1 : i < k) (h2 : k ≤ n) => pc_pq fmQ_good (xs := xs) h1 (by omega : k ≤ xs.length) (by omega) hv.x)
  have PD := Lib.hid (fun p e d (h1 : p + 1 + d < e) (h2 : e ≤ n) => lcD_pq fmQ_good (xs := xs) (by omega) hv.x (p := p) h1 (by omega : e ≤ xs.length))
  have PS := Lib.hid (fun p a e (h1 : p + 1 ≤ a) (h2 : a < e) (h3 : e ≤ n) => sum_pq fmQ_good (xs := xs) (by omega) hv.x h1 h2 (by omega : e ≤ xs.length))
  clear h hn hz2 hv
  go_enter Try.func42, Try.ntmps42
  go_wp2_with (at_make; refine wpList_make_full _ rfl _ _ 55 rfl w.heap.size 27 i0 (.agg #[.int .i64 0, .int .i64 0]) 2 Try.underlying55 hi hz0 hz1 .i64 .i64 _ _ (n + 1) rfl rfl (by first | rfl | (simp; done) | omega) (by first | rfl | (simp; done) | omega) (by rw [HI2.out]; omega) (by unfold maxLen; omega) (Nat.le_refl _) ?_; intro w2 o2 g2)
  have hb2 : Below w.heap.size w w2 := (Below.refl _ _).grown g2 (Nat.le_refl _) (fun k hk => by cases hk)
  have q6 : RowQ w2 w.heap.size (n + 1) (fun _ => none) := RowQ.of_blk (Blk.of_own o2).1 (by rw [Array.length_toList, size_madeCells])
  have Q6 := Lib.hid q6
  have B2 := Lib.hid hb2
  clear o2 g2 hb2 q6 hz1 hz0 hi
  go_loopw [7] (fun v7 wr => ∃ e : Nat, v7 = .int .i64 e ∧ 1 ≤ e ∧ e ≤ n + 1 ∧ RowQ wr w.heap.size (n + 1) (fun k => if 1 ≤ k ∧ k < e then some (fmQ (xs.take k)) else none) ∧ Below w.heap.size w wr) (fun v7 _ => n + 1 - (intOf v7).toNat)
  case atStart => exact ⟨1, rfl, by omega, by omega, Q6.out.weak (fun k q _ h => by rw [if_neg (by omega)] at h; cases h), B2.out⟩
  case round =>
    clear Q6 B2
    obtain ⟨e, rfl, he1, he2, hq, hb⟩ := hrel
    have Q := Lib.hid hq
    have B := Lib.hid hb
    have hz := hb.size
    clear hq hb
    by_cases hlt : e ≤ n
    · obtain ⟨cq, hcq⟩ : ∃ cq, fmQ (xs.take e) = cq := ⟨_, rfl⟩
      have CE := CT.out e he1 hlt
      rw [hcq] at CE
      have CE := Lib.hid CE
      have HCQ := Lib.hid hcq
      clear hcq
      go_wp2_with (go_at_call 48; refine (CE.out _ (H.out.below B.out)).mono ?_; rintro en w5 ⟨rfl, hb5⟩; have hz5 := hb5.size; have Q5 := Q.out.below hb5; have l5 := Q5.lt; obtain ⟨u1, u2, y1, y2, y3, y4⟩ := Q5.anyc (k := e) (by omega); have Q5 := Lib.hid Q5; have BB := Lib.hid (B.out.trans (hb5.mono hz)))
      go_roundw
      case rel =>
        refine ⟨e + 1, by go_num, by omega, by omega, Q5.out.set (k := e) (by omega) cq (fun j p hj hp => ?_), (BB.out.setCell (Nat.le_refl _) _).setCell (Nat.le_refl _) _⟩
        by_cases hje : j = e
        · rw [if_pos (by omega), hje, HCQ.out] at hp
          exact .inl ⟨hje, (Option.some.inj hp).symm⟩
        · by_cases hj2 : 1 ≤ j ∧ j < e
          · rw [if_pos (by omega)] at hp
            exact .inr ⟨hje, by rw [if_pos hj2]; exact hp⟩
          · rw [if_neg (by omega)] at hp; cases hp
      case measure => simp [intOf]; omega
    · have q6 : RowQ wr w.heap.size (n + 1) (fun k => if 1 ≤ k then some (lcN fmQ xs 0 k) else none) := Q.out.weak fun k q hk h => by
        by_cases h1 : 1 ≤ k
        · rw [if_pos h1] at h
          rw [if_pos (by omega)]
          exact h
        · rw [if_neg h1] at h; cases h
      have Q6 := Lib.hid q6
      obtain ⟨x1, x2⟩ := q6.cell (k := n) (by omega) (if_pos (by omega))
      obtain ⟨q0, hq0⟩ : ∃ q0, lcN fmQ xs 0 n = q0 := ⟨_, rfl⟩
      rw [hq0] at x1 x2
      have HQ0 := Lib.hid hq0
      clear q6 Q hq0 CT
      have o8 : OwnF (wr.alloc (.cells #[.int .i64 (up q0), .int .i64 (dn q0)] 27)) w.heap.size (.slice (some ⟨wr.heap.size, 0, none⟩) 1 1) 1 (outLMid xs 1) := by
        have : outLMid xs 1 = [q0] := by unfold outLMid tab; rw [← HQ0.out, ← HN.out]; rfl
        rw [this]
        exact ⟨rfl, .inr ⟨wr.heap.size, 1, #[.int .i64 (up q0), .int .i64 (dn q0)], rfl, hz, heap_alloc_new wr _, Nat.le_refl _, by unfold maxLen; omega, rfl, rfl⟩⟩
      have Q6' := Lib.hid (Q6.out.below (show Below wr.heap.size wr (wr.alloc (.cells #[.int .i64 (up q0), .int .i64 (dn q0)] 27)) from below_alloc))
      have B' := Lib.hid (B.out.alloc hz (.cells #[.int .i64 (up q0), .int .i64 (dn q0)] 27))
      have O8 := Lib.hid o8
      have l6 := Q6.out.lt
      clear o8
      go_wp2_with fail
      obtain ⟨g8, hg8⟩ : ∃ g8, wr.heap.size = g8 := ⟨_, rfl⟩
      have hne : g8 ≠ w.heap.size := by omega
      obtain ⟨w3, hw3⟩ : ∃ w3, wr.alloc (.cells #[.int .i64 (up q0), .int .i64 (dn q0)] 27) = w3 := ⟨_, rfl⟩
      rw [hg8] at O8 ⊢
      rw [hw3] at O8 Q6' B' ⊢
      clear hg8 hw3 Q6 B x1 x2 l6
      go_loopw [6, 8, 9] (fun v6 v8 v9 wr => ∃ p g6 g8 cap8 : Nat, v9 = .int .i64 ((p + 2 : Nat) : Int) ∧ p + 1 ≤ n ∧ v6 = .slice (some ⟨g6, 0, none⟩) ((n : Nat) + 1) ((n : Nat) + 1) ∧ v8 = .slice (some ⟨g8, 0, none⟩) (p + 1) cap8 ∧ g8 ≠ g6 ∧ w.heap.size ≤ g6 ∧
        RowQ wr g6 (n + 1) (fun k => if p + 1 ≤ k then some (lcN fmQ xs p k) else none) ∧ OwnF wr w.heap.size (.slice (some ⟨g8, 0, none⟩) (p + 1) cap8) (p + 1) (outLMid xs (p + 1)) ∧ Below w.heap.size w wr) (fun _ _ v9 _ => n + 2 - (intOf v9).toNat)
      case atStart => exact ⟨0, w.heap.size, g8, 1, rfl, n0, rfl, rfl, hne, Nat.le_refl _, Q6'.out, O8.out, B'.out⟩
      case round =>
        clear Q6' O8 B' hne HQ0
        obtain ⟨p, g6, g8, cap8, rfl, hpn, rfl, rfl, hne, hg6, hq, ho, hb⟩ := hrel
        have Q6 := Lib.hid hq
        have O8 := Lib.hid ho
        have B6 := Lib.hid hb
        have hz6 := hb.size
        have l6 := hq.lt
        have l8 := (Blk.of_own ho).1.lt
        clear hq ho hb
        by_cases hlp : p + 2 ≤ n
        · obtain ⟨wo, hwo⟩ : ∃ wo : World, wo = wr := ⟨_, rfl⟩
          rw [← hwo] at Q6 O8 B6 hz6 l6 l8 ⊢
          clear hwo
          obtain ⟨i1, hi, hz0, hz1, hz2⟩ := info_parts infoF
          have HI3 := Lib.hid hz2
          clear hz2
          obtain ⟨p1, hp1⟩ : ∃ p1, p + 1 = p1 := ⟨_, rfl⟩
          obtain ⟨P, hP⟩ : ∃ P, p + 2 = P := ⟨_, rfl⟩
          have hPP : P = p1 + 1 := by omega
          have HP1 := Lib.hid hp1
          have HPP := Lib.hid hPP
          have hPn : P ≤ n := by omega
          have hp1n : p1 < P := by omega
          have hPi : (P : Int) - 1 = (p1 : Int) := by omega
          rw [hP]
          clear hp1 hP hPP
          go_wp2_with (at_make; refine wpList_make_full _ rfl _ _ 55 rfl wo.heap.size 27 i1 (.agg #[.int .i64 0, .int .i64 0]) 2 Try.underlying55 hi hz0 hz1 .i64 .i64 _ _ (n + 1) rfl rfl (by first | rfl | (simp; done) | omega) (by first | rfl | (simp; done) | omega) (by rw [HI3.out]; omega) (by unfold maxLen; omega) (Nat.le_refl _) ?_; intro w4 o4 g4)
          have hb4 : Below wo.heap.size wo w4 := (Below.refl _ _).grown g4 (Nat.le_refl _) (fun k hk => by cases hk)
          have Q10 := Lib.hid (RowQ.of_blk (Blk.of_own o4).1 (m := n + 1) (by rw [Array.length_toList, size_madeCells]))
          have B4 := Lib.hid hb4
          obtain ⟨g10, hg10⟩ : ∃ g10, wo.heap.size = g10 := ⟨_, rfl⟩
          have G10 := Lib.hid hg10
          rw [hg10] at Q10 ⊢
          rw [hg10] at l6 l8
          clear o4 g4 hb4 hz1 hz0 hi hg10
          go_loopw [11] (fun v11 wr => ∃ e : Nat, v11 = .int .i64 e ∧ P ≤ e ∧ e ≤ n + 1 ∧ RowQ wr g10 (n + 1) (fun k => if P ≤ k ∧ k < e then some (lcN fmQ xs p1 k) else none) ∧ Below wo.heap.size wo wr) (fun v11 _ => n + 1 - (intOf v11).toNat)
          case atStart => exact ⟨P, rfl, Nat.le_refl _, by omega, Q10.out.weak (fun k q _ h => by rw [if_neg (by omega)] at h; cases h), B4.out⟩
          case round =>
            clear Q10 B4
            obtain ⟨e, rfl, he1, he2, hq, hb⟩ := hrel
            have Q := Lib.hid hq
            have B := Lib.hid hb
            have hz := hb.size
            clear hq hb
            by_cases hlt : e ≤ n
            · obtain ⟨w7, hw7⟩ : ∃ w7 : World, w7 = wr := ⟨_, rfl⟩
              rw [← hw7] at Q B hz ⊢
              clear hw7
              go_wp2_with fail
              go_loopw [12] (fun v12 wr => ∃ a : Nat, v12 = .int .i64 a ∧ p1 ≤ a ∧ a ≤ e ∧ RowQ wr g10 (n + 1) (fun k => if P ≤ k ∧ k < e then some (lcN fmQ xs p1 k) else if k = e ∧ p1 < a then some (lcD fmQ xs (lcN fmQ xs p) p1 e (a - p1 - 1)) else none) ∧ Below wo.heap.size wo wr) (fun v12 _ => n + 1 - (intOf v12).toNat)
              case atStart => exact ⟨p1, rfl, Nat.le_refl _, by omega, Q.out.weak (fun k q _ h => by
                by_cases h1 : P ≤ k ∧ k < e
                · rw [if_pos h1] at h; rw [if_pos h1]; exact h
                · rw [if_neg h1, if_neg (by omega)] at h; cases h), B.out⟩
              case round =>
                clear Q B hz
                obtain ⟨a, rfl, ha1, ha2, hq, hb⟩ := hrel
                have Q := Lib.hid hq
                have B := Lib.hid hb
                have hz := hb.size
                clear hq hb
                by_cases hla : a < e
                · have s1 := PN.out p a (by rw [HP1.out]; exact ha1) (by omega)
                  have s2 := PC.out a e hla hlt
                  have s3 := PS.out p a e (by rw [HP1.out]; exact ha1) hla hlt
                  have CPc := CP.out a e hla hlt
                  have Q6a := Q6.out.below B.out
                  obtain ⟨x1, x2⟩ := Q6a.cell (k := a) (q := lcN fmQ xs p a) (by omega) (if_pos (by rw [HP1.out]; exact ha1))
                  have e1 : a = p1 → lcD fmQ xs (lcN fmQ xs p) p1 e (a + 1 - p1 - 1) = lcN fmQ xs p a + fmQ (pc xs a e) := fun h => by
                    rw [h, show p1 + 1 - p1 - 1 = 0 by omega]; rfl
                  have e2 : p1 < a → lcD fmQ xs (lcN fmQ xs p) p1 e (a + 1 - p1 - 1) = mnR (lcD fmQ xs (lcN fmQ xs p) p1 e (a - p1 - 1)) (lcN fmQ xs p a + fmQ (pc xs a e)) := fun h => by
                    obtain ⟨d, hd⟩ : ∃ d, a = p1 + (d + 1) := ⟨a - p1 - 1, by omega⟩
                    rw [show a + 1 - p1 - 1 = d + 1 by omega, show a - p1 - 1 = d by omega, hd]
                    rfl
                  have s4 : p1 < a → Pq 6048000 (lcD fmQ xs (lcN fmQ xs p) p1 e (a - p1 - 1)) := fun h => by
                    have := PD.out p e (a - p1 - 1) (by rw [HP1.out]; omega) hlt
                    rwa [HP1.out] at this
                  obtain ⟨aq, haq⟩ : ∃ aq, lcN fmQ xs p a = aq := ⟨_, rfl⟩
                  obtain ⟨cq, hcq⟩ : ∃ cq, fmQ (pc xs a e) = cq := ⟨_, rfl⟩
                  rw [haq] at s1 s3 x1 x2 e1 e2
                  rw [hcq] at s2 s3 CPc e1 e2
                  obtain ⟨sm, hsm⟩ : ∃ sm, aq + cq = sm := ⟨_, rfl⟩
                  rw [hsm] at s3 e1 e2
                  have o1 := plus_ok s1 s2
                  have PW := Lib.hid (fun w => plus_any aq cq sm hsm w (by omega) (by omega))
                  have CPc := Lib.hid CPc
                  have E1 := Lib.hid e1
                  have E2 := Lib.hid e2
                  have S3 := Lib.hid s3
                  have S4 := Lib.hid s4
                  have hac : a < c := by omega
                  have hca : ¬ c = a := by omega
                  have hec : e ≤ c := by omega
                  have t9 : (a : Int) < (n : Int) + 1 := by omega
                  have t8 : (e : Int) < (n : Int) + 1 := by omega
                  clear haq hcq hsm s1 s2 s3 s4 o1 e1 e2 Q6a
                  go_upto_region 18 with fail
                  have RB := Lib.hid (H.out.below (B6.out.trans (B.out.mono hz6)))
                  go_cut [13] (fun s13 wx => ∃ g13, s13 = .pointer (some ⟨g13, 0, none⟩) ∧ wr.heap.size ≤ g13 ∧ Blk wx g13 27 (fc [sm]) ∧ Below wr.heap.size wr wx)
                  case first =>
                    go_region_held3 (fun w' => w'.cell? ⟨g6, a * 2, none⟩ = some (.int .i64 (up aq)) ∧ w'.cell? ⟨g6, a * 2 + 1, none⟩ = some (.int .i64 (dn aq)) ∧ Below wr.heap.size wr w')
                      ((exact keepS2 (W := wr) (by (repeat' (first | (with_reducible exact Below.refl _ _) | (with_reducible assumption) | (with_reducible refine Below.drewN ?_ _) | (with_reducible refine Below.alloc ?_ ?_ _) | (with_reducible refine Below.drew ?_) | (with_reducible refine Below.setCell ?_ ?_ _) | (with_reducible refine Below.trans ?_ (Below.mono (by assumption) ?_)) | go_size | (with_reducible refine Nat.le_trans ?_ (Below.size (by assumption)))))) ⟨x1, x2, Below.refl _ _⟩))
                      ((first
                        | (go_at_call 48; have hS : _ ∧ _ ∧ Below wr.heap.size wr _ := (by assumption); refine (CPc.out _ (RB.out.below hS.2.2)).mono ?_; rintro e w3 ⟨rfl, hb3⟩; obtain ⟨hc3, hf3⟩ := bcell hb3; have hz3 := hb3.size; (try simp only [World.size_alloc, World.size_drew] at hz3); (try have y3 : wr.heap.size < w3.heap.size := (by omega)))
                        | (go_at_call 33; refine (PW.out _).mono ?_; rintro e w4 ⟨rfl, hb4⟩; obtain ⟨hc4, hf4⟩ := bcell hb4; have hz4 := hb4.size; (try simp only [World.size_alloc] at hz4); (try have y4 : wr.heap.size < w4.heap.size := (by omega)); (try have y5 : w3.heap.size < w4.heap.size := (by omega)))))
                    all_goals go_wp2_with fail
                    all_goals go_meet
                    all_goals refine ⟨_, rfl, by omega, ?_, by (repeat' (first | (with_reducible exact Below.refl _ _) | (with_reducible assumption) | (with_reducible refine Below.drewN ?_ _) | (with_reducible refine Below.alloc ?_ ?_ _) | (with_reducible refine Below.drew ?_) | (with_reducible refine Below.setCell ?_ ?_ _) | (with_reducible refine Below.trans ?_ (Below.mono (by assumption) ?_)) | go_size | (with_reducible refine Nat.le_trans ?_ (Below.size (by assumption)))))⟩
                    all_goals change Blk _ _ _ [.int .i64 (up sm), .int .i64 (dn sm)]
                    all_goals (repeat' (first | ((with_reducible refine Blk.made' _ ?_ ?_) <;> first | rfl | (simp; done)) | (with_reducible refine Blk.two (x := .int .i64 0) (y := .int .i64 0) ?_ _ _) | (with_reducible refine Blk.drews ?_) | (with_reducible refine Blk.allocs ?_ _) | ((with_reducible refine Blk.others ?_ ?_); rotate_left; (focus (first | (simp; done) | (simp; omega)))) | (with_reducible refine Blk.below ?_ (by with_reducible assumption))))
                  case rest =>
                    obtain ⟨g13, rfl, hg13, hk13, hb13⟩ := hcut
                    have hl10 : g10 < wr.heap.size := Q.out.lt
                    have hl13 := hk13.lt
                    have hzc := hb13.size
                    have hne10 : g13 ≠ g10 := by omega
                    have Qc := Lib.hid (Q.out.below hb13)
                    have Bc := Lib.hid (B.out.trans (hb13.mono hz))
                    obtain ⟨v1, v2⟩ := hk13.one0
                    have hlc10 : g10 < wc.heap.size := by omega
                    have hbase : wo.heap.size ≤ g10 := by rw [G10.out]; exact Nat.le_refl _
                    have HBS := Lib.hid hbase
                    have qP : IntKind.i64.wrap ((P : Int) - 1) = (p1 : Int) := by rw [hPi]; exact IntWalk.i64_in _ (by omega)
                    clear hbase hk13 hb13 x1 x2 CPc PW RB Q B
                    by_cases hap : a = p1
                    · have t1 : ((a : Int) == (p1 : Int)) = true := by simp [hap]
                      have E1 := Lib.hid (E1.out hap)
                      obtain ⟨u1, u2, y1, y2, y3, y4⟩ := Qc.out.anyc (k := e) (by omega)
                      have hap2 := Lib.hid hap
                      clear hap
                      go_upto_region 19 with fail
                      go_quiet (fail)
                      clear t1 qP
                      go_wp2_with fail
                      clear y1 y2 y3 y4 v1 v2
                      go_roundw
                      case rel =>
                        have hap := hap2.out
                        refine ⟨a + 1, by go_num, by omega, by omega, (Qc.out.below (Below.drewN (Below.refl _ _) _)).set (k := e) (by omega) sm (fun j q hj hq => ?_), ((Below.drewN Bc.out _).setCell HBS.out _).setCell HBS.out _⟩
                        by_cases hj2 : P ≤ j ∧ j < e
                        · rw [if_pos hj2] at hq
                          exact .inr ⟨by omega, by rw [if_pos hj2]; exact hq⟩
                        · rw [if_neg hj2] at hq
                          by_cases hj3 : j = e ∧ p1 < a + 1
                          · rw [if_pos hj3, E1.out] at hq
                            exact .inl ⟨hj3.1, (Option.some.inj hq).symm⟩
                          · rw [if_neg hj3] at hq; cases hq
                      case measure => simp [intOf]; omega
                    · have t1 : ((a : Int) == (p1 : Int)) = false := by simp; omega
                      have hpa : p1 < a := by omega
                      have E2 := E2.out hpa
                      have s4 := S4.out hpa
                      obtain ⟨cur, hcur⟩ : ∃ cur, lcD fmQ xs (lcN fmQ xs p) p1 e (a - p1 - 1) = cur := ⟨_, rfl⟩
                      obtain ⟨y1, y2⟩ := Qc.out.cell (k := e) (q := cur) (by omega) (by rw [if_neg (by omega), if_pos (by omega), hcur])
                      obtain ⟨_, _, _, _, y3, y4⟩ := Qc.out.anyc (k := e) (by omega)
                      rw [hcur] at E2 s4
                      have o2 := less_ok (S3.out.mono (show (6048000 : Int) ≤ 12096000 by omega)) (s4.mono (show (6048000 : Int) ≤ 12096000 by omega))
                      have LW := Lib.hid (fun w => less_any sm cur w (by omega) (by omega))
                      have HCUR := Lib.hid hcur
                      have E2 := Lib.hid E2
                      clear s4 o2 hap hcur
                      go_upto_region 19 with fail
                      obtain ⟨ι, W, hW0, hWm, hWb⟩ := good_worlds wc
                      have hWn : Nonempty ι := hW0.elim fun i _ => ⟨i⟩
                      have z1 : ∀ i, (W i).cell? ⟨g10, e * 2, none⟩ = some (.int .i64 (up cur)) := fun i => keepC (hWb i) y1
                      have z2 : ∀ i, (W i).cell? ⟨g10, e * 2 + 1, none⟩ = some (.int .i64 (dn cur)) := fun i => keepC (hWb i) y2
                      have z3 : ∀ i, (W i).cell? ⟨g13, 0, none⟩ = some (.int .i64 (up sm)) := fun i => keepC (hWb i) v1
                      have z4 : ∀ i, (W i).cell? ⟨g13, 1, none⟩ = some (.int .i64 (dn sm)) := fun i => keepC (hWb i) v2
                      have z5 : ∀ i, (W i).frozen? ⟨g10, e * 2, none⟩ = false := fun i => keepF (hWb i) hlc10 y3
                      have z6 : ∀ i, (W i).frozen? ⟨g10, e * 2 + 1, none⟩ = false := fun i => keepF (hWb i) hlc10 y4
                      have z7 : ∀ i, g10 < (W i).heap.size := fun i => Nat.lt_of_lt_of_le hlc10 (hWb i).size
                      (refine region_quiet_tail (C := fun w' => ∃ i, w' = W i) 11 (by kernel_rfl) (by kernel_rfl) hW0 ?_; simp only [List.take_succ_cons, List.take_zero, List.drop_succ_cons, List.drop_zero]; (repeat (go_big_quiet_step ((go_at_call 34; exact (LW.out _).mono fun e w'' h => ⟨h.1, hWm _ _ h.2⟩)))); refine wpQuiet_nil ?_; rintro _ ⟨iw, rfl⟩)
                      by_cases hcmp : sm < cur
                      · have t2 : decide (sm < cur) = true := by simpa using hcmp
                        have E3 := Lib.hid (show lcD fmQ xs (lcN fmQ xs p) p1 e (a + 1 - p1 - 1) = sm by rw [E2.out, mnR, if_pos hcmp])
                        clear hcmp
                        go_wp2_with fail
                        go_roundw
                        case rel =>
                          refine ⟨a + 1, by go_num, by omega, by omega, (Qc.out.below (hWb iw)).set (k := e) (by omega) sm (fun j q hj hq => ?_), ((Bc.out.trans ((hWb iw).mono (Nat.le_trans hz hzc))).setCell HBS.out _).setCell HBS.out _⟩
                          by_cases hj2 : P ≤ j ∧ j < e
                          · rw [if_pos hj2] at hq
                            exact .inr ⟨by omega, by rw [if_pos hj2]; exact hq⟩
                          · rw [if_neg hj2] at hq
                            by_cases hj3 : j = e ∧ p1 < a + 1
                            · rw [if_pos hj3, E3.out] at hq
                              exact .inl ⟨hj3.1, (Option.some.inj hq).symm⟩
                            · rw [if_neg hj3] at hq; cases hq
                        case measure => simp [intOf]; omega
                      · have t2 : decide (sm < cur) = false := by simpa using hcmp
                        have E3 := Lib.hid (show lcD fmQ xs (lcN fmQ xs p) p1 e (a + 1 - p1 - 1) = cur by rw [E2.out, mnR, if_neg hcmp])
                        clear hcmp
                        go_wp2_with fail
                        go_roundw
                        case rel =>
                          refine ⟨a + 1, by go_num, by omega, by omega, (Qc.out.below (hWb iw)).weak (fun j q hj hq => ?_), Bc.out.trans ((hWb iw).mono (Nat.le_trans hz hzc))⟩
                          by_cases hj2 : P ≤ j ∧ j < e
                          · rw [if_pos hj2] at hq
                            rw [if_pos hj2]; exact hq
                          · rw [if_neg hj2] at hq
                            by_cases hj3 : j = e ∧ p1 < a + 1
                            · rw [if_pos hj3, E3.out] at hq
                              rw [if_neg hj2, if_pos ⟨hj3.1, hpa⟩, HCUR.out]
                              exact hq
                            · rw [if_neg hj3] at hq; cases hq
                        case measure => simp [intOf]; omega
                · have hae : a = e := by omega
                  have Q3 := Lib.hid (Q.out.weak (f' := fun k => if P ≤ k ∧ k < e + 1 then some (lcN fmQ xs p1 k) else none) (fun j q hj hq => by
                    by_cases hj2 : P ≤ j ∧ j < e
                    · rw [if_pos (by omega)] at hq
                      rw [if_pos hj2]; exact hq
                    · by_cases hj3 : j = e
                      · subst hj3
                        rw [if_pos (by omega)] at hq
                        rw [if_neg hj2, if_pos (by omega), hae]
                        have : lcN fmQ xs p1 j = lcD fmQ xs (lcN fmQ xs p) p1 j (j - p1 - 1) := by rw [← HP1.out]; rfl
                        rw [← this]; exact hq
                      · rw [if_neg (by omega)] at hq; cases hq))
                  clear Q
                  go_wp2_with fail
                  go_roundw
                  case rel => exact ⟨e + 1, by go_num, by omega, by omega, Q3.out, B.out⟩
                  case measure => simp [intOf]; omega
            · have hen : e = n + 1 := by omega
              have hg10l : g10 < wr.heap.size := Q.out.lt
              have Q3 := Lib.hid (Q.out.weak (f' := fun k => if p1 + 1 ≤ k then some (lcN fmQ xs p1 k) else none) (fun j q hj hq => by
                by_cases hj2 : p1 + 1 ≤ j
                · rw [if_pos hj2] at hq
                  rw [if_pos (by rw [HPP.out]; omega)]; exact hq
                · rw [if_neg hj2] at hq; cases hq))
              obtain ⟨x1, x2⟩ := Q3.out.cell (k := n) (q := lcN fmQ xs p1 n) (by omega) (if_pos (by omega))
              obtain ⟨q1, hq1⟩ : ∃ q1, lcN fmQ xs p1 n = q1 := ⟨_, rfl⟩
              rw [hq1] at x1 x2
              have HO := Lib.hid (show outLMid xs (p1 + 1) = outLMid xs (p + 1) ++ [q1] by unfold outLMid; rw [tab_succ, HN.out, hq1, HP1.out])
              have O8w := Lib.hid (O8.out.below B.out)
              have HPP' := HPP.out
              have HP1' := HP1.out
              have hwr : w.heap.size ≤ wr.heap.size := by omega
              have hwrg : w.heap.size ≤ g10 := by rw [← G10.out]; exact hz6
              clear Q hen hq1 HPP' HP1'
              go_wp2_with (at_builtin; refine wpList_app1 rfl (.tmp 86) (.tmp 91) 55 rfl w.heap.size 27 (.agg #[.int .i64 0, .int .i64 0]) 2 16 Try.underlying55 infoF rfl (by decide) (by decide) _ _ _ rfl (World.ownsRow.alloc O8w.out _) ⟨_, 0, none⟩ 1 [.int .i64 (up q1), .int .i64 (dn q1)] rfl rfl (cell_two_new _ _ _ _) (by simp [Value.oneCell']) (by omega) (by simp; omega) ?_; intro g9 cap9 w9 o1 o2 o3)
              go_roundw
              case rel =>
                have h1 := HP1.out
                have h2 := HPP.out
                subst h1
                have h3 : p + 1 + 1 = P := h2.symm
                have hg9 : g9 ≠ g10 := by
                  rcases o3 with h | h
                  · have : g8 = g9 := Option.some.inj h
                    omega
                  · simp at h; omega
                refine ⟨p + 1, g10, g9, cap9, by rw [← h3]; go_num, by omega, rfl, rfl, hg9, hwrg, (Q3.out.below below_alloc).grown o2 (show g10 ≠ g8 by omega), by rw [HO.out]; exact OwnF.app o1, ?_⟩
                exact ((B6.out.trans (B.out.mono hz6)).alloc hwr _).trans (Below.app (World.ownsRow.alloc O8w.out _) (by simp; omega) o2)
              case measure => simp [intOf]; omega
        · have hpn2 : p + 1 = n := by omega
          have ho := O8.out
          rw [hpn2] at ho
          have HO := Lib.hid ho
          have HPN := Lib.hid hpn2
          clear ho hpn2
          go_wp2_with fail
          go_ret
          exact ⟨g8, cap8, by rw [HPN.out]; rfl, HO.out, B6.out⟩

end Go.Proofs.Ytfbccnameppikaa
