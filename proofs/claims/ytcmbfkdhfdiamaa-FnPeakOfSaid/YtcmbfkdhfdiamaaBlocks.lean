/- The blocks of the program and of the reference. -/
import Derived.Test.YtcmbfkdhfdiamaaPool
import Derived.Test.YtcmbfkdhfdiamaaKeep
namespace Go.Proofs.Ytcmbfkdhfdiamaa
open Go.RowKit

theorem infoInt : (Try.prog.info? 3).map (fun i => (i.zero, i.size, i.bytes)) = some (some (.int .i64 0), 1, 8) := by kernel_rfl

set_option maxHeartbeats 400000 in
theorem clipI_any (g n c : Nat) (w : World) (_hn : n ≤ 1099511627776) (hc : n ≤ c) :
    Calls Try.prog 98 #[.slice (some ⟨g, 0, none⟩) n c] w fun e w' => e = .returned (.slice (some ⟨g, 0, none⟩) n n) ∧ w = w' := by
  go_enter Try.func98, Try.ntmps98
  go_wp2
  go_ret
  exact ⟨rfl, rfl⟩

set_option maxHeartbeats 2000000 in
theorem blocks_any (b o c b' o' c' : Nat) (xs ws : List Int) (w : World) (h : RowI w b o xs) (h' : RowI w b' o' ws) (hv : Vl xs ws) :
    Calls Try.prog 63 #[.slice (some ⟨b, o, none⟩) xs.length c, .slice (some ⟨b', o', none⟩) ws.length c'] w
      fun e w' => ∃ g, e = .returned (.slice (some ⟨g, 0, none⟩) (poolR xs ws xs.length).length (poolR xs ws xs.length).length) ∧ w.heap.size ≤ g ∧ RowI w' g 0 (lst (poolR xs ws xs.length)) ∧ Below w.heap.size w w' := by
  have hn8 := hv.n8
  have HV := Lib.hid hv
  have H := Lib.hid h
  have H' := Lib.hid h'
  clear hv h h'
  go_enter Try.func63, Try.ntmps63
  go_wp2
  go_loopw [5, 10] (fun v5 v10 wr => ∃ k : Nat, k ≤ xs.length ∧ v10 = .int .i64 k ∧ OwnI wr w.heap.size v5 (poolR xs ws k).length (lst (poolR xs ws k)) ∧ Below w.heap.size w wr)
    (fun _ v10 _ => xs.length - (intOf v10).toNat)
  case atStart => exact ⟨0, Nat.zero_le _, rfl, OwnI.nil _ _, Below.refl _ _⟩
  case round =>
    obtain ⟨k, hk, rfl, hown, hb⟩ := hrel
    by_cases hlt : k < xs.length
    · have hz := hb.size
      have hpl := poolR_length xs ws k
      have hdec : Dec k (k :: poolR xs ws k) := by
        refine ⟨Nat.le_refl _, ?_, poolR_dec xs ws k⟩
        cases k with
        | zero => exact Or.inl rfl
        | succ k => exact Or.inr (by omega)
      obtain ⟨R, hR⟩ : ∃ R, poolR xs ws k = R := ⟨_, rfl⟩
      have hR2 : popR xs ws k (k :: R) = poolR xs ws (k + 1) := by rw [← hR]; rfl
      rw [hR] at hown hpl hdec
      have HO := Lib.hid hown
      have HR := Lib.hid hR2
      have HD := Lib.hid hdec
      clear hown hR hR2 hdec
      go_wp2_with (at_builtin; refine wpList_app1 rfl (.tmp 13) (.tmp 15) 23 rfl w.heap.size 3 (.int .i64 0) 1 8 Try.underlying23 infoInt rfl (by decide) (by decide) _ _ _ rfl (World.ownsRow.alloc HO.out _) ⟨wr.heap.size, 0, none⟩ 1 [.int .i64 k] rfl rfl (cell_one_new _ _ _) (by simp [Value.oneCell']) (by omega) (by simp; omega) ?_; intro g cap w1 o1 o2 o3)
      have hb1 : Below w.heap.size w w1 := (hb.alloc hz _).trans (Below.app (World.ownsRow.alloc HO.out _) (by simp; omega) o2)
      have ho1 : OwnI w1 w.heap.size (.slice (some ⟨g, 0, none⟩) (R.length + 1) cap) (R.length + 1) (lst (k :: R)) := by rw [lst_cons]; exact OwnI.app o1
      have hgb : w.heap.size ≤ g := by obtain ⟨_, _, e, hh⟩ := OwnI.shape ho1 (by omega); cases e; exact hh
      have HO1 := Lib.hid ho1
      clear o1 o2 o3 ho1 HO
      go_loopw [5, 7] (fun v5 v7 wr => ∃ (a m cap : Nat) (r : List Nat), v5 = .slice (some ⟨g, 0, none⟩) (m + 1) cap ∧ v7 = .int .i64 ((m : Int) + 1) ∧ m = r.length ∧ m ≤ R.length ∧ OwnI wr w.heap.size v5 (m + 1) (lst (a :: r)) ∧
          popR xs ws k (a :: r) = poolR xs ws (k + 1) ∧ Dec k (a :: r) ∧ Below w.heap.size w wr) (fun _ v7 _ => (intOf v7).toNat)
      case atStart => exact ⟨k, R.length, cap, R, rfl, rfl, rfl, Nat.le_refl _, HO1.out, HR.out, HD.out, hb1⟩
      case round =>
        clear HO1 hb1 HR HD hb hz
        obtain ⟨a, m, cap, r, rfl, rfl, hm, hmR, hown, hpop, hdec, hb⟩ := hrel
        have HO := Lib.hid hown
        cases r with
        | nil =>
          have hm0 : m ≤ 0 := by simp at hm; omega
          have hd : decide ((1 : Int) < (m : Int) + 1) = false := by simp; omega
          have HP := Lib.hid hpop
          have HM := Lib.hid hm
          clear hown hpop hdec hmR hm
          go_wp2
          go_quiet (fail)
          go_wp2
          go_roundw
          case rel =>
            have e : poolR xs ws (k + 1) = [a] := HP.out.symm
            exact ⟨k + 1, by omega, by go_num, by rw [e]; have := HM.out; simp at this; subst this; exact (HO.out).below (below_drewN (Below.refl _ _) _), below_drewN hb _⟩
          case measure => simp [intOf]; omega
        | cons b2 r =>
          have hm1 : 1 ≤ m := by simp at hm; omega
          have hd : decide ((1 : Int) < (m : Int) + 1) = true := by simp; omega
          have HP := Lib.hid hpop
          have HM := Lib.hid hm
          have HD := Lib.hid hdec
          clear hown hpop hdec hm
          obtain ⟨d1, d2, d3, d4⟩ := HD.out
          have d5 : 1 ≤ a := by rcases d2 with h | h; (· cases h); exact h
          have hgs : g < wr.heap.size := HO.out.row.blk
          have hz := hb.size
          have c1 := HO.out.row.cell (m - 1) (by rw [lst_length]; simp; have := HM.out; simp at this; omega)
          have c2 := HO.out.row.cell m (by rw [lst_length]; simp; have := HM.out; simp at this; omega)
          have e1 : gi (lst (a :: b2 :: r)) (m - 1) = b2 := by have := HM.out; simp at this; rw [show m - 1 = r.length from by omega]; exact gi_lst2 a b2 r
          have e2 : gi (lst (a :: b2 :: r)) m = a := by have := HM.out; rw [this]; exact gi_lst a (b2 :: r)
          rw [e1, Nat.zero_add] at c1
          rw [e2, Nat.zero_add] at c2
          have q10 : IntKind.i64.wrap ((a : Int) - 1) = (a : Int) - 1 := IntWalk.i64_in _ (by omega)
          clear e1 e2 d2 d4
          obtain ⟨p, hp⟩ : ∃ p, mq xs ws ((b2 : Nat) : Int).toNat ((a : Int) - 1).toNat = p := ⟨_, rfl⟩
          obtain ⟨q, hq⟩ : ∃ q, mq xs ws ((a : Nat) : Int).toNat ((k : Nat) : Int).toNat = q := ⟨_, rfl⟩
          have sp : Sm 1200 40 p := by rw [← hp]; exact mq_sm HV.out (by omega) (by omega)
          have sq : Sm 1200 40 q := by rw [← hq]; exact mq_sm HV.out (by omega) (by omega)
          have spq := sm_mul sp sq
          have hpop2 : poolR xs ws (k + 1) = if p < q then a :: b2 :: r else popR xs ws k (b2 :: r) := by
            rw [← HP.out, popR, ← hp, ← hq, show ((a : Int) - 1).toNat = a - 1 from by omega]; rfl
          have HP1 := Lib.hid hp
          have HQ1 := Lib.hid hq
          have HS1 := Lib.hid (show dn p * dn q ≤ 4611686018427387904 by omega)
          have HS2 := Lib.hid (show ((up p).natAbs : Int) * dn q + (up q).natAbs * dn p ≤ 4611686018427387904 by omega)
          have HL := Lib.hid hpop2
          clear hp hq sp sq spq hpop2
          have q1 : IntKind.i64.wrap ((m : Int) + 1 - 2) = (m : Int) - 1 := by rw [IntWalk.i64_in _ (by omega)]; omega
          have q2 : IntKind.i64.wrap ((m : Int) - 1) = (m : Int) - 1 := IntWalk.i64_in _ (by omega)
          have q3 : IntKind.i64.wrap (m : Int) = (m : Int) := IntWalk.i64_in _ (by omega)
          have q4 : ((m : Int) - 1).toNat = m - 1 := by omega
          have q5 : (0 : Int) ≤ (m : Int) - 1 := by omega
          have q6 : (m : Int) - 1 < (m : Int) + 1 := by omega
          have q7 : (m : Int) < (m : Int) + 1 := by omega
          have q8 : (1 : Int) ≤ (m : Int) := by omega
          have q9 : (m : Int) < (m : Int) + 1 + 1 := by omega
          go_wp2_with fail
          go_region_held3 (fun w' => w'.cell? ⟨g, m - 1, none⟩ = some (.int .i64 b2) ∧ w'.cell? ⟨g, m, none⟩ = some (.int .i64 a) ∧ Below w.heap.size w w')
            ((first | exact keepS2 (by assumption) (by assumption) | exact keepS2 below_drew ⟨c1, c2, hb⟩))
            ((first
              | (go_at_call_of 66 (b2 : Int); have hS : _ ∧ _ ∧ Below w.heap.size w _ := (by assumption); refine (mean_as b o c b' o' c' xs ws _ _ p _ (H.out.below hS.2.2) (H'.out.below hS.2.2) HV.out (by omega) (by omega) (by omega) HP1.out).mono ?_; rintro e w1 ⟨rfl, hb1⟩; obtain ⟨hc1, hf1⟩ := bcell hb1; have hz1 := hb1.size; simp only [World.size_drew] at hz1)
              | (go_at_call_of 66 (k : Int); have hS : _ ∧ _ ∧ Below w.heap.size w _ := (by assumption); refine (mean_as b o c b' o' c' xs ws _ _ q _ (H.out.below hS.2.2) (H'.out.below hS.2.2) HV.out (by omega) (by omega) (by omega) HQ1.out).mono ?_; rintro e w2 ⟨rfl, hb2⟩; obtain ⟨hc2, hf2⟩ := bcell hb2; have hz2 := hb2.size)
              | (go_at_call 70; refine (less_any p q _ HS1.out HS2.out).mono ?_; rintro e w3 ⟨rfl, hb3⟩; obtain ⟨hc3, hf3⟩ := bcell hb3; have hz3 := hb3.size)))
          have hbw : Below wr.heap.size wr w3 := (((below_drew).trans hb1).trans (hb2.mono hz1)).trans (hb3.mono (by omega))
          have ho3 := HO.out.below hbw
          have hb4 := hb.trans (hbw.mono hz)
          have HO3 := Lib.hid ho3
          clear hc1 hf1 hc2 hf2 hc3 hf3 hb1 hb2 hb3 ho3 hbw
          cases hcmp : decide (p < q) with
          | true =>
            go_wp2
            go_roundw
            case rel =>
              have e : poolR xs ws (k + 1) = a :: b2 :: r := by rw [HL.out, if_pos (of_decide_eq_true hcmp)]
              exact ⟨k + 1, by omega, by go_num, by rw [e]; have := HM.out; rw [show (a :: b2 :: r).length = m + 1 from by simp at this ⊢; omega]; exact HO3.out, hb4⟩
            case measure => simp [intOf]; omega
          | false =>
            have hcap : m + 1 ≤ cap := HO3.out.cap
            go_wp2
            go_roundw
            case rel =>
              obtain ⟨j, rfl⟩ : ∃ j, m = j + 1 := ⟨m - 1, by omega⟩
              have hm' := HM.out
              have ho4 := HO3.out
              rw [lst_cons] at ho4
              have hl := HL.out
              rw [if_neg (of_decide_eq_false hcmp)] at hl
              exact ⟨b2, j, cap, r, rfl, by go_num, by simp at hm'; omega, by omega, ho4.pop, hl.symm, (HD.out.2.2).mono (by omega), hb4⟩
            case measure => simp [intOf]
    · have hkl : k = xs.length := by omega
      have h1 := HV.out.n0
      have hne : (poolR xs ws k).length ≠ 0 := by
        obtain ⟨j, rfl⟩ : ∃ j, k = j + 1 := ⟨k - 1, by omega⟩
        intro h0
        exact poolR_ne xs ws j (List.eq_nil_of_length_eq_zero h0)
      have hpl := poolR_length xs ws k
      obtain ⟨g, cap, rfl, hg⟩ := hown.shape hne
      have hcap := hown.cap
      have HO := Lib.hid hown
      have HK := Lib.hid hkl
      clear hown hne hkl
      go_wp2_with (go_at_call 98; refine (clipI_any _ _ _ _ (by omega) hcap).mono ?_; rintro e w1 ⟨rfl, rfl⟩)
      go_ret
      exact ⟨g, by rw [← HK.out]; rfl, hg, by rw [← HK.out]; exact HO.out.row, hb⟩

end Go.Proofs.Ytcmbfkdhfdiamaa
