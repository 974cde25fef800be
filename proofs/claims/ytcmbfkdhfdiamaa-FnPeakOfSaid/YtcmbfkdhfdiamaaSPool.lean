/- The blocks of the reference. -/
import Derived.Test.YtcmbfkdhfdiamaaBlocks
import Derived.Test.YtcmbfkdhfdiamaaBlk
import Derived.Test.YtcmbfkdhfdiamaaFRow
import Derived.Deep.DeepCutAuto
namespace Go.Proofs.Ytcmbfkdhfdiamaa
open Go.RowKit

theorem OwnI.empty (w : World) (base : Nat) (hb : base ≤ w.heap.size) (cur : Array Value) (hc : cur.size = 0) : OwnI (w.alloc (.cells cur 3)) base (.slice (some ⟨w.heap.size, 0, none⟩) 0 0) 0 [] :=
  World.ownsRow_made w cur 0 hb (by unfold maxLen; omega) (by omega)

set_option maxHeartbeats 4000000 in
theorem pool_any (b o c b' o' c' : Nat) (xs ws : List Int) (w : World) (h : RowI w b o xs) (h' : RowI w b' o' ws) (hv : Vl xs ws) :
    Calls Try.prog 65 #[.slice (some ⟨b, o, none⟩) xs.length c, .slice (some ⟨b', o', none⟩) ws.length c'] w
      fun e w' => ∃ g cap, e = .returned (.slice (some ⟨g, 0, none⟩) (poolR xs ws xs.length).length cap) ∧ OwnI w' w.heap.size (.slice (some ⟨g, 0, none⟩) (poolR xs ws xs.length).length cap) (poolR xs ws xs.length).length (lst (poolR xs ws xs.length)) ∧ Below w.heap.size w w' := by
  have hn8 := hv.n8
  have HV := Lib.hid hv
  have H := Lib.hid h
  have H' := Lib.hid h'
  clear hv h h'
  go_enter Try.func65, Try.ntmps65
  go_wp2
  go_loopw [5, 6] (fun v5 v6 wr => ∃ k : Nat, k ≤ xs.length ∧ v6 = .int .i64 k ∧ OwnI wr w.heap.size v5 (poolR xs ws k).length (lst (poolR xs ws k)) ∧ Below w.heap.size w wr)
    (fun _ v6 _ => xs.length - (intOf v6).toNat)
  case atStart => exact ⟨0, Nat.zero_le _, rfl, OwnI.empty _ _ (Nat.le_refl _) _ rfl, by (repeat' (first | (with_reducible exact Below.refl _ _) | (with_reducible assumption) | (with_reducible refine Below.drewN ?_ _) | (with_reducible refine Below.alloc ?_ ?_ _) | (with_reducible refine Below.drew ?_) | (with_reducible refine Below.setCell ?_ ?_ _) | (with_reducible refine Below.trans ?_ (Below.mono (by assumption) ?_)) | go_size | (with_reducible refine Nat.le_trans ?_ (Below.size (by assumption)))))⟩
  case round =>
    obtain ⟨k, hk, rfl, hown, hb⟩ := hrel
    by_cases hlt : k < xs.length
    · have hz := hb.size
      have hpl := poolR_length xs ws k
      have hdec : Dec k (k :: poolR xs ws k) := by
        refine ⟨Nat.le_refl _, ?_, poolR_dec xs ws k⟩
        cases k with
        | zero => exact Or.inl rfl
        | succ k => exact Or.inr (by omega)
      obtain ⟨R, hR⟩ : ∃ R, poolR xs ws k = R := ⟨_, rfl⟩
      have hR2 : popR xs ws k (k :: R) = poolR xs ws (k + 1) := by rw [← hR]; rfl
      rw [hR] at hown hpl hdec
      have HO := Lib.hid hown
      have HR := Lib.hid hR2
      have HD := Lib.hid hdec
      clear hown hR hR2 hdec
      go_wp2_with (at_builtin; refine wpList_app1 rfl (.tmp 17) (.tmp 19) 23 rfl w.heap.size 3 (.int .i64 0) 1 8 Try.underlying23 infoInt rfl (by decide) (by decide) _ _ _ rfl (World.ownsRow.alloc HO.out _) ⟨wr.heap.size, 0, none⟩ 1 [.int .i64 k] rfl rfl (cell_one_new _ _ _) (by simp [Value.oneCell']) (by omega) (by simp; omega) ?_; intro g cap w1 o1 o2 o3)
      have hb1 : Below w.heap.size w w1 := (hb.alloc hz _).trans (Below.app (World.ownsRow.alloc HO.out _) (by simp; omega) o2)
      have ho1 : OwnI w1 w.heap.size (.slice (some ⟨g, 0, none⟩) (R.length + 1) cap) (R.length + 1) (lst (k :: R)) := by rw [lst_cons]; exact OwnI.app o1
      have HO1 := Lib.hid ho1
      clear o1 o2 o3 ho1 HO
      go_loopw [5] (fun v5 wr => ∃ (a m cap : Nat) (r : List Nat), v5 = .slice (some ⟨g, 0, none⟩) (m + 1) cap ∧ m = r.length ∧ m ≤ R.length ∧ OwnI wr w.heap.size v5 (m + 1) (lst (a :: r)) ∧
          popR xs ws k (a :: r) = poolR xs ws (k + 1) ∧ Dec k (a :: r) ∧ Below w.heap.size w wr) (fun v5 _ => match v5 with | .slice _ n _ => n | _ => 0)
      case atStart => exact ⟨k, R.length, cap, R, rfl, rfl, Nat.le_refl _, HO1.out, HR.out, HD.out, hb1⟩
      case round =>
        clear HO1 hb1 HR HD hb hz
        obtain ⟨a, m, cap, r, rfl, hm, hmR, hown, hpop, hdec, hb⟩ := hrel
        have HO := Lib.hid hown
        cases r with
        | nil =>
          have hm0 : m ≤ 0 := by simp at hm; omega
          have HP := Lib.hid hpop
          have HM := Lib.hid hm
          clear hown hpop hdec hmR hm
          go_wp2
          go_roundw
          case rel =>
            have e : poolR xs ws (k + 1) = [a] := HP.out.symm
            exact ⟨k + 1, by omega, by go_num, by rw [e]; have := HM.out; simp at this; subst this; exact HO.out, hb⟩
          case measure => simp [intOf]; omega
        | cons b2 r =>
          have hm1 : 1 ≤ m := by simp at hm; omega
          have HP := Lib.hid hpop
          have HM := Lib.hid hm
          have HD := Lib.hid hdec
          clear hown hpop hdec hm
          obtain ⟨d1, d2, d3, d4⟩ := HD.out
          have d5 : 1 ≤ a := by rcases d2 with h | h; (· cases h); exact h
          have hgs : g < wr.heap.size := HO.out.row.blk
          have hz := hb.size
          have c1 := HO.out.row.cell (m - 1) (by rw [lst_length]; simp; have := HM.out; simp at this; omega)
          have c2 := HO.out.row.cell m (by rw [lst_length]; simp; have := HM.out; simp at this; omega)
          have e1 : gi (lst (a :: b2 :: r)) (m - 1) = b2 := by have := HM.out; simp at this; rw [show m - 1 = r.length from by omega]; exact gi_lst2 a b2 r
          have e2 : gi (lst (a :: b2 :: r)) m = a := by have := HM.out; rw [this]; exact gi_lst a (b2 :: r)
          rw [e1, Nat.zero_add] at c1
          rw [e2, Nat.zero_add] at c2
          have q10 : IntKind.i64.wrap ((a : Int) - 1) = (a : Int) - 1 := IntWalk.i64_in _ (by omega)
          clear e1 e2 d2 d4
          obtain ⟨p, hp⟩ : ∃ p, mq xs ws ((b2 : Nat) : Int).toNat ((a : Int) - 1).toNat = p := ⟨_, rfl⟩
          obtain ⟨q, hq⟩ : ∃ q, mq xs ws ((a : Nat) : Int).toNat ((k : Nat) : Int).toNat = q := ⟨_, rfl⟩
          have sp : Sm 1200 40 p := by rw [← hp]; exact mq_sm HV.out (by omega) (by omega)
          have sq : Sm 1200 40 q := by rw [← hq]; exact mq_sm HV.out (by omega) (by omega)
          have spq := sm_mul sp sq
          have hpop2 : poolR xs ws (k + 1) = if p < q then a :: b2 :: r else popR xs ws k (b2 :: r) := by
            rw [← HP.out, popR, ← hp, ← hq, show ((a : Int) - 1).toNat = a - 1 from by omega]; rfl
          have HP1 := Lib.hid hp
          have HQ1 := Lib.hid hq
          have HS2 := Lib.hid (show ((up p).natAbs : Int) * dn q + (up q).natAbs * dn p ≤ 4611686018427387904 by omega)
          have HL := Lib.hid hpop2
          clear hp hq sp sq spq hpop2
          have q1 : IntKind.i64.wrap ((m : Int) + 1 - 2) = (m : Int) - 1 := by rw [IntWalk.i64_in _ (by omega)]; omega
          have q2 : IntKind.i64.wrap ((m : Int) - 1) = (m : Int) - 1 := IntWalk.i64_in _ (by omega)
          have q3 : IntKind.i64.wrap (m : Int) = (m : Int) := IntWalk.i64_in _ (by omega)
          have q4 : ((m : Int) - 1).toNat = m - 1 := by omega
          have q5 : (0 : Int) ≤ (m : Int) - 1 := by omega
          have q6 : (m : Int) - 1 < (m : Int) + 1 := by omega
          have q7 : (m : Int) < (m : Int) + 1 := by omega
          have q8 : (1 : Int) ≤ (m : Int) := by omega
          have q9 : (m : Int) < (m : Int) + 1 + 1 := by omega
          go_upto_region 8 with fail
          go_cut [8] (fun s8 wx => ∃ g8, s8 = .pointer (some ⟨g8, 0, none⟩) ∧ wr.heap.size ≤ g8 ∧ Blk wx g8 29 (fc [p]) ∧ Below wr.heap.size wr wx)
          case first =>
            go_region_held3 (fun w' => w'.cell? ⟨g, m - 1, none⟩ = some (.int .i64 b2) ∧ w'.cell? ⟨g, m, none⟩ = some (.int .i64 a) ∧ Below w.heap.size w w')
              ((exact keepS2 (W := wr) (by (repeat' (first | (with_reducible exact Below.refl _ _) | (with_reducible assumption) | (with_reducible refine Below.drewN ?_ _) | (with_reducible refine Below.alloc ?_ ?_ _) | (with_reducible refine Below.drew ?_) | (with_reducible refine Below.setCell ?_ ?_ _) | (with_reducible refine Below.trans ?_ (Below.mono (by assumption) ?_)) | go_size | (with_reducible refine Nat.le_trans ?_ (Below.size (by assumption)))))) ⟨c1, c2, hb⟩))
              ((first
                | (go_at_call 72; have hS : _ ∧ _ ∧ Below w.heap.size w _ := (by assumption); refine (smean_as b o c b' o' c' xs ws _ _ p _ (H.out.below hS.2.2) (H'.out.below hS.2.2) HV.out (by omega) (by omega) (by omega) HP1.out).mono ?_; rintro e w1 ⟨rfl, hb1⟩; obtain ⟨hc1, hf1⟩ := bcell hb1; have hz1 := hb1.size)))
            all_goals go_wp2_with fail
            all_goals go_meet
            · exact ⟨_, rfl, by first | omega | (simp only [World.size_drew] at hz1; omega), by first | exact Blk.made _ _ _ | exact (((Blk.made wr.drew #[.int .i64 0, .int .i64 0] 29).below hb1).set 0 _).set 1 _ | exact ((Blk.below (Blk.made wr #[.int .i64 0, .int .i64 0] 29) hb1).set 0 _).set 1 _, by (repeat' (first | (with_reducible exact Below.refl _ _) | (with_reducible assumption) | (with_reducible refine Below.drewN ?_ _) | (with_reducible refine Below.alloc ?_ ?_ _) | (with_reducible refine Below.drew ?_) | (with_reducible refine Below.setCell ?_ ?_ _) | (with_reducible refine Below.trans ?_ (Below.mono (by assumption) ?_)) | go_size | (with_reducible refine Nat.le_trans ?_ (Below.size (by assumption)))))⟩
            · exact ⟨_, rfl, by first | omega | (simp only [World.size_drew] at hz1; omega), by first | exact Blk.made _ _ _ | exact (((Blk.made wr.drew #[.int .i64 0, .int .i64 0] 29).below hb1).set 0 _).set 1 _ | exact ((Blk.below (Blk.made wr #[.int .i64 0, .int .i64 0] 29) hb1).set 0 _).set 1 _, by (repeat' (first | (with_reducible exact Below.refl _ _) | (with_reducible assumption) | (with_reducible refine Below.drewN ?_ _) | (with_reducible refine Below.alloc ?_ ?_ _) | (with_reducible refine Below.drew ?_) | (with_reducible refine Below.setCell ?_ ?_ _) | (with_reducible refine Below.trans ?_ (Below.mono (by assumption) ?_)) | go_size | (with_reducible refine Nat.le_trans ?_ (Below.size (by assumption)))))⟩
          case rest =>
            obtain ⟨g8, rfl, hg8, hbk8, hb8⟩ := hcut
            have c1' := keepC hb8 c1
            have c2' := keepC hb8 c2
            have d1 := hbk8.cell (j := 0) rfl
            have d2 := hbk8.cell (j := 1) rfl
            have hz8 := hb8.size
            have hb' := hb.trans (hb8.mono hz)
            have HO' := Lib.hid (HO.out.below hb8)
            have hg9 := hbk8.lt
            clear hbk8
            clear c1 c2 hb
            cases hcmp : decide (p < q) with
            | true =>
              go_wp2_with (first
                | (go_at_call 72; refine (smean_as b o c b' o' c' xs ws _ _ q _ (H.out.below hb') (H'.out.below hb') HV.out (by omega) (by omega) (by omega) HQ1.out).mono ?_; rintro e w2 ⟨rfl, hb2⟩; obtain ⟨hc2, hf2⟩ := bcell hb2; have hz2 := hb2.size; have d1' := keepC hb2 d1; have d2' := keepC hb2 d2; have hg10 : g8 < w2.heap.size := (by omega))
                | (go_at_call 73; refine (sless_any p q _ HS2.out).mono ?_; rintro e w3 ⟨rfl, hb3⟩; rw [hcmp]; have hz3 := hb3.size))
              have hbw : Below wc.heap.size wc w3 := ((hb2.alloc (by omega) _).trans (hb3.mono (by simp only [World.size_alloc]; omega)))
              have ho3 := HO'.out.below hbw
              have hb4 := hb'.trans (hbw.mono (by omega))
              have HO3 := Lib.hid ho3
              clear hc2 hf2 hb2 hb3 ho3 hbw
              go_roundw
              case rel =>
                have e : poolR xs ws (k + 1) = a :: b2 :: r := by rw [HL.out, if_pos (of_decide_eq_true hcmp)]
                exact ⟨k + 1, by omega, by go_num, by rw [e]; have := HM.out; rw [show (a :: b2 :: r).length = m + 1 from by simp at this ⊢; omega]; exact HO3.out, hb4⟩
              case measure => simp [intOf]; omega
            | false =>
              have hcap : m + 1 ≤ cap := HO.out.cap
              go_wp2_with (first
                | (go_at_call 72; refine (smean_as b o c b' o' c' xs ws _ _ q _ (H.out.below hb') (H'.out.below hb') HV.out (by omega) (by omega) (by omega) HQ1.out).mono ?_; rintro e w2 ⟨rfl, hb2⟩; obtain ⟨hc2, hf2⟩ := bcell hb2; have hz2 := hb2.size; have d1' := keepC hb2 d1; have d2' := keepC hb2 d2; have hg10 : g8 < w2.heap.size := (by omega))
                | (go_at_call 73; refine (sless_any p q _ HS2.out).mono ?_; rintro e w3 ⟨rfl, hb3⟩; rw [hcmp]; have hz3 := hb3.size))
              have hbw : Below wc.heap.size wc w3 := ((hb2.alloc (by omega) _).trans (hb3.mono (by simp only [World.size_alloc]; omega)))
              have ho3 := HO'.out.below hbw
              have hb4 := hb'.trans (hbw.mono (by omega))
              have HO3 := Lib.hid ho3
              clear hc2 hf2 hb2 hb3 ho3 hbw
              go_roundw
              case rel =>
                obtain ⟨j, rfl⟩ : ∃ j, m = j + 1 := ⟨m - 1, by omega⟩
                have hm' := HM.out
                have ho4 := HO3.out
                rw [lst_cons] at ho4
                have hl := HL.out
                rw [if_neg (of_decide_eq_false hcmp)] at hl
                exact ⟨b2, j, cap, r, by go_num, by simp at hm'; omega, by omega, ho4.pop, hl.symm, (HD.out.2.2).mono (by omega), hb4⟩
              case measure => simp
    · have hkl : k = xs.length := by omega
      obtain ⟨R, hR⟩ : ∃ R, poolR xs ws k = R := ⟨_, rfl⟩
      have e : poolR xs ws xs.length = R := by rw [← hkl]; exact hR
      rw [hR] at hown
      have HO := Lib.hid hown
      have E := Lib.hid e
      clear hown hR e
      have h1 := HV.out.n0
      have hne : R.length ≠ 0 := by
        intro h0
        obtain ⟨j, rfl⟩ : ∃ j, k = j + 1 := ⟨k - 1, by omega⟩
        have h3 := List.eq_nil_of_length_eq_zero h0
        rw [h3] at E
        have h4 := E.out
        rw [← hkl] at h4
        exact poolR_ne xs ws j h4
      obtain ⟨g, cap, rfl, hg⟩ := HO.out.shape hne
      go_wp2
      go_ret
      refine ⟨g, cap, ?_, ?_, hb⟩
      · rw [E.out]; rfl
      · rw [E.out]; exact HO.out

end Go.Proofs.Ytcmbfkdhfdiamaa
