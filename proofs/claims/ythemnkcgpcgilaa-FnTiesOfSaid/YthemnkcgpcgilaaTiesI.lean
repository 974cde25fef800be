/- impl.TiesOf. -/
import Derived.Test.YthemnkcgpcgilaaTies
namespace Go.Proofs.Ythemnkcgpcgilaa
open Go.RowKit

set_option maxHeartbeats 4000000 in
theorem tiesOf_any (b o c : Nat) (xs : List Int) (w : World) (h : RowI w b o xs) (hl : xs.length ≤ 1048576) :
    Calls Try.prog 24 #[.slice (some ⟨b, o, none⟩) xs.length c] w
      fun e w' => ∃ v, e = .returned v ∧ Mut 3 w' w.heap.size v (tiesV xs).length (ic (tiesV xs)) ∧ Below w.heap.size w w' := by
  have H := Lib.hid h
  clear h
  cases hv : vdB xs with
  | false =>
    have e : tiesV xs = [] := by simp [tiesV, hv]
    rw [e]
    clear e
    go_enter Try.func24, Try.ntmps24
    go_wp2_with (go_at_call 34; refine (validData_any _ _ _ _ _ H.out (by omega)).mono ?_; rintro e w1 ⟨rfl, hb1⟩; rw [hv])
    go_ret
    exact ⟨_, rfl, .inl ⟨rfl, rfl, rfl⟩, by (repeat' (first | (with_reducible exact Below.refl _ _) | (with_reducible assumption) | (with_reducible refine Below.drewN ?_ _) | (with_reducible refine Below.alloc ?_ ?_ _) | (with_reducible refine Below.drew ?_) | (with_reducible refine Below.setCell ?_ ?_ _) | (with_reducible refine Below.trans ?_ (Below.mono (by assumption) ?_)) | go_size | (with_reducible refine Nat.le_trans ?_ (Below.size (by assumption)))))⟩
  | true =>
    have hd := vd_of hv
    have h10 := hd.n10
    have hdone : ∀ m, Ti xs xs.length m → tiesV xs = tieS xs m := fun m h => by
      have : tiesV xs = tieS xs 401 := by simp [tiesV, hv]
      rw [this, h.done]
    have HDN := Lib.hid hdone
    have HD := Lib.hid hd
    clear hd hdone
    by_cases hn : xs.length = 0
    · have e0 : tiesV xs = [] := HDN.out 0 (by rw [hn]; exact Ti.zero HD.out)
      rw [e0]
      have hx : xs = [] := List.eq_nil_of_length_eq_zero hn
      subst hx
      clear HDN HD e0
      have H0 := Lib.hid (show ∀ w', Below w.heap.size w w' → Calls Try.prog 34 #[.slice (some ⟨b, o, none⟩) 0 c] w' fun e w'' => e = .returned (.bool true) ∧ Below w'.heap.size w' w'' from fun w' hb => by
        have := validData_any b o c [] w' (H.out.below hb) (by simp)
        rw [hv] at this
        exact this)
      clear H hv
      simp only [List.length_nil]
      go_enter Try.func24, Try.ntmps24
      go_wp2_with (first
        | (go_at_call 34; refine (H0.out _ (by (repeat' (first | (with_reducible exact Below.refl _ _) | (with_reducible assumption) | (with_reducible refine Below.drewN ?_ _) | (with_reducible refine Below.alloc ?_ ?_ _) | (with_reducible refine Below.drew ?_) | (with_reducible refine Below.setCell ?_ ?_ _) | (with_reducible refine Below.trans ?_ (Below.mono (by assumption) ?_)) | go_size | (with_reducible refine Nat.le_trans ?_ (Below.size (by assumption))))))).mono ?_; rintro e w1 ⟨rfl, hb1⟩)
        | (go_at_call 54; refine (sorted_none _ _ _).mono ?_; rintro e w2 ⟨A2, c2, rfl, hb2⟩))
      go_loopw [3, 5] (fun v3 v5 wr => v3 = .slice none 0 0 ∧ v5 = .int .i64 0 ∧ wr = w2) (fun _ _ _ => 0)
      case atStart => exact ⟨rfl, rfl, rfl⟩
      case round =>
        obtain ⟨rfl, rfl, rfl⟩ := hrel
        go_wp2_with (go_at_call 55; refine (clipI_nil _).mono ?_; rintro e w3 ⟨rfl, rfl⟩)
        go_ret
        exact ⟨_, rfl, .inl ⟨rfl, rfl, rfl⟩, hb1.trans (hb2.mono hb1.size)⟩
    · go_enter Try.func24, Try.ntmps24
      go_wp2_with (first
        | (go_at_call 34; refine (validData_any _ _ _ _ _ H.out (by omega)).mono ?_; rintro e w1 ⟨rfl, hb1⟩; rw [hv])
        | (go_at_call 54; refine (sorted_any _ _ _ xs _ (H.out.below hb1) (by omega) (by omega)).mono ?_; rintro e w2 ⟨g, cap, rfl, ho, hb2⟩; have HS := Lib.hid ho.row; clear ho))
      have hbw : Below w.heap.size w w2 := hb1.trans (hb2.mono hb1.size)
      have hzz := hbw.size
      have HBW := Lib.hid hbw
      clear hbw hb1 hb2
      go_loopw [3, 5] (fun v3 v5 wr => ∃ i m : Nat, i ≤ xs.length ∧ v5 = .int .i64 i ∧ Ti xs i m ∧ OwnI wr w2.heap.size v3 (tieS xs m).length (tieS xs m) ∧ Below w2.heap.size w2 wr) (fun _ v5 _ => xs.length - (intOf v5).toNat)
      case atStart => exact ⟨0, 0, Nat.zero_le _, rfl, Ti.zero HD.out, OwnI.nil _ _, Below.refl _ _⟩
      case round =>
        obtain ⟨i, m, hi, rfl, hti, hown, hb⟩ := hrel
        have hz := hb.size
        have HT := Lib.hid hti
        have HO := Lib.hid hown
        have HB := Lib.hid hb
        have hle := tieS_len xs m
        have hm4 := hti.m401
        clear hti hown hb
        by_cases hlt : i < xs.length
        · have s1 := (HS.out.below HB.out).cell i (by rw [srt_length]; exact hlt)
          rw [Nat.zero_add] at s1
          obtain ⟨v, hvv⟩ : ∃ v, gi (srt xs) i = v := ⟨_, rfl⟩
          have HVV := Lib.hid hvv
          rw [hvv] at s1
          clear hvv
          obtain ⟨wo, rfl⟩ : ∃ wo : World, wo = wr := ⟨_, rfl⟩
          go_wp2_with fail
          go_loopw [6] (fun v6 wr => ∃ k : Nat, i ≤ k ∧ k ≤ xs.length ∧ v6 = .int .i64 k ∧ (∀ j, i ≤ j → j < k → gi (srt xs) j = v) ∧ ∃ n, wr = wo.drewN n) (fun v6 _ => xs.length - (intOf v6).toNat)
          case atStart => exact ⟨i, Nat.le_refl _, by omega, rfl, fun j h1 h2 => absurd h2 (by omega), 0, rfl⟩
          case round =>
            obtain ⟨k, hik, hk, rfl, hrun, n, rfl⟩ := hrel
            have HRUN := Lib.hid hrun
            clear hrun
            have q0 : (i : Int) < (xs.length : Int) := by omega
            by_cases hgo : k < xs.length ∧ gi (srt xs) k = v
            · have hkl := hgo.1
              have s2 := (HS.out.below HB.out).cell k (by rw [srt_length]; exact hkl)
              rw [Nat.zero_add, hgo.2] at s2
              have HG := Lib.hid hgo.2
              have e1 : (v == v) = true := by simp
              have q1 : (k : Int) < (xs.length : Int) := by omega
              clear hgo
              go_wp2_with fail
              go_quiet (fail)
              go_wp2_with fail
              go_roundw
              case rel => exact ⟨k + 1, by omega, by omega, by go_num, fun j h1 h2 => by by_cases e : j = k; (· subst e; exact HG.out); exact HRUN.out j h1 (by omega), n + nq, by simp⟩
              case measure => simp [intOf]; omega
            · have hik2 : i < k := by
                rcases Nat.lt_or_eq_of_le hik with h | h
                · exact h
                · exact absurd ⟨by omega, by rw [← h]; exact HVV.out⟩ hgo
              have hstep := Ti.step HD.out HT.out hik2 hk (fun j h1 h2 => by rw [HRUN.out j h1 h2, HVV.out]) (fun h e => hgo ⟨h, by rw [e, HVV.out]⟩)
              have HGO := Lib.hid hgo
              have HST := Lib.hid hstep
              have hbn : Below wo.heap.size wo (wo.drewN n) := Below.drewN (Below.refl _ _) n
              clear hgo hstep
              have hsub : IntKind.i64.wrap ((k : Int) - (i : Int)) = ((k - i : Nat) : Int) := by rw [IntWalk.i64_in _ (by omega)]; omega
              obtain ⟨d, hd⟩ : ∃ d, k - i = d := ⟨_, rfl⟩
              rw [hd] at hsub
              have HDD := Lib.hid hd
              have hd10 : d ≤ 10 := by omega
              clear hd
              cases hg : decide ((1 : Int) < (d : Int)) with
              | true =>
                by_cases hkl : k < xs.length
                · have s2 := (HS.out.below HB.out).cell k (by rw [srt_length]; exact hkl)
                  rw [Nat.zero_add] at s2
                  obtain ⟨y, hy⟩ : ∃ y, gi (srt xs) k = y := ⟨_, rfl⟩
                  have e1 : (y == v) = false := by
                    have := HGO.out
                    rw [hy] at this
                    simp only [beq_eq_false_iff_ne]
                    exact fun e => this ⟨hkl, e⟩
                  rw [hy] at s2
                  have q1 : (k : Int) < (xs.length : Int) := by omega
                  clear hy
                  go_wp2_with fail
                  go_quiet (fail)
                  have HOO := Lib.hid (HO.out.below (Below.drewN (Below.refl wo.heap.size wo) (n + nq)))
                  clear s1 s2
                  go_wp2_with (at_builtin; refine wpList_app1 rfl (.tmp 38) (.tmp 42) 22 rfl w2.heap.size 3 (.int .i64 0) 1 8 Try.underlying22 infoI rfl (by decide) (by decide) _ _ _ rfl (World.ownsRow.alloc HOO.out _) ⟨_, 0, none⟩ 1 [.int .i64 d] rfl rfl (cell_one_new _ _ _) (by simp [Value.oneCell']) (by omega) (by simp; omega) ?_; intro g2 cap2 w4 o1 o2 o3)
                  go_roundw
                  case rel =>
                    obtain ⟨m', ht', he'⟩ := HST.out
                    rw [HDD.out, if_pos (by have := of_decide_eq_true hg; omega)] at he'
                    have e2 : (tieS xs m').length = (tieS xs m).length + 1 := by rw [he']; simp
                    exact ⟨k, m', hk, rfl, ht', by rw [e2, he']; exact OwnI.app o1, ((Below.drewN HB.out _).alloc (by simp; omega) _).trans (Below.app (World.ownsRow.alloc HOO.out _) (by simp; omega) o2)⟩
                  case measure => simp [intOf]; omega
                · have q1 : ¬ ((k : Int) < (xs.length : Int)) := by omega
                  go_wp2_with fail
                  go_quiet (fail)
                  have HOO := Lib.hid (HO.out.below (Below.drewN (Below.refl wo.heap.size wo) (n + nq)))
                  clear s1
                  go_wp2_with (at_builtin; refine wpList_app1 rfl (.tmp 38) (.tmp 42) 22 rfl w2.heap.size 3 (.int .i64 0) 1 8 Try.underlying22 infoI rfl (by decide) (by decide) _ _ _ rfl (World.ownsRow.alloc HOO.out _) ⟨_, 0, none⟩ 1 [.int .i64 d] rfl rfl (cell_one_new _ _ _) (by simp [Value.oneCell']) (by omega) (by simp; omega) ?_; intro g2 cap2 w4 o1 o2 o3)
                  go_roundw
                  case rel =>
                    obtain ⟨m', ht', he'⟩ := HST.out
                    rw [HDD.out, if_pos (by have := of_decide_eq_true hg; omega)] at he'
                    have e2 : (tieS xs m').length = (tieS xs m).length + 1 := by rw [he']; simp
                    exact ⟨k, m', hk, rfl, ht', by rw [e2, he']; exact OwnI.app o1, ((Below.drewN HB.out _).alloc (by simp; omega) _).trans (Below.app (World.ownsRow.alloc HOO.out _) (by simp; omega) o2)⟩
                  case measure => simp [intOf]; omega
              | false =>
                by_cases hkl : k < xs.length
                · have s2 := (HS.out.below HB.out).cell k (by rw [srt_length]; exact hkl)
                  rw [Nat.zero_add] at s2
                  obtain ⟨y, hy⟩ : ∃ y, gi (srt xs) k = y := ⟨_, rfl⟩
                  have e1 : (y == v) = false := by
                    have := HGO.out
                    rw [hy] at this
                    simp only [beq_eq_false_iff_ne]
                    exact fun e => this ⟨hkl, e⟩
                  rw [hy] at s2
                  have q1 : (k : Int) < (xs.length : Int) := by omega
                  clear hy
                  go_wp2_with fail
                  go_quiet (fail)
                  go_wp2_with fail
                  go_roundw
                  case rel =>
                    obtain ⟨m', ht', he'⟩ := HST.out
                    rw [HDD.out, if_neg (by have := of_decide_eq_false hg; omega), List.append_nil] at he'
                    exact ⟨k, m', hk, rfl, ht', by rw [he']; exact HO.out.below (Below.drewN (Below.refl wo.heap.size wo) _), Below.drewN HB.out _⟩
                  case measure => simp [intOf]; omega
                · have q1 : ¬ ((k : Int) < (xs.length : Int)) := by omega
                  go_wp2_with fail
                  go_quiet (fail)
                  go_wp2_with fail
                  go_roundw
                  case rel =>
                    obtain ⟨m', ht', he'⟩ := HST.out
                    rw [HDD.out, if_neg (by have := of_decide_eq_false hg; omega), List.append_nil] at he'
                    exact ⟨k, m', hk, rfl, ht', by rw [he']; exact HO.out.below (Below.drewN (Below.refl wo.heap.size wo) _), Below.drewN HB.out _⟩
                  case measure => simp [intOf]; omega
        · obtain rfl : i = xs.length := by omega
          have hF := HDN.out m HT.out
          have HF := Lib.hid hF
          clear hF
          have HC := Lib.hid (clipI_own w2.heap.size _ _ _ _ HO.out (by omega))
          go_wp2_with (go_at_call 55; refine HC.out.mono ?_; rintro e w3 ⟨v', rfl, hm, rfl⟩)
          go_ret
          exact ⟨_, rfl, by rw [HF.out]; exact hm.mono hzz, HBW.out.trans (HB.out.mono hzz)⟩

end Go.Proofs.Ythemnkcgpcgilaa
