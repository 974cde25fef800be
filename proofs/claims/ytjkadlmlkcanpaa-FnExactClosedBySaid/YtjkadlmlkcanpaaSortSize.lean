/- slices.SortStableFunc of the indices before n, n at most 19, by impl.bySize$1: the order by the key. -/
import Derived.Test.YtjkadlmlkcanpaaOrd
import Derived.Test.YtjkadlmlkcanpaaTail
import Derived.Test.YtjkadlmlkcanpaaToInt
import Derived.Deep.DeepCutAuto
namespace Go.Proofs.Ytjkadlmlkcanpaa
open Go.RowKit

/-- What the closure returns in every world in which only the block g has changed: below 0 just if the first one's key is less. -/
def CmpBySize (w : World) (g p n : Nat) (f : Int → Int) : Prop := ∀ w', w.grownBy w' (some g) → ∀ i j : Nat, i < n → j < n →
  Calls Try.prog 77 #[.int .i64 i, .int .i64 j, .pointer (some ⟨p, 0, none⟩)] w' fun e w'' => e = .returned (.int .i64 (cmpI (f i) (f j))) ∧ ∃ m, w'' = w'.drewN m

theorem grown_draws {w w' : World} {g : Option Nat} (h : w.grownBy w' g) : ∀ n, w.grownBy (w'.drewN n) g
  | 0 => h
  | n + 1 => by
    have ih := grown_draws h n
    exact ⟨ih.os, ih.tape, ih.output, ih.size, ih.block⟩

theorem grown_set' {w w' : World} {g j : Nat} {v : Value} (h : w.grownBy w' (some g)) : w.grownBy (w'.setCell ⟨g, j, none⟩ v) (some g) := grownBy_set h v

set_option maxHeartbeats 4000000 in
theorem insSortSize (g c n p : Nat) (f : Int → Int) (w : World) (h : Blk w g 3 (ic (tlI 0 n))) (hn : n ≤ 1000) (hn0 : 1 ≤ n) (hc : CmpBySize w g p n f) :
    Calls Try.prog 98 #[.slice (some ⟨g, 0, none⟩) n c, .int .i64 0, .int .i64 n, .func (.func 77) #[] #[.pointer (some ⟨p, 0, none⟩)]] w
      fun e w' => e = .returned (.tuple #[]) ∧ Blk w' g 3 (ic (ordK f n)) ∧ w.grownBy w' (some g) := by
  have H := Lib.hid h
  have HC := Lib.hid hc
  clear h hc
  go_enter Try.func98, Try.ntmps98
  go_wp2_with fail
  go_loopw [8] (fun v8 wr => ∃ i : Nat, 1 ≤ i ∧ i ≤ n ∧ v8 = .int .i64 i ∧ Blk wr g 3 (ic (ordK f i ++ tlI i (n - i))) ∧ w.grownBy wr (some g)) (fun v8 _ => n - (intOf v8).toNat)
  case atStart =>
    refine ⟨1, Nat.le_refl _, hn0, rfl, ?_, ⟨rfl, rfl, rfl, Nat.le_refl _, fun _ _ _ => rfl⟩⟩
    obtain ⟨m, rfl⟩ : ∃ m, n = m + 1 := ⟨n - 1, by omega⟩
    rw [Nat.add_sub_cancel]
    exact H.out
  case round =>
    clear H
    obtain ⟨i, hi1, hin, rfl, hb, hg⟩ := hrel
    by_cases hlt : i < n
    · have hol := ordK_length f i
      have hmem := fun y => ordK_mem (f := f) (y := y) i
      have hsrt := ordK_srt f i
      have hnext : ordK f (i + 1) = insK f (i : Int) (ordK f i) := rfl
      have htl : tlI i (n - i) = (i : Int) :: tlI (i + 1) (n - (i + 1)) := by
        obtain ⟨m, hm⟩ : ∃ m, n - i = m + 1 := ⟨n - i - 1, by omega⟩
        rw [hm, show n - (i + 1) = m from by omega]
        rfl
      rw [htl] at hb
      obtain ⟨L, hL⟩ : ∃ L, ordK f i = L := ⟨_, rfl⟩
      obtain ⟨R, hR⟩ : ∃ R, tlI (i + 1) (n - (i + 1)) = R := ⟨_, rfl⟩
      rw [hL] at hol hmem hsrt hnext hb
      rw [hR] at hb
      have HM := Lib.hid hmem
      have HS := Lib.hid hsrt
      have HN := Lib.hid hnext
      have HRR := Lib.hid hR
      have HOL := Lib.hid hol
      have HB := Lib.hid hb
      have HG := Lib.hid hg
      clear hol hmem hsrt hnext htl hL hR hb hg
      go_wp2_with fail
      go_loopw [9] (fun v9 wr => ∃ (A B : List Int) (j : Nat), A.length = j ∧ j ≤ i ∧ A ++ B = L ∧ (∀ y ∈ B, f i < f y) ∧ v9 = .int .i64 j ∧ Blk wr g 3 (ic (A ++ (i : Int) :: (B ++ R))) ∧ w.grownBy wr (some g)) (fun v9 _ => (intOf v9).toNat)
      case atStart => exact ⟨L, [], i, HOL.out, Nat.le_refl _, by simp, by simp, rfl, HB.out, HG.out⟩
      case round =>
        clear HB HG
        obtain ⟨A, B, j, hj, hji, hAB, hB, rfl, hb, hg⟩ := hrel
        have HAB := Lib.hid hAB
        have HBB := Lib.hid hB
        have HJ := Lib.hid hj
        have KB := Lib.hid hb
        have HG := Lib.hid hg
        by_cases hj0 : j = 0
        · have hA : A = [] := List.eq_nil_of_length_eq_zero (by omega)
          have hfin : ordK f (i + 1) = A ++ (i : Int) :: B := by
            rw [HN.out, ← HAB.out]
            exact insK_split (by rw [hA]; simp) HBB.out
          have HF := Lib.hid hfin
          have t1 : decide ((0 : Int) < (j : Int)) = false := by rw [decide_eq_false_iff_not]; omega
          have t2 : decide (0 < j) = false := by rw [decide_eq_false_iff_not]; omega
          clear hj hAB hB hA hfin hb hg hj0
          go_wp2_with fail
          go_quiet (fail)
          go_wp2_with fail
          go_roundw
          case rel => exact ⟨i + 1, by omega, by omega, by go_num, by rw [HF.out, HRR.out, List.append_assoc, List.cons_append]; exact KB.out.below (Below.drewN (Below.refl _ _) _), grown_draws HG.out _⟩
          case measure => simp [intOf]; omega
        · obtain ⟨A', y, rfl⟩ : ∃ A' y, A = A' ++ [y] := ⟨A.dropLast, A.getLast (by intro e; subst e; simp at hj; omega), (List.dropLast_concat_getLast _).symm⟩
          obtain ⟨k, rfl⟩ : ∃ k, j = k + 1 := ⟨j - 1, by omega⟩
          have hk : A'.length = k := by simpa using hj
          have hyL : y ∈ L := by rw [← HAB.out]; simp
          obtain ⟨yk, hyk, rfl⟩ := (HM.out y).1 hyL
          rw [List.append_assoc, List.singleton_append] at hb
          have c1 := hb.cell (get_mid1 A' (B ++ R) (yk : Int) (i : Int))
          have c2 := hb.cell (get_mid A' ((i : Int) :: (B ++ R)) (yk : Int))
          rw [hk] at c1 c2
          have f1 := hb.frozen (k + 1)
          have f2 := hb.frozen k
          have l1 := hb.lt
          have HK := Lib.hid hk
          have t1 : decide ((0 : Int) < ((k + 1 : Nat) : Int)) = true := by rw [decide_eq_true_eq]; omega
          have q1 : IntKind.i64.wrap (((k + 1 : Nat) : Int) - 1) = (k : Int) := by rw [IntWalk.i64_in _ (by omega)]; omega
          have q2 : IntKind.i64.wrap ((k : Int) + 1 - 1) = (k : Int) := by rw [IntWalk.i64_in _ (by omega)]; omega
          have q3 : (0 : Int) ≤ (k : Int) + 1 := by omega
          have q4 : (k : Int) + 1 < (n : Int) := by omega
          have q5 : (k : Int) < (n : Int) := by omega
          have q6 : ((k : Int) + 1).toNat = k + 1 := by omega
          have q7 : (0 : Int) < (k : Int) + 1 := by omega
          have t2 : decide ((0 : Int) < (k : Int) + 1) = true := by rw [decide_eq_true_eq]; omega
          obtain ⟨r, hr⟩ : ∃ r, cmpI (f (i : Int)) (f (yk : Int)) = r := ⟨_, rfl⟩
          have CW := Lib.hid (fun m => (HC.out _ (grown_draws HG.out m) i yk hlt (by omega)).mono (R' := fun e w'' => e = .returned (.int .i64 r) ∧ ∃ m, w'' = wr.drewN m) fun e w'' ⟨h1, m', h2⟩ => ⟨by rw [h1, hr], by rw [h2]; exact ⟨m + m', by simp⟩⟩)
          have HR := Lib.hid hr
          have KB := Lib.hid hb
          clear hj hAB hB hb hg hj0 hk hyL hr
          by_cases hcmp : r < 0
          · have t3 : decide (r < 0) = true := by rw [decide_eq_true_eq]; exact hcmp
            have HCM := Lib.hid hcmp
            clear hcmp
            go_upto_region 4 with fail
            go_quiet ((go_at_call 77; exact CW.out _))
            go_upto_region 6 with fail
            go_region
            all_goals go_wp2_with fail
            go_roundw
            case rel =>
              have hlt2 : f (i : Int) < f (yk : Int) := cmpI_neg.1 (by rw [HR.out]; exact HCM.out)
              have hsw := ic_swap A' (B ++ R) (yk : Int) (i : Int)
              rw [HK.out] at hsw
              refine ⟨A', (yk : Int) :: B, k, HK.out, by omega, by rw [← HAB.out]; simp, ?_, rfl, ?_, grown_draws (grown_set' (grown_set' HG.out)) _⟩
              · intro z hz
                rcases List.mem_cons.1 hz with rfl | hz
                · exact hlt2
                · exact HBB.out z hz
              · rw [List.cons_append, ← hsw]
                exact ((KB.out.below (Below.drewN (Below.refl _ _) _)).set (k + 1) _).set k _
            case measure => simp [intOf]
          · have t3 : decide (r < 0) = false := by rw [decide_eq_false_iff_not]; exact hcmp
            have HCM := Lib.hid hcmp
            clear hcmp
            go_upto_region 4 with fail
            go_quiet ((go_at_call 77; exact CW.out _))
            go_wp2_with fail
            go_roundw
            case rel =>
              have hle2 : f (yk : Int) ≤ f (i : Int) := by
                have h1 := HR.out
                have h2 := HCM.out
                rw [← h1] at h2
                have := mt cmpI_neg.2 h2
                omega
              have hfin : ordK f (i + 1) = A' ++ [(yk : Int)] ++ (i : Int) :: B := by
                rw [HN.out, ← HAB.out]
                refine insK_split (srt_last (B := B) (by rw [HAB.out]; exact HS.out) hle2) HBB.out
              exact ⟨i + 1, by omega, by omega, by go_num, by rw [hfin, HRR.out]; have := KB.out.below (below_drewN (Below.refl wr.heap.size wr) nq); simpa using this, grown_draws HG.out _⟩
            case measure => simp [intOf]; omega
    · have hnn : i = n := by omega
      rw [hnn, Nat.sub_self] at hb
      rw [show ordK f n ++ tlI n 0 = ordK f n from List.append_nil _] at hb
      have HB := Lib.hid hb
      clear hb
      go_wp2_with fail
      go_end0
      exact ⟨rfl, HB.out, hg⟩

set_option maxHeartbeats 1000000 in
theorem stableSize (g c n p : Nat) (f : Int → Int) (w : World) (h : Blk w g 3 (ic (tlI 0 n))) (hn : n ≤ 19) (hn0 : 1 ≤ n) (hc : CmpBySize w g p n f) :
    Calls Try.prog 81 #[.slice (some ⟨g, 0, none⟩) n c, .int .i64 n, .func (.func 77) #[] #[.pointer (some ⟨p, 0, none⟩)]] w
      fun e w' => e = .returned (.tuple #[]) ∧ Blk w' g 3 (ic (ordK f n)) ∧ w.grownBy w' (some g) := by
  have HS := Lib.hid (insSortSize g c n p f w h (by omega) hn0 hc)
  clear h hc
  have t1 : decide ((20 : Int) ≤ (n : Int)) = false := by rw [decide_eq_false_iff_not]; omega
  have t2 : decide ((20 : Int) < (n : Int)) = false := by rw [decide_eq_false_iff_not]; omega
  go_enter Try.func81, Try.ntmps81
  go_wp2_with fail
  go_loopw [7, 8] (fun v7 v8 wr => v7 = .int .i64 0 ∧ v8 = .int .i64 20 ∧ wr = w) (fun _ _ _ => 0)
  case atStart => exact ⟨rfl, rfl, rfl⟩
  case round =>
    obtain ⟨rfl, rfl, rfl⟩ := hrel
    go_wp2_with (go_at_call 98; refine HS.out.mono ?_; rintro e w1 ⟨rfl, hb, hg⟩)
    have HB := Lib.hid hb
    have HG := Lib.hid hg
    clear hb hg
    go_loopw [6] (fun v6 wr => v6 = .int .i64 20 ∧ wr = w1) (fun _ _ => 0)
    case atStart => exact ⟨rfl, rfl⟩
    case round =>
      obtain ⟨rfl, rfl⟩ := hrel
      go_wp2_with fail
      go_end0
      exact ⟨rfl, HB.out, HG.out⟩

set_option maxHeartbeats 1000000 in
theorem sortStableSize (g c n p : Nat) (f : Int → Int) (w : World) (h : Blk w g 3 (ic (tlI 0 n))) (hn : n ≤ 19) (hn0 : 1 ≤ n) (hc : CmpBySize w g p n f) :
    Calls Try.prog 58 #[.slice (some ⟨g, 0, none⟩) n c, .func (.func 77) #[] #[.pointer (some ⟨p, 0, none⟩)]] w
      fun e w' => e = .returned (.tuple #[]) ∧ Blk w' g 3 (ic (ordK f n)) ∧ w.grownBy w' (some g) := by
  have HS := Lib.hid (stableSize g c n p f w h hn hn0 hc)
  clear h hc
  go_enter Try.func58, Try.ntmps58
  go_wp2_with (go_at_call 81; refine HS.out.mono ?_; rintro e w1 ⟨rfl, hb, hg⟩)
  go_end0
  exact ⟨rfl, hb, hg⟩

end Go.Proofs.Ytjkadlmlkcanpaa
