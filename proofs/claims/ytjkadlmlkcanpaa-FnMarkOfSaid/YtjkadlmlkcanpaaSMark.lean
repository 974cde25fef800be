/- spec.MarkOf: the mark that most of the nearest numbers have. -/
import Derived.Test.YtjkadlmlkcanpaaCases
import Derived.Test.YtjkadlmlkcanpaaSOrder
import Derived.Deep.RegionHeld3
namespace Go.Proofs.Ytjkadlmlkcanpaa
open Go.RowKit

set_option maxHeartbeats 4000000 in
theorem smarkOf_bad (b o c b' o' c' : Nat) (xs ws : List Int) (x k : Int) (w : World) (h : RowI w b o xs) (h' : RowI w b' o' ws) (hl : xs.length ≤ 1048576) (hl' : ws.length ≤ 1048576) (hv : mkB xs ws x k = false) :
    Calls Try.prog 29 #[.slice (some ⟨b, o, none⟩) xs.length c, .slice (some ⟨b', o', none⟩) ws.length c', .int .i64 x, .int .i64 k] w fun e w' => e = .returned (.int .i64 (-1)) ∧ Below w.heap.size w w' := by
  have H := Lib.hid h
  have H' := Lib.hid h'
  clear h h'
  unfold mkB at hv
  obtain ⟨t1, h1⟩ : ∃ t, vcB xs ws = t := ⟨_, rfl⟩
  obtain ⟨t2, h2⟩ : ∃ t, inB x (-200) 200 = t := ⟨_, rfl⟩
  rw [h1, h2] at hv
  have H1 := Lib.hid h1
  have H2 := Lib.hid h2
  clear h1 h2
  cases t1
  · clear hv
    go_enter Try.func29, Try.ntmps29
    go_wp2_with (go_at_call 52; refine (svalidCases_any b o c b' o' c' xs ws _ H.out H'.out hl hl').mono ?_; rintro e w1 ⟨rfl, rfl⟩; rw [H1.out])
    go_ret
    exact ⟨rfl, by (repeat' (first | (with_reducible exact Below.refl _ _) | (with_reducible assumption) | (with_reducible refine Below.drewN ?_ _) | (with_reducible refine Below.alloc ?_ ?_ _) | (with_reducible refine Below.drew ?_) | (with_reducible refine Below.setCell ?_ ?_ _) | (with_reducible refine Below.trans ?_ (Below.mono (by assumption) ?_)) | go_size | (with_reducible refine Nat.le_trans ?_ (Below.size (by assumption)))))⟩
  cases t2
  · clear hv
    go_enter Try.func29, Try.ntmps29
    go_wp2_with (first
      | (go_at_call 52; refine (svalidCases_any b o c b' o' c' xs ws _ H.out H'.out hl hl').mono ?_; rintro e w1 ⟨rfl, rfl⟩; rw [H1.out])
      | (go_at_call 53; refine (inRange_any _ _ _ _).mono ?_; rintro e w2 ⟨rfl, rfl⟩; rw [H2.out]))
    go_ret
    exact ⟨rfl, by (repeat' (first | (with_reducible exact Below.refl _ _) | (with_reducible assumption) | (with_reducible refine Below.drewN ?_ _) | (with_reducible refine Below.alloc ?_ ?_ _) | (with_reducible refine Below.drew ?_) | (with_reducible refine Below.setCell ?_ ?_ _) | (with_reducible refine Below.trans ?_ (Below.mono (by assumption) ?_)) | go_size | (with_reducible refine Nat.le_trans ?_ (Below.size (by assumption)))))⟩
  have H3 := Lib.hid (show inB k 1 xs.length = false by simpa using hv)
  clear hv
  go_enter Try.func29, Try.ntmps29
  go_wp2_with (first
    | (go_at_call 52; refine (svalidCases_any b o c b' o' c' xs ws _ H.out H'.out hl hl').mono ?_; rintro e w1 ⟨rfl, rfl⟩; rw [H1.out])
    | (go_at_call_of 53 x; refine (inRange_any _ _ _ _).mono ?_; rintro e w2 ⟨rfl, rfl⟩; rw [H2.out])
    | (go_at_call_of 53 k; refine (inRange_any _ _ _ _).mono ?_; rintro e w2 ⟨rfl, rfl⟩; rw [H3.out]))
  go_ret
  exact ⟨rfl, by (repeat' (first | (with_reducible exact Below.refl _ _) | (with_reducible assumption) | (with_reducible refine Below.drewN ?_ _) | (with_reducible refine Below.alloc ?_ ?_ _) | (with_reducible refine Below.drew ?_) | (with_reducible refine Below.setCell ?_ ?_ _) | (with_reducible refine Below.trans ?_ (Below.mono (by assumption) ?_)) | go_size | (with_reducible refine Nat.le_trans ?_ (Below.size (by assumption)))))⟩

set_option maxHeartbeats 8000000 in
theorem smarkOf_good (b o c b' o' c' : Nat) (xs ws : List Int) (x : Int) (kn : Nat) (w : World) (h : RowI w b o xs) (h' : RowI w b' o' ws) (hl : xs.length ≤ 1048576) (hl' : ws.length ≤ 1048576) (hv : mkB xs ws x kn = true) :
    Calls Try.prog 29 #[.slice (some ⟨b, o, none⟩) xs.length c, .slice (some ⟨b', o', none⟩) ws.length c', .int .i64 x, .int .i64 kn] w fun e w' => e = .returned (.int .i64 (if 2 * onesI xs ws x kn ≥ kn then 1 else 0)) ∧ Below w.heap.size w w' := by
  obtain ⟨r0, hr0⟩ : ∃ r0 : Int, (if 2 * onesI xs ws x kn ≥ kn then 1 else 0) = r0 := ⟨_, rfl⟩
  rw [hr0]
  have HR0 := Lib.hid hr0
  clear hr0
  simp only [mkB, Bool.and_eq_true] at hv
  obtain ⟨⟨hv1, hv2⟩, hv3⟩ := hv
  have H := Lib.hid h
  have H' := Lib.hid h'
  have H1 := Lib.hid hv1
  have H2 := Lib.hid hv2
  have H3 := Lib.hid hv3
  have HV := Lib.hid (vc_of hv1)
  have hx := inB_iff.1 hv2
  have hk2 := inB_iff.1 hv3
  have hn1 := HV.out.n0
  have hn10 := HV.out.n10
  clear h h' hv1 hv2 hv3
  go_enter Try.func29, Try.ntmps29
  go_wp2_with (first
    | (go_at_call 52; refine (svalidCases_any b o c b' o' c' xs ws _ H.out H'.out hl hl').mono ?_; rintro e w1 ⟨rfl, rfl⟩; rw [H1.out])
    | (go_at_call_of 53 x; refine (inRange_any _ _ _ _).mono ?_; rintro e w2 ⟨rfl, rfl⟩; rw [H2.out])
    | (go_at_call_of 53 (kn : Int); refine (inRange_any _ _ _ _).mono ?_; rintro e w2 ⟨rfl, rfl⟩; rw [H3.out]))
  go_loopw [9, 10] (fun v9 v10 wr => ∃ i : Nat, i ≤ xs.length ∧ v10 = .int .i64 i ∧ OwnI wr w.heap.size v9 i (tabI (farI xs x) i) ∧ Below w.heap.size w wr) (fun _ v10 _ => xs.length - (intOf v10).toNat)
  case atStart => exact ⟨0, Nat.zero_le _, rfl, OwnI.empty _ _ (Nat.le_refl _) _ rfl, by (repeat' (first | (with_reducible exact Below.refl _ _) | (with_reducible assumption) | (with_reducible refine Below.drewN ?_ _) | (with_reducible refine Below.alloc ?_ ?_ _) | (with_reducible refine Below.drew ?_) | (with_reducible refine Below.setCell ?_ ?_ _) | (with_reducible refine Below.trans ?_ (Below.mono (by assumption) ?_)) | go_size | (with_reducible refine Nat.le_trans ?_ (Below.size (by assumption)))))⟩
  case round =>
    obtain ⟨i, hi, rfl, hown, hb⟩ := hrel
    have hz := hb.size
    have HO := Lib.hid hown
    clear hown
    by_cases hlt : i < xs.length
    · have c1 := H.out.cell i hlt
      have x1 := HV.out.x i hlt
      have hf : farI xs x i = if gi xs i - x < x - gi xs i then x - gi xs i else gi xs i - x := rfl
      obtain ⟨y, hy⟩ : ∃ y, gi xs i = y := ⟨_, rfl⟩
      rw [hy] at c1 x1 hf
      have q3 : IntKind.i64.wrap (y - x) = y - x := IntWalk.i64_in _ (by omega)
      have q4 : IntKind.i64.wrap (x - y) = x - y := IntWalk.i64_in _ (by omega)
      obtain ⟨r, hr⟩ : ∃ r, (if y - x < x - y then x - y else y - x) = r := ⟨_, rfl⟩
      rw [hr] at hf
      have HF := Lib.hid hf
      clear hf hy
      go_wp2_with fail
      go_region_held3 (fun w' => w'.cell? ⟨b, o + i, none⟩ = some (.int .i64 y) ∧ Below w.heap.size w w')
        ((exact keepBX c1 (by (repeat' (first | (with_reducible exact Below.refl _ _) | (with_reducible assumption) | (with_reducible refine Below.drewN ?_ _) | (with_reducible refine Below.alloc ?_ ?_ _) | (with_reducible refine Below.drew ?_) | (with_reducible refine Below.setCell ?_ ?_ _) | (with_reducible refine Below.trans ?_ (Below.mono (by assumption) ?_)) | go_size | (with_reducible refine Nat.le_trans ?_ (Below.size (by assumption))))))))
        ((refine step_appS (by rfl) (.tmp 37) (.tmp 51) 22 (by rfl) w.heap.size 3 (.int .i64 0) 8 Try.underlying22 infoI rfl (by decide) _ i (ic (tabI (farI xs x) i)) (by rfl) ⟨_, 0, none⟩ 1 _ [.int .i64 r] (by rfl) ?_ rfl ?_ (one_one _) (by omega) ?_ ?_; (focus (exact World.ownsRow.alloc HO.out _)); (focus (exact cell_one_new _ _ _)); (focus (simp; omega)); intro v4 w4 o1 o2 o3; have b4 := Below.app (B := w.heap.size) (by exact World.ownsRow.alloc HO.out _) (by simp; omega) o2))
      have HBW : Below w.heap.size w w4 := by (repeat' (first | (with_reducible exact Below.refl _ _) | (with_reducible assumption) | (with_reducible refine Below.drewN ?_ _) | (with_reducible refine Below.alloc ?_ ?_ _) | (with_reducible refine Below.drew ?_) | (with_reducible refine Below.setCell ?_ ?_ _) | (with_reducible refine Below.trans ?_ (Below.mono (by assumption) ?_)) | go_size | (with_reducible refine Nat.le_trans ?_ (Below.size (by assumption)))))
      clear b4 o2
      go_wp2_with fail
      go_roundw
      case rel => exact ⟨i + 1, by omega, by go_num, by rw [tabI_succ, HF.out]; exact OwnI.app o1, HBW⟩
      case measure => simp [intOf]; omega
    · obtain rfl : i = xs.length := by omega
      have ho := HO.out
      obtain ⟨g, cap, rfl, hg⟩ := ho.shape (by omega)
      have hrw : RowI wr g 0 (farL xs x) := ho.row
      have HRW := Lib.hid hrw
      have HB := Lib.hid hb
      have HO1 := Lib.hid (show Calls Try.prog 54 #[.slice (some ⟨g, 0, none⟩) xs.length cap] wr fun e w' => ∃ g' cap', e = .returned (.slice (some ⟨g', 0, none⟩) xs.length cap') ∧ RowI w' g' 0 (nearL xs x) ∧ Below w.heap.size w w' from by
        have := sorderOf_any g 0 cap (farL xs x) wr hrw (by rw [farL_length]; omega)
        rw [farL_length] at this
        exact this.mono fun e w' ⟨g', cap', he, _, hr, hb'⟩ => ⟨g', cap', he, hr, hb.trans (hb'.mono hz)⟩)
      clear ho HO hrw hb
      have hk1 : (kn : Int) ≤ (xs.length : Int) := hk2.2
      go_wp2_with (go_at_call 54; refine HO1.out.mono ?_; rintro e w5 ⟨g5, cap5, rfl, hr5, hb5⟩; have HB5 := Lib.hid hr5; have HBW5 := Lib.hid hb5; clear hr5 hb5)
      go_loop [12, 13] (fun v12 v52 => ∃ j : Nat, j ≤ kn ∧ v52 = .int .i64 j ∧ v12 = .int .i64 (onesI xs ws x j)) (fun _ v52 => kn - (intOf v52).toNat)
      case atStart => exact ⟨0, Nat.zero_le _, rfl, rfl⟩
      case round =>
        obtain ⟨j, hj, rfl, rfl⟩ := hrel
        have ho := onesI_bd (x := x) HV.out j (by omega)
        by_cases hjk : j < kn
        · obtain ⟨m, hm, he⟩ := nearL_at (xs := xs) (x := x) (j := j) (by omega)
          have hml : m < ws.length := by rw [HV.out.len]; exact hm
          have c1 := HB5.out.cell j (by rw [nearL_length]; omega)
          rw [he, Nat.zero_add] at c1
          have c2 := (H'.out.below HBW5.out).cell m hml
          have hst : onesI xs ws x (j + 1) = onesI xs ws x j + gi ws m := by rw [onesI, he, Int.toNat_natCast]
          have hm2 := HV.out.m m hml
          obtain ⟨y, hy⟩ : ∃ y, gi ws m = y := ⟨_, rfl⟩
          obtain ⟨s, hs⟩ : ∃ s, onesI xs ws x j = s := ⟨_, rfl⟩
          rw [hy] at c2 hm2 hst
          rw [hs] at ho hst ⊢
          have HST := Lib.hid hst
          have q1 : (j : Int) < (kn : Int) := by omega
          have q2 : (m : Int) < (ws.length : Int) := by omega
          have q4 : (j : Int) < (xs.length : Int) := by omega
          have q3 : IntKind.i64.wrap (s + y) = s + y := IntWalk.i64_in _ (by omega)
          clear he hy hs hst
          go_wp2_with fail
          go_round
          case rel => exact ⟨j + 1, by omega, by go_num, by rw [HST.out]⟩
          case measure => simp [intOf]; omega
        · have hjk2 : j = kn := by omega
          have HJ := Lib.hid hjk2
          have q1 : ¬ ((j : Int) < (kn : Int)) := by omega
          obtain ⟨s, hs⟩ : ∃ s, onesI xs ws x j = s := ⟨_, rfl⟩
          have hs2 : onesI xs ws x kn = s := by rw [← hs, hjk2]
          rw [hs] at ho ⊢
          have HS2 := Lib.hid hs2
          have q3 : IntKind.i64.wrap (2 * s) = 2 * s := IntWalk.i64_in _ (by omega)
          clear hjk2 hs hs2
          cases hd : decide ((kn : Int) ≤ 2 * s) with
          | true =>
            go_wp2_with fail
            go_ret
            exact ⟨by rw [← HR0.out, HS2.out, if_pos (of_decide_eq_true hd)]; rfl, HBW5.out⟩
          | false =>
            go_wp2_with fail
            go_ret
            exact ⟨by rw [← HR0.out, HS2.out, if_neg (of_decide_eq_false hd)]; rfl, HBW5.out⟩

theorem smarkOf_any (b o c b' o' c' : Nat) (xs ws : List Int) (x k : Int) (w : World) (h : RowI w b o xs) (h' : RowI w b' o' ws) (hl : xs.length ≤ 1048576) (hl' : ws.length ≤ 1048576) :
    Calls Try.prog 29 #[.slice (some ⟨b, o, none⟩) xs.length c, .slice (some ⟨b', o', none⟩) ws.length c', .int .i64 x, .int .i64 k] w fun e w' => e = .returned (.int .i64 (markV xs ws x k)) ∧ Below w.heap.size w w' := by
  cases hv : mkB xs ws x k with
  | false => simpa [markV, hv] using smarkOf_bad b o c b' o' c' xs ws x k w h h' hl hl' hv
  | true =>
    have h1 : inB k 1 xs.length = true := by simp only [mkB, Bool.and_eq_true] at hv; exact hv.2
    have h2 := inB_iff.1 h1
    obtain ⟨kn, rfl⟩ : ∃ kn : Nat, k = kn := ⟨k.toNat, by omega⟩
    have := smarkOf_good b o c b' o' c' xs ws x kn w h h' hl hl' hv
    simpa [markV, hv] using this

end Go.Proofs.Ytjkadlmlkcanpaa
