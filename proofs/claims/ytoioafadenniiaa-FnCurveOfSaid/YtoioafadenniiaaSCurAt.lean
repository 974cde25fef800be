/- The value of a curve: spec.CurveAt. -/
import Derived.Test.YtoioafadenniiaaCurB
import Derived.Test.YtoioafadenniiaaCurA
namespace Go.Proofs.Ytoioafadenniiaa
open Go.RowKit

def caB (xs ys : List Int) (x : Int) : Bool := crB xs ys && inB x (-12) 12
/-- The value's numbers, zeros if there is none. -/
def caU (xs ys : List Int) (x : Int) : Int := if caB xs ys x then up (cA xs ys x xs.length xs.length) else 0
def caD (xs ys : List Int) (x : Int) : Int := if caB xs ys x then dn (cA xs ys x xs.length xs.length) else 0
theorem dn_zero : dn (0 : Rat) = 1 := rfl
theorem up_zero : up (0 : Rat) = 0 := rfl

set_option maxHeartbeats 4000000 in
theorem scurveAt_no (b o c b' o' c' : Nat) (xs ys : List Int) (x : Int) (w : World) (h : RowI w b o xs) (h' : RowI w b' o' ys) (hm : xs.length ≤ 1048576) (hm' : ys.length ≤ 1048576) (hc : caB xs ys x = false) :
    Calls Try.prog 23 #[.slice (some ⟨b, o, none⟩) xs.length c, .slice (some ⟨b', o', none⟩) ys.length c', .int .i64 x] w
      fun e w' => e = .returned (.tuple #[.agg #[.int .i64 0, .int .i64 0], .bool false]) ∧ Below w.heap.size w w' := by
  have e5 := vp_five xs ys
  have CV := Lib.hid (fun w h h' => validPoints_any b o c b' o' c' xs ys w h h' (by omega) (by omega))
  have CD := Lib.hid (fun w h => different_any b o c xs w h hm)
  have IR := Lib.hid (fun w => inRange_any xs.length 1 5 w)
  have IX := Lib.hid (fun w => inRange_any x (-12) 12 w)
  have H := Lib.hid h
  have H' := Lib.hid h'
  obtain ⟨n, hn⟩ : ∃ n, xs.length = n := ⟨_, rfl⟩
  obtain ⟨n', hn'⟩ : ∃ n, ys.length = n := ⟨_, rfl⟩
  unfold caB crB at hc
  rw [← e5] at hc
  rw [hn] at CV CD IR hc ⊢
  rw [hn'] at CV ⊢
  obtain ⟨f1, hf1⟩ : ∃ f, vpB xs ys = f := ⟨_, rfl⟩
  obtain ⟨f2, hf2⟩ : ∃ f, inB (n : Int) 1 5 = f := ⟨_, rfl⟩
  obtain ⟨f3, hf3⟩ : ∃ f, dfB xs = f := ⟨_, rfl⟩
  obtain ⟨f4, hf4⟩ : ∃ f, inB x (-12) 12 = f := ⟨_, rfl⟩
  rw [hf1] at CV hc
  rw [hf2] at IR hc
  rw [hf3] at CD hc
  rw [hf4] at IX hc
  clear h h' hn hn' hf1 hf2 hf3 hf4 e5 hm hm'
  have key : f1 = false ∨ (f1 = true ∧ f2 = false) ∨ (f1 = true ∧ f2 = true ∧ f3 = false) ∨ (f1 = true ∧ f2 = true ∧ f3 = true ∧ f4 = false) := by
    cases f1 <;> cases f2 <;> cases f3 <;> cases f4 <;> simp at hc ⊢
  clear hc
  go_enter Try.func23, Try.ntmps23
  go_upto_region 1 with fail
  refine wp_abstract (fun W => Blk W w.heap.size 31 [.int .i64 0, .int .i64 0] ∧ Below w.heap.size w W) ⟨Blk.made' _ rfl rfl, by (repeat' (first | (with_reducible exact Below.refl _ _) | (with_reducible assumption) | (with_reducible refine Below.drewN ?_ _) | (with_reducible refine Below.alloc ?_ ?_ _) | (with_reducible refine Below.drew ?_) | (with_reducible refine Below.setCell ?_ ?_ _) | (with_reducible refine Below.trans ?_ (Below.mono (by assumption) ?_)) | go_size | (with_reducible refine Nat.le_trans ?_ (Below.size (by assumption)))))⟩ ?_
  rintro W0 ⟨hk4, hb⟩
  have K4 := Lib.hid hk4
  have HB := Lib.hid hb
  have hz := hb.size
  have HW := Lib.hid (H.out.below hb)
  have HW' := Lib.hid (H'.out.below hb)
  clear hk4 hb
  have c40 := K4.out.cell (j := 0) rfl
  have c41 := K4.out.cell (j := 1) rfl
  have f40 := K4.out.frozen 0
  have f41 := K4.out.frozen 1
  rcases key with rfl | ⟨rfl, rfl⟩ | ⟨rfl, rfl, rfl⟩ | ⟨rfl, rfl, rfl, rfl⟩
  · go_wp2_with (go_at_call 41; refine (CV.out _ HW.out HW'.out).mono ?_; rintro e w1 ⟨rfl, rfl⟩)
    refine bodyPost_ret (v := .tuple #[.agg #[.int .i64 0, .int .i64 0], .bool false]) ?_ rfl ⟨rfl, ?_⟩
    · simp [results, Try.results23, go_sem, c40, c41]
    · exact (HB.out.setCell (Nat.le_refl _) _).setCell (Nat.le_refl _) _
  · go_wp2_with (first
      | (go_at_call 41; refine (CV.out _ HW.out HW'.out).mono ?_; rintro e w1 ⟨rfl, rfl⟩)
      | (go_at_call 42; refine (IR.out _).mono ?_; rintro e w2 ⟨rfl, rfl⟩))
    refine bodyPost_ret (v := .tuple #[.agg #[.int .i64 0, .int .i64 0], .bool false]) ?_ rfl ⟨rfl, ?_⟩
    · simp [results, Try.results23, go_sem, c40, c41]
    · exact (HB.out.setCell (Nat.le_refl _) _).setCell (Nat.le_refl _) _
  · clear IX
    go_wp2_with (first
      | (go_at_call 41; refine (CV.out _ HW.out HW'.out).mono ?_; rintro e w1 ⟨rfl, rfl⟩)
      | (go_at_call 42; refine (IR.out _).mono ?_; rintro e w2 ⟨rfl, rfl⟩)
      | (go_at_call 43; refine (CD.out _ HW.out).mono ?_; rintro e w3 ⟨rfl, b3⟩; have k4 := K4.out.below b3; have y0 := k4.cell (j := 0) rfl; have y1 := k4.cell (j := 1) rfl; have g0 := k4.frozen 0; have g1 := k4.frozen 1))
    refine bodyPost_ret (v := .tuple #[.agg #[.int .i64 0, .int .i64 0], .bool false]) ?_ rfl ⟨rfl, ?_⟩
    · simp [results, Try.results23, go_sem, y0, y1]
    · exact ((HB.out.trans (b3.mono hz)).setCell (Nat.le_refl _) _).setCell (Nat.le_refl _) _
  · go_wp2_with (first
      | (go_at_call 41; refine (CV.out _ HW.out HW'.out).mono ?_; rintro e w1 ⟨rfl, rfl⟩)
      | (go_at_call_of 42 n; refine (IR.out _).mono ?_; rintro e w2 ⟨rfl, rfl⟩)
      | (go_at_call_of 42 x; refine (IX.out _).mono ?_; rintro e w4 ⟨rfl, rfl⟩)
      | (go_at_call 43; refine (CD.out _ HW.out).mono ?_; rintro e w3 ⟨rfl, b3⟩; have k4 := K4.out.below b3; have y0 := k4.cell (j := 0) rfl; have y1 := k4.cell (j := 1) rfl; have g0 := k4.frozen 0; have g1 := k4.frozen 1))
    refine bodyPost_ret (v := .tuple #[.agg #[.int .i64 0, .int .i64 0], .bool false]) ?_ rfl ⟨rfl, ?_⟩
    · simp [results, Try.results23, go_sem, y0, y1]
    · exact ((HB.out.trans (b3.mono hz)).setCell (Nat.le_refl _) _).setCell (Nat.le_refl _) _

set_option maxHeartbeats 8000000 in
set_option maxRecDepth 100000 in
theorem scurveAt_yes (b o c b' o' c' m : Nat) (xs ys : List Int) (x : Int) (q : Rat) (w : World) (h : RowI w b o xs) (h' : RowI w b' o' ys) (hc : caB xs ys x = true) (hm : xs.length = m) (hq : cA xs ys x m m = q) :
    Calls Try.prog 23 #[.slice (some ⟨b, o, none⟩) m c, .slice (some ⟨b', o', none⟩) m c', .int .i64 x] w
      fun e w' => e = .returned (.tuple #[.agg #[.int .i64 (up q), .int .i64 (dn q)], .bool true]) ∧ Below w.heap.size w w' := by
  have e5 := vp_five xs ys
  unfold caB crB at hc
  simp only [Bool.and_eq_true] at hc
  obtain ⟨⟨hpl, hdf⟩, hxi⟩ := hc
  have hp : Pl xs ys 5 := pl_of (m := 5) hpl
  have hd : Df xs := dfB_iff.1 hdf
  have hx := inB_iff.1 hxi
  rw [hpl] at e5
  simp only [Bool.and_eq_true] at e5
  obtain ⟨e51, e52⟩ := e5
  have n5 := hp.nm
  have n1 := hp.n0
  have hl := hp.ne
  rw [hm] at n5 n1 hl e52
  have CV := Lib.hid (fun w h h' => e51 ▸ hm ▸ hl ▸ validPoints_any b o c b' o' c' xs ys w h h' (by omega) (by omega))
  have CD := Lib.hid (fun w h => hdf ▸ hm ▸ different_any b o c xs w h (by omega))
  have IR := Lib.hid (fun w => e52 ▸ inRange_any m 1 5 w)
  have IX := Lib.hid (fun w => hxi ▸ inRange_any x (-12) 12 w)
  have CF := Lib.hid (fun w (h : RowI w b o xs) (h' : RowI w b' o' ys) => factors_any b o c b' o' c' m xs ys w h h' hp hd hm)
  have ST := Lib.hid (fun j (hj : j < m) => cA_cs hp hd hx hm j hj)
  have SU := Lib.hid (fun j (hj : j < m) => cA_succ xs ys x m j)
  have CL := Lib.hid (fun k (hk : k < m) w g (h : Blk w g 31 (fc (cvL xs ys m))) => (by
    have l : k < (cvL xs ys m).length := by rw [show (cvL xs ys m).length = m from tab_length _ _]; exact hk
    have e : gq (cvL xs ys m) k = dd xs ys k 0 := gq_tab hk
    exact e ▸ ⟨h.f0 l, h.f1 l⟩ : w.cell? ⟨g, k * 2, none⟩ = some (.int .i64 (up (dd xs ys k 0))) ∧ w.cell? ⟨g, k * 2 + 1, none⟩ = some (.int .i64 (dn (dd xs ys k 0)))))
  have HX := Lib.hid (fun i (hi : i < m) => hp.x i (by omega))
  have HQ := Lib.hid hq
  have H := Lib.hid h
  have H' := Lib.hid h'
  have HMM := Lib.hid hm
  obtain ⟨x1, x2⟩ := hx
  clear h h' e51 e52 hpl hdf hxi hp hd hl hq hm
  go_enter Try.func23, Try.ntmps23
  go_upto_region 1 with fail
  refine wp_abstract (fun W => Blk W w.heap.size 31 [.int .i64 0, .int .i64 0] ∧ Below w.heap.size w W) ⟨Blk.made' _ rfl rfl, by (repeat' (first | (with_reducible exact Below.refl _ _) | (with_reducible assumption) | (with_reducible refine Below.drewN ?_ _) | (with_reducible refine Below.alloc ?_ ?_ _) | (with_reducible refine Below.drew ?_) | (with_reducible refine Below.setCell ?_ ?_ _) | (with_reducible refine Below.trans ?_ (Below.mono (by assumption) ?_)) | go_size | (with_reducible refine Nat.le_trans ?_ (Below.size (by assumption)))))⟩ ?_
  rintro W0 ⟨hk4, hb⟩
  have K4 := Lib.hid hk4
  have HB := Lib.hid hb
  have hz := hb.size
  have HW := Lib.hid (H.out.below hb)
  have HW' := Lib.hid (H'.out.below hb)
  clear hk4 hb
  go_upto_region 4 with (first
      | (go_at_call 41; refine (CV.out _ HW.out HW'.out).mono ?_; rintro e w1 ⟨rfl, rfl⟩)
      | (go_at_call_of 42 m; refine (IR.out _).mono ?_; rintro e w2 ⟨rfl, rfl⟩)
      | (go_at_call_of 42 x; refine (IX.out _).mono ?_; rintro e w4 ⟨rfl, rfl⟩)
      | (go_at_call 43; refine (CD.out _ HW.out).mono ?_; rintro e w3 ⟨rfl, b3⟩; have z3 := b3.size)
      | (go_at_call 44; refine (CF.out _ (HW.out.below b3) (HW'.out.below b3)).mono ?_; rintro e w5 ⟨g, cap, rfl, hg, k5, b5⟩; have z5 := b5.size))
  have K5 := Lib.hid k5
  have l5 := k5.lt
  have B5 := Lib.hid (HB.out.trans ((b3.trans (b5.mono z3)).mono hz))
  have K4' := Lib.hid ((K4.out.below b3).below b5)
  clear b3 b5 k5 HW HW' HB K4 CV CD IR IX CF
  go_upto_region 5 with (go_at_call 47; refine (sfrac_as 0 1 0 rfl _ (by decide) (by decide) (by decide) (by decide) (by decide)).mono ?_; rintro e w6 ⟨rfl, b6⟩; have z6 := b6.size)
  obtain ⟨g9, hg9⟩ : ∃ g, w6.heap.size = g := ⟨_, rfl⟩
  rw [hg9]
  have l56 : g < w6.heap.size := Nat.lt_of_lt_of_le l5 z6
  refine wp_abstract (fun W => Blk W g9 31 [.int .i64 (up (0 : Rat)), .int .i64 (dn (0 : Rat))] ∧ Blk W g 31 (fc (cvL xs ys m)) ∧ Blk W w.heap.size 31 [.int .i64 0, .int .i64 0] ∧ Below w.heap.size w W) ⟨Blk.made' _ hg9.symm rfl, (K5.out.below b6).allocs _, (K4'.out.below b6).allocs _, by have := B5.out; (repeat' (first | (with_reducible exact Below.refl _ _) | (with_reducible assumption) | (with_reducible refine Below.drewN ?_ _) | (with_reducible refine Below.alloc ?_ ?_ _) | (with_reducible refine Below.drew ?_) | (with_reducible refine Below.setCell ?_ ?_ _) | (with_reducible refine Below.trans ?_ (Below.mono (by assumption) ?_)) | go_size | (with_reducible refine Nat.le_trans ?_ (Below.size (by assumption)))))⟩ ?_
  rintro w7 ⟨k9, kg, k4, b7⟩
  have K9 := Lib.hid k9
  have KG := Lib.hid kg
  have K4 := Lib.hid k4
  have B7 := Lib.hid b7
  have z7 := b7.size
  have hne : g ≠ g9 := by omega
  have hne4 : w.heap.size ≠ g9 := by have := B5.out.size; omega
  have hw9 : w.heap.size ≤ g9 := by have := B5.out.size; omega
  clear k9 kg k4 b7 b6 K5 K4' B5 z5 z6 l56 hg9 l5
  have q0 : IntKind.i64.wrap ((m : Int) - 1) = (m : Int) - 1 := IntWalk.i64_in _ (by omega)
  go_wp2_with fail
  go_loopw [10] (fun v10 wr => ∃ (j : Nat) (z : Int), v10 = .int .i64 z ∧ z + 1 + j = m ∧ j ≤ m ∧ Blk wr g9 31 [.int .i64 (up (cA xs ys x m j)), .int .i64 (dn (cA xs ys x m j))] ∧ Blk wr g 31 (fc (cvL xs ys m)) ∧ Blk wr w.heap.size 31 [.int .i64 0, .int .i64 0] ∧ Below w.heap.size w wr) (fun v10 _ => (intOf v10 + 1).toNat)
  case atStart => exact ⟨0, _, rfl, by omega, Nat.zero_le _, K9.out, KG.out, K4.out, B7.out⟩
  case round =>
    clear K9 KG K4 B7 z7 q0
    obtain ⟨j, z, rfl, hzj, hj, k9, kg, k4, b⟩ := hrel
    have K9 := Lib.hid k9
    have KG := Lib.hid kg
    have K4 := Lib.hid k4
    have B := Lib.hid b
    have zr := b.size
    have l9 := k9.lt
    clear k9 kg k4 b
    by_cases hlt : j < m
    · obtain ⟨P, hP⟩ : ∃ P, m - (j + 1) = P := ⟨_, rfl⟩
      obtain rfl : z = (P : Int) := by omega
      have st := ST.out j hlt
      have su := SU.out j hlt
      rw [hP] at st su
      have hPm : P < m := by omega
      have y1 := (H.out.below B.out).cell P (by have := HMM.out; omega)
      have hxp := HX.out P hPm
      obtain ⟨c1, c2⟩ := CL.out P hPm _ _ KG.out
      have c3 := K9.out.cell (j := 0) rfl
      have c4 := K9.out.cell (j := 1) rfl
      have f3 := K9.out.frozen 0
      have f4 := K9.out.frozen 1
      obtain ⟨X, hX⟩ : ∃ X, gi xs P = X := ⟨_, rfl⟩
      obtain ⟨f, hf⟩ : ∃ f, dd xs ys P 0 = f := ⟨_, rfl⟩
      obtain ⟨p, hp⟩ : ∃ f, cA xs ys x m j = f := ⟨_, rfl⟩
      obtain ⟨p', hp'⟩ : ∃ f, cA xs ys x m (j + 1) = f := ⟨_, rfl⟩
      rw [hX] at y1 hxp st su
      rw [hf] at c1 c2 st su
      rw [hp] at c3 c4 st su K9
      rw [hp'] at su
      obtain ⟨d, hd⟩ : ∃ d, x - X = d := ⟨_, rfl⟩
      rw [hd] at st su
      obtain ⟨t, ht⟩ : ∃ t, p * qd d 1 = t := ⟨_, rfl⟩
      obtain ⟨s1, s2, s3, s4, s5, s6, s7, s8⟩ := st
      rw [ht] at s5 s6 s7 s8 su
      have wd : IntKind.i64.wrap (x - X) = d := by rw [IntWalk.i64_in _ (by omega)]; exact hd
      have HP' := Lib.hid hp'
      obtain ⟨e, he⟩ : ∃ e, qd d 1 = e := ⟨_, rfl⟩
      have ue : up e = d := by rw [← he, up_qd]
      have de : dn e = 1 := by rw [← he, dn_qd]
      have CFR := Lib.hid (fun w => sfrac_as d 1 e he w (by omega) (by omega) (by decide) (by decide) (by decide))
      have CTM := Lib.hid (fun w => stimes_any p e t (by rw [← he]; exact ht) w (by rw [de]; omega) (by rw [ue]; exact s4))
      have CPL := Lib.hid (fun w => splus_any t f p' su.symm w s7 s8)
      clear su s1 s2 s3 s4 s5 s6 s7 s8 ue de he ht hp' hX hf hp hd hP
      obtain ⟨ι, W, hW0, hWm, hWb⟩ := good_worlds wr
      have hWn : Nonempty ι := hW0.elim fun i _ => ⟨i⟩
      have a1 : ∀ i, (W i).cell? ⟨b, o + P, none⟩ = some (.int .i64 X) := fun i => keepC (hWb i) y1
      have a2 : ∀ i, (W i).cell? ⟨g, P * 2, none⟩ = some (.int .i64 (up f)) := fun i => keepC (hWb i) c1
      have a3 : ∀ i, (W i).cell? ⟨g, P * 2 + 1, none⟩ = some (.int .i64 (dn f)) := fun i => keepC (hWb i) c2
      have a4 : ∀ i, (W i).cell? ⟨g9, 0, none⟩ = some (.int .i64 (up p)) := fun i => keepC (hWb i) c3
      have a5 : ∀ i, (W i).cell? ⟨g9, 1, none⟩ = some (.int .i64 (dn p)) := fun i => keepC (hWb i) c4
      have a6 : ∀ i, (W i).frozen? ⟨g9, 0, none⟩ = false := fun i => keepF (hWb i) l9 f3
      have a7 : ∀ i, (W i).frozen? ⟨g9, 1, none⟩ = false := fun i => keepF (hWb i) l9 f4
      have hPm2 : (P : Int) < (m : Int) := by omega
      have t0 : (0 : Int) ≤ (P : Int) := by omega
      have wP : IntKind.i64.wrap ((P : Int) - 1) = (P : Int) - 1 := IntWalk.i64_in _ (by omega)
      clear y1 c1 c2 c3 c4 f3 f4
      go_upto_region 8 with fail
      (refine region_quiet_tail (C := fun w' => ∃ i, w' = W i) 14 (by kernel_rfl) (by kernel_rfl) hW0 ?_; simp only [List.take_succ_cons, List.take_zero, List.drop_succ_cons, List.drop_zero]; (repeat (go_big_quiet_step ((first | (go_at_call 47; exact (CFR.out _).mono fun e w'' h => ⟨h.1, hWm _ _ h.2⟩) | (go_at_call 67; exact (CTM.out _).mono fun e w'' h => ⟨h.1, hWm _ _ h.2⟩) | (go_at_call 66; exact (CPL.out _).mono fun e w'' h => ⟨h.1, hWm _ _ h.2⟩))))); refine wpQuiet_nil ?_; rintro _ ⟨iw, rfl⟩)
      have hbi := Lib.hid (hWb iw)
      go_wp2_with fail
      go_roundw
      case rel => exact ⟨j + 1, (P : Int) - 1, rfl, by omega, by omega, by rw [HP'.out]; exact (K9.out.below hbi.out).two _ _, ((KG.out.below hbi.out).other _ hne.symm).other _ hne.symm, ((K4.out.below hbi.out).other _ hne4.symm).other _ hne4.symm, ((B.out.trans (hbi.out.mono zr)).setCell hw9 _).setCell hw9 _⟩
      case measure => simp [intOf]
    · obtain rfl : j = m := by omega
      obtain rfl : z = -1 := by omega
      have k9 := K9.out
      rw [HQ.out] at k9
      have d1 := k9.cell (j := 0) rfl
      have d2 := k9.cell (j := 1) rfl
      have c40 := K4.out.cell (j := 0) rfl
      have c41 := K4.out.cell (j := 1) rfl
      have f40 := K4.out.frozen 0
      have f41 := K4.out.frozen 1
      clear k9
      go_wp2_with fail
      refine bodyPost_ret (v := .tuple #[.agg #[.int .i64 (up q), .int .i64 (dn q)], .bool true]) ?_ rfl ⟨rfl, ?_⟩
      · simp [results, Try.results23, go_sem, c40, c41]
      · exact (B.out.setCell (Nat.le_refl _) _).setCell (Nat.le_refl _) _

end Go.Proofs.Ytoioafadenniiaa
