/- The law laws.FnNearLine returns true for all codes, and changes no memory that was there. -/
import Derived.Test.YtoioafadenniiaaNearLS
import Derived.Test.YtoioafadenniiaaCloudGen
namespace Go.Proofs.Ytoioafadenniiaa
open Go.RowKit

set_option maxHeartbeats 1000000 in
theorem lsize_any (p r : Rat) (hr : szR p = r) (w : World) (h1 : -4611686018427387904 ≤ up p) (h2 : up p ≤ 4611686018427387904) :
    Calls Try.prog 40 #[.agg #[.int .i64 (up p), .int .i64 (dn p)]] w fun e w' =>
      e = .returned (.agg #[.int .i64 (up r), .int .i64 (dn r)]) ∧ Below w.heap.size w w' := by
  have e1 := up_sz p
  have e2 := dn_sz p
  rw [hr] at e1 e2
  rw [e1, e2]
  clear e1 e2 hr
  generalize up p = a at *
  generalize dn p = b at *
  obtain ⟨m, hm⟩ : ∃ m, (if a < -a then -a else a) = m := ⟨_, rfl⟩
  have hx : max a (-a) = m := by rw [← hm]; split <;> omega
  rw [hm]
  go_enter Try.func40, Try.ntmps40
  go_wp2
  refine bodyPost_ret (v := .agg #[.int .i64 m, .int .i64 b]) ?_ rfl ⟨rfl, ?_⟩
  · simp [results, Try.results40, go_sem]
  · (repeat' (first | (with_reducible exact Below.refl _ _) | (with_reducible assumption) | (with_reducible refine Below.drewN ?_ _) | (with_reducible refine Below.alloc ?_ ?_ _) | (with_reducible refine Below.drew ?_) | (with_reducible refine Below.setCell ?_ ?_ _) | (with_reducible refine Below.trans ?_ (Below.mono (by assumption) ?_)) | go_size | (with_reducible refine Nat.le_trans ?_ (Below.size (by assumption)))))

/-- How many of the first lie on the line. -/
def onN (xs ys : List Int) (s h : Rat) : Nat → Nat
  | 0 => 0
  | d + 1 => if up (szR (ofR xs ys s h d)) = 0 then onN xs ys s h d + 1 else onN xs ys s h d
theorem on_le (xs ys : List Int) (s h : Rat) : ∀ d, onN xs ys s h d ≤ d
  | 0 => Nat.le_refl _
  | d + 1 => by
    have := on_le xs ys s h d
    simp only [onN]
    split <;> omega
theorem on_one {xs ys : List Int} {s h : Rat} {i : Nat} (hi : ofR xs ys s h i = 0) : ∀ d, i < d → 1 ≤ onN xs ys s h d
  | 0, hd => absurd hd (Nat.not_lt_zero _)
  | d + 1, hd => by
    simp only [onN]
    by_cases e : i = d
    · subst e
      rw [if_pos (by rw [hi, szR_zero]; rfl)]
      omega
    · have := on_one hi d (by omega)
      split <;> omega
theorem on_two {xs ys : List Int} {s h : Rat} {i k : Nat} (hi : ofR xs ys s h i = 0) (hk : ofR xs ys s h k = 0) (hik : i < k) : ∀ d, k < d → 2 ≤ onN xs ys s h d
  | 0, hd => absurd hd (Nat.not_lt_zero _)
  | d + 1, hd => by
    simp only [onN]
    by_cases e : k = d
    · subst e
      have := on_one hi k hik
      rw [if_pos (by rw [hk, szR_zero]; rfl)]
      omega
    · have := on_two hi hk hik d (by omega)
      split <;> omega

/-- What both calls return. -/
theorem near_as (g1 c1 g2 c2 : Nat) (xs ys : List Int) (ok : Bool) (hm : xs.length ≤ 1099511627776) (hm' : ys.length ≤ 1099511627776) (hok : clB xs ys = ok) :
    ∃ U1 D1 U2 D2 U3 D3 : Int, (∀ w, RowI w g1 0 xs → RowI w g2 0 ys → Calls Try.prog 38 #[.slice (some ⟨g1, 0, none⟩) xs.length c1, .slice (some ⟨g2, 0, none⟩) ys.length c2] w
      fun e w' => e = .returned (.tuple #[.agg #[.int .i64 U1, .int .i64 D1], .agg #[.int .i64 U2, .int .i64 D2], .agg #[.int .i64 U3, .int .i64 D3], .bool ok]) ∧ Below w.heap.size w w') ∧
    (∀ w, RowI w g1 0 xs → RowI w g2 0 ys → Calls Try.prog 39 #[.slice (some ⟨g1, 0, none⟩) xs.length c1, .slice (some ⟨g2, 0, none⟩) ys.length c2] w
      fun e w' => e = .returned (.tuple #[.agg #[.int .i64 U1, .int .i64 D1], .agg #[.int .i64 U2, .int .i64 D2], .agg #[.int .i64 U3, .int .i64 D3], .bool ok]) ∧ Below w.heap.size w w') ∧
    (ok = true → ∃ i k, NPair xs i k ∧ (∀ a b, NPair xs a b → nfR xs ys i k ≤ nfR xs ys a b) ∧ U1 = up (slR xs ys i k) ∧ D1 = dn (slR xs ys i k) ∧ U2 = up (nhR xs ys i k) ∧ D2 = dn (nhR xs ys i k) ∧ U3 = up (nfR xs ys i k) ∧ D3 = dn (nfR xs ys i k)) := by
  cases ok with
  | false => exact ⟨0, 0, 0, 0, 0, 0, fun w h h' => near_no g1 0 c1 g2 0 c2 xs ys w h h' hm hm' hok, fun w h h' => snear_no g1 0 c1 g2 0 c2 xs ys w h h' hm hm' hok, fun h => Bool.noConfusion h⟩
  | true =>
    obtain ⟨i, k, hp, hpair, hle⟩ := nl_all (ys := ys) (cl_of hok)
    exact ⟨_, _, _, _, _, _, fun w h h' => near_yes g1 0 c1 g2 0 c2 xs ys w (i, k) h h' (cl_of hok) hok hp, fun w h h' => snear_yes g1 0 c1 g2 0 c2 xs ys w (i, k) h h' (cl_of hok) hok hp, fun _ => ⟨i, k, hpair, hle, rfl, rfl, rfl, rfl, rfl, rfl⟩⟩

set_option maxHeartbeats 16000000 in
set_option maxRecDepth 100000 in
theorem FnNearLine_main (ad : Option Addr) (n c : Nat) (w : World) (h : CodeB w w.heap.size ad n) (hn : n ≤ 1048576) (hc : n ≤ c) :
    Calls Try.prog 9 #[.slice ad n c] w fun e w' => e = .returned (.bool true) ∧ Below w.heap.size w w' := by
  have H := Lib.hid h
  clear h
  go_enter Try.func9, Try.ntmps9
  go_wp2_with fail
  refine (drawNearLine_any ad n c w H.out (by omega) hc).mono ?_
  rintro e w2 ⟨g1, c1, g2, c2, xs, ys, rfl, k1, k2, r1, r2, l1, l2, hb2⟩
  have R1 := Lib.hid r1
  have R2 := Lib.hid r2
  have z2 := hb2.size
  obtain ⟨ok, hok⟩ : ∃ A, clB xs ys = A := ⟨_, rfl⟩
  obtain ⟨U1, D1, U2, D2, U3, D3, ci, cs, ht⟩ := near_as g1 c1 g2 c2 xs ys ok (by omega) (by omega) hok
  have CI := Lib.hid ci
  have CS := Lib.hid cs
  have HT := Lib.hid ht
  have HOK := Lib.hid hok
  clear r1 r2 ci cs ht hok
  go_upto_region 5 with (go_at_call 38; refine (CI.out _ R1.out R2.out).mono ?_; rintro e w3 ⟨rfl, b3⟩)
  obtain ⟨g5, hg5⟩ : ∃ g, w3.heap.size = g := ⟨_, rfl⟩
  rw [hg5]
  have z3 := b3.size
  refine wp_abstract (fun W => Blk W g5 31 [.int .i64 U1, .int .i64 D1] ∧ Blk W (g5 + 1) 31 [.int .i64 U2, .int .i64 D2] ∧ Blk W (g5 + 1 + 1) 31 [.int .i64 U3, .int .i64 D3] ∧ Below w2.heap.size w2 W) ⟨?_, ?_, ?_, by (repeat' (first | (with_reducible exact Below.refl _ _) | (with_reducible assumption) | (with_reducible refine Below.drewN ?_ _) | (with_reducible refine Below.alloc ?_ ?_ _) | (with_reducible refine Below.drew ?_) | (with_reducible refine Below.setCell ?_ ?_ _) | (with_reducible refine Below.trans ?_ (Below.mono (by assumption) ?_)) | go_size | (with_reducible refine Nat.le_trans ?_ (Below.size (by assumption)))))⟩ ?_
  · subst hg5
    exact ((Blk.made' _ rfl rfl).allocs _).allocs _
  · subst hg5
    exact (Blk.made' _ (by simp) rfl).allocs _
  · subst hg5
    exact Blk.made' _ (by simp) rfl
  rintro w4 ⟨k5, k6, k7, b4⟩
  have hg5w : w.heap.size ≤ g5 := by omega
  have R1 := Lib.hid (R1.out.below b4)
  have R2 := Lib.hid (R2.out.below b4)
  have K5 := Lib.hid k5
  have K6 := Lib.hid k6
  have K7 := Lib.hid k7
  have B4 := Lib.hid (hb2.trans (b4.mono z2))
  have z4 := b4.size
  clear k5 k6 k7 b4 b3 hb2 hg5 z3
  go_upto_region 6 with (go_at_call 39; refine (CS.out _ R1.out R2.out).mono ?_; rintro e w5 ⟨rfl, b5⟩)
  obtain ⟨g8, hg8⟩ : ∃ g, w5.heap.size = g := ⟨_, rfl⟩
  rw [hg8]
  have z5 := b5.size
  refine wp_abstract (fun W => Blk W g8 31 [.int .i64 U1, .int .i64 D1] ∧ Blk W (g8 + 1) 31 [.int .i64 U2, .int .i64 D2] ∧ Blk W (g8 + 1 + 1) 31 [.int .i64 U3, .int .i64 D3] ∧ Below w4.heap.size w4 W) ⟨?_, ?_, ?_, by (repeat' (first | (with_reducible exact Below.refl _ _) | (with_reducible assumption) | (with_reducible refine Below.drewN ?_ _) | (with_reducible refine Below.alloc ?_ ?_ _) | (with_reducible refine Below.drew ?_) | (with_reducible refine Below.setCell ?_ ?_ _) | (with_reducible refine Below.trans ?_ (Below.mono (by assumption) ?_)) | go_size | (with_reducible refine Nat.le_trans ?_ (Below.size (by assumption)))))⟩ ?_
  · subst hg8
    exact ((Blk.made' _ rfl rfl).allocs _).allocs _
  · subst hg8
    exact (Blk.made' _ (by simp) rfl).allocs _
  · subst hg8
    exact Blk.made' _ (by simp) rfl
  rintro w6 ⟨k8, k9, k10, b6⟩
  have z6 := b6.size
  have R1 := Lib.hid (R1.out.below b6)
  have R2 := Lib.hid (R2.out.below b6)
  have K5 := Lib.hid (K5.out.below b6)
  have K6 := Lib.hid (K6.out.below b6)
  have K7 := Lib.hid (K7.out.below b6)
  have B6 := Lib.hid (B4.out.trans (b6.mono (by omega)))
  have x1 := K5.out.cell (j := 0) rfl
  have x2 := K5.out.cell (j := 1) rfl
  have x3 := K6.out.cell (j := 0) rfl
  have x4 := K6.out.cell (j := 1) rfl
  have x5 := K7.out.cell (j := 0) rfl
  have x6 := K7.out.cell (j := 1) rfl
  have y1 := k8.cell (j := 0) rfl
  have y2 := k8.cell (j := 1) rfl
  have y3 := k9.cell (j := 0) rfl
  have y4 := k9.cell (j := 1) rfl
  have y5 := k10.cell (j := 0) rfl
  have y6 := k10.cell (j := 1) rfl
  clear k8 k9 k10 b6 b5 hg8 z5 B4
  cases ok with
  | false =>
    go_wp2_with fail
    go_ret
    exact ⟨rfl, B6.out⟩
  | true =>
    have hcl := cl_of HOK.out
    obtain ⟨i0, k0, hpair, hleast, rfl, rfl, rfl, rfl, rfl, rfl⟩ := HT.out rfl
    have hn7 := hcl.pl.nm
    have n0 := hcl.pl.n0
    have bd := nl_bd hcl.pl (i := i0) (k := k0) (by have := hpair.1; have := hpair.2.1; omega) hpair.2.1 hpair.2.2
    have hon := on_two (of_left xs ys i0 k0) (of_right (ys := ys) hpair.2.2) hpair.1 xs.length hpair.2.1
    have hle : ¬ nsR xs ys (lnA xs ys) (lnB xs ys) xs.length < nfR xs ys i0 k0 := by
      obtain ⟨a, b, hab, hl⟩ := near_least hcl (lnA xs ys) (lnB xs ys)
      have := hleast a b hab
      grind
    have CQ := Lib.hid (fun w h h' => squareLine_yes g1 0 c1 g2 0 c2 xs ys w _ _ h h' hcl HOK.out rfl rfl)
    obtain ⟨sl, hsl⟩ : ∃ q, slR xs ys i0 k0 = q := ⟨_, rfl⟩
    obtain ⟨ht, hht⟩ : ∃ q, nhR xs ys i0 k0 = q := ⟨_, rfl⟩
    obtain ⟨A, hA⟩ : ∃ q, lnA xs ys = q := ⟨_, rfl⟩
    obtain ⟨B, hB⟩ : ∃ q, lnB xs ys = q := ⟨_, rfl⟩
    obtain ⟨F, hF⟩ : ∃ f, f = nsR xs ys sl ht := ⟨_, rfl⟩
    obtain ⟨G, hG⟩ : ∃ f, f = nsR xs ys A B := ⟨_, rfl⟩
    have hFE : nfR xs ys i0 k0 = F xs.length := by rw [hF, ← hsl, ← hht]; rfl
    obtain ⟨b1, b2, b3, b4, b5, b6⟩ := bd
    rw [hsl] at b1 b2 b4 b5 b6 hon
    rw [hht] at b3 b4 b5 b6 hon
    rw [hFE, hA, hB, ← hG] at hle
    rw [hA, hB] at CQ
    have hd1 := (ln_bd hcl).d1
    have hd2 := (ln_bd hcl).d2
    have E0 : 0 < lnD xs * (xs.length : Int) := Int.mul_pos (by omega) (by omega)
    have E1 : lnD xs * (xs.length : Int) ≤ 49392 := Int.le_trans (Int.mul_le_mul hd2 (show (xs.length : Int) ≤ 7 by omega) (by omega) (by omega)) (by omega)
    have sA : Sm 14112 7056 A := (ln_sm hcl hA rfl rfl rfl).a
    have sB : Sm 1778112 49392 B := (ln_sm hcl hA rfl rfl (by have e := hB; unfold lnB at e; rw [hA] at e; exact e)).b
    obtain ⟨m, hm⟩ : ∃ m, xs.length = m := ⟨_, rfl⟩
    have hm' : ys.length = m := by rw [← hm]; exact hcl.pl.ne
    have BG : ∀ k, k ≤ m → Sm 24893568 49392 (G k) := fun k hk => by
      have := Pt.rsum (E := lnD xs * (xs.length : Int)) (K := 3556224) (f := fun j => szR (ofR xs ys A B j)) (by omega) k fun j hj => by
        have d := (dv_bd hcl j (by omega)).d
        unfold dvR at d
        rw [hA, hB] at d
        exact d.size
      rw [hG]
      exact (this.mono (L := 24893568) (by omega)).sm E0 E1
    have BF : ∀ k, k ≤ m → Sm 8064 24 (F k) := fun k hk => by rw [hF]; exact b6 k (by omega)
    have BD := Lib.hid (fun k (hk : k < m) => let d := (dv_bd hcl k (by omega)); (⟨hA ▸ d.t, hA ▸ hB ▸ d.s, by have e := d.d.sm E0 E1; unfold dvR at e; rw [hA, hB] at e; exact e⟩ : Sm 169344 7056 (A * qd (gi xs k) 1) ∧ Sm 2963520 49392 (A * qd (gi xs k) 1 + B) ∧ Sm 3556224 49392 (ofR xs ys A B k)))
    have BN := Lib.hid (fun k (hk : k < m) => (⟨b2 k (by omega), b4 k (by omega), b5 k (by omega)⟩ : Sm 288 24 (sl * qd (gi xs k) 1) ∧ Sm 864 24 (sl * qd (gi xs k) 1 + ht) ∧ Sm 1152 24 (ofR xs ys sl ht k)))
    have FS := Lib.hid (fun j => show F j + szR (ofR xs ys sl ht j) = F (j + 1) by rw [hF]; rfl)
    have GS := Lib.hid (fun j => show G j + szR (ofR xs ys A B j) = G (j + 1) by rw [hG]; rfl)
    have F0 := Lib.hid (show F 0 = 0 by rw [hF]; rfl)
    have G0 := Lib.hid (show G 0 = 0 by rw [hG]; rfl)
    have hlm := sm_mul (BG m (by omega)) (BF m (by omega))
    have LW := Lib.hid (fun w => lless_any (G m) (F m) w (by omega))
    have DL := Lib.hid (show decide (G m < F m) = false by rw [hm] at hle; exact decide_eq_false hle)
    rw [DL.out] at LW
    have BF := Lib.hid BF
    have BG := Lib.hid BG
    have SA := Lib.hid sA
    have SB := Lib.hid sB
    have S1 := Lib.hid b1
    have S3 := Lib.hid b3
    have PX := Lib.hid (fun k (hk : k < m) => hcl.pl.x k (by omega))
    have PY := Lib.hid (fun k (hk : k < m) => hcl.pl.y k (by omega))
    have CX := Lib.hid (fun k (hk : k < m) w (h : RowI w g1 0 xs) => h.cell k (by omega))
    have CY := Lib.hid (fun k (hk : k < m) w (h : RowI w g2 0 ys) => h.cell k (by omega))
    have Z0 := Lib.hid (fun w => lfrac_as 0 1 0 (by unfold qd; simp) w (by omega) (by omega) (by omega) (by omega) (by omega))
    have m7 : m ≤ 7 := by omega
    rw [hm] at hon hFE
    rw [hsl] at x1 x2 y1 y2 K5
    rw [hht] at x3 x4 y3 y4 K6
    rw [hFE] at x5 x6 y5 y6 K7
    have OL := Lib.hid (fun k => on_le xs ys sl ht k)
    obtain ⟨on, hOn⟩ : ∃ f, f = onN xs ys sl ht := ⟨_, rfl⟩
    rw [← hOn] at hon OL
    have ON := Lib.hid hon
    have OS := Lib.hid (fun j => show on (j + 1) = if up (szR (ofR xs ys sl ht j)) = 0 then on j + 1 else on j by rw [hOn]; rfl)
    have O0 := Lib.hid (show on 0 = 0 by rw [hOn]; rfl)
    rw [hm, hm'] at CQ ⊢
    clear hcl hpair hleast hn7 n0 hon hle hsl hht hA hB hF hG hFE b1 b2 b3 b4 b5 b6 hd1 hd2 E0 E1 sA sB hm hm' hlm hOn HOK HT l1 l2
    go_upto_region 8 with fail
    clear y1 y2 y3 y4 y5 y6 x1 x2 x3 x4 x5 x6
    go_upto_region 9 with (go_at_call 26; refine (CQ.out _ R1.out R2.out).mono ?_; rintro e w7 ⟨rfl, b7⟩)
    obtain ⟨g13, hg13⟩ : ∃ g, w7.heap.size = g := ⟨_, rfl⟩
    rw [hg13]
    have z7 := b7.size
    refine wp_abstract (fun W => Blk W g13 31 [.int .i64 (up A), .int .i64 (dn A)] ∧ Blk W (g13 + 1) 31 [.int .i64 (up B), .int .i64 (dn B)] ∧ Below w6.heap.size w6 W) ⟨?_, ?_, by (repeat' (first | (with_reducible exact Below.refl _ _) | (with_reducible assumption) | (with_reducible refine Below.drewN ?_ _) | (with_reducible refine Below.alloc ?_ ?_ _) | (with_reducible refine Below.drew ?_) | (with_reducible refine Below.setCell ?_ ?_ _) | (with_reducible refine Below.trans ?_ (Below.mono (by assumption) ?_)) | go_size | (with_reducible refine Nat.le_trans ?_ (Below.size (by assumption)))))⟩ ?_
    · subst hg13
      exact (Blk.made' _ rfl rfl).allocs _
    · subst hg13
      exact Blk.made' _ (by simp) rfl
    rintro w8 ⟨k13, k14, b8⟩
    have z8 := b8.size
    have R1 := Lib.hid (R1.out.below b8)
    have R2 := Lib.hid (R2.out.below b8)
    have K5 := Lib.hid (K5.out.below b8)
    have K6 := Lib.hid (K6.out.below b8)
    have K7 := Lib.hid (K7.out.below b8)
    have K13 := Lib.hid k13
    have K14 := Lib.hid k14
    have B8 := Lib.hid (B6.out.trans (b8.mono (by omega)))
    clear hg13 k13 k14 b7 b8 B6 z7
    go_upto_region 10 with (go_at_call 28; refine (Z0.out _).mono ?_; rintro e w7 ⟨rfl, b7⟩)
    obtain ⟨g16, hg16⟩ : ∃ g, w7.heap.size = g := ⟨_, rfl⟩
    rw [hg16]
    have z7 := b7.size
    refine wp_abstract (fun W => Blk W g16 31 [.int .i64 (up 0), .int .i64 (dn 0)] ∧ Below w8.heap.size w8 W) ⟨Blk.made' _ hg16.symm rfl, by (repeat' (first | (with_reducible exact Below.refl _ _) | (with_reducible assumption) | (with_reducible refine Below.drewN ?_ _) | (with_reducible refine Below.alloc ?_ ?_ _) | (with_reducible refine Below.drew ?_) | (with_reducible refine Below.setCell ?_ ?_ _) | (with_reducible refine Below.trans ?_ (Below.mono (by assumption) ?_)) | go_size | (with_reducible refine Nat.le_trans ?_ (Below.size (by assumption)))))⟩ ?_
    rintro w9 ⟨k16, b9⟩
    have z9 := b9.size
    have l16 := k16.lt
    have K16 := Lib.hid k16
    have B9 := Lib.hid b9
    have z16 : w8.heap.size ≤ g16 := by omega
    clear hg16 k16 b9 b7 z7
    go_upto_region 11 with (go_at_call 28; refine (Z0.out _).mono ?_; rintro e w7 ⟨rfl, b7⟩)
    obtain ⟨g17, hg17⟩ : ∃ g, w7.heap.size = g := ⟨_, rfl⟩
    rw [hg17]
    have z7 := b7.size
    refine wp_abstract (fun W => Blk W g17 31 [.int .i64 (up 0), .int .i64 (dn 0)] ∧ Below w9.heap.size w9 W) ⟨Blk.made' _ hg17.symm rfl, by (repeat' (first | (with_reducible exact Below.refl _ _) | (with_reducible assumption) | (with_reducible refine Below.drewN ?_ _) | (with_reducible refine Below.alloc ?_ ?_ _) | (with_reducible refine Below.drew ?_) | (with_reducible refine Below.setCell ?_ ?_ _) | (with_reducible refine Below.trans ?_ (Below.mono (by assumption) ?_)) | go_size | (with_reducible refine Nat.le_trans ?_ (Below.size (by assumption)))))⟩ ?_
    rintro w10 ⟨k17, b10⟩
    have z10 := b10.size
    have K17 := Lib.hid k17
    have K16 := Lib.hid (K16.out.below b10)
    have B10 := Lib.hid (B9.out.trans (b10.mono z9))
    have z17 : g16 < g17 := by omega
    clear hg17 k17 b10 b7 z7 B9 l16
    have R10 := R1
    have R20 := R2
    have K130 := K13
    have K140 := K14
    go_wp2_with fail
    go_loopw [18, 19] (fun v18 v19 wr => ∃ k : Nat, k ≤ m ∧ v19 = .int .i64 k ∧ v18 = .int .i64 (on k) ∧ Blk wr g16 31 [.int .i64 (up (F k)), .int .i64 (dn (F k))] ∧ Blk wr g17 31 [.int .i64 (up (G k)), .int .i64 (dn (G k))] ∧ Below w8.heap.size w8 wr) (fun _ v19 _ => m - (intOf v19).toNat)
    case atStart => exact ⟨0, Nat.zero_le _, rfl, by rw [O0.out]; rfl, by rw [F0.out]; exact K16.out, by rw [G0.out]; exact K17.out, B10.out⟩
    case round =>
      clear K16 K17 B10 z10 z9
      obtain ⟨k, hk, rfl, rfl, k16, k17, br⟩ := hrel
      have K16 := Lib.hid k16
      have K17 := Lib.hid k17
      have BR := Lib.hid br
      have zr := br.size
      have l16 := k16.lt
      have l17 := k17.lt
      clear k16 k17 br
      have ol := OL.out k
      by_cases hlt : k < m
      · have R1 := Lib.hid (R1.out.below BR.out)
        have R2 := Lib.hid (R2.out.below BR.out)
        have K5 := Lib.hid (K5.out.below BR.out)
        have K6 := Lib.hid (K6.out.below BR.out)
        have K13 := Lib.hid (K13.out.below BR.out)
        have K14 := Lib.hid (K14.out.below BR.out)
        have c1 := CX.out k hlt _ R1.out
        have c2 := CY.out k hlt _ R2.out
        rw [Nat.zero_add] at c1 c2
        have bx := PX.out k hlt
        have by' := PY.out k hlt
        have d1 := BN.out k hlt
        have d2 := BD.out k hlt
        have ef := FS.out k
        have eg := GS.out k
        have eo := OS.out k
        have sf := BF.out k hk
        have sg := BG.out k hk
        obtain ⟨x, hx⟩ : ∃ x, gi xs k = x := ⟨_, rfl⟩
        obtain ⟨y, hy⟩ : ∃ x, gi ys k = x := ⟨_, rfl⟩
        have HX := Lib.hid hx
        have HY := Lib.hid hy
        rw [hx] at c1 bx d1 d2
        rw [hy] at c2 by'
        obtain ⟨u1, hu1⟩ : ∃ q, ofR xs ys sl ht k = q := ⟨_, rfl⟩
        obtain ⟨u2, hu2⟩ : ∃ q, ofR xs ys A B k = q := ⟨_, rfl⟩
        rw [hu1] at d1 ef eo
        rw [hu2] at d2 eg
        have e1 : qd y 1 - (sl * qd x 1 + ht) = u1 := by rw [← hu1, ← hx, ← hy]; rfl
        have e2 : qd y 1 - (A * qd x 1 + B) = u2 := by rw [← hu2, ← hx, ← hy]; rfl
        obtain ⟨s1, hs1⟩ : ∃ q, szR u1 = q := ⟨_, rfl⟩
        obtain ⟨s2, hs2⟩ : ∃ q, szR u2 = q := ⟨_, rfl⟩
        rw [hs1] at ef eo
        rw [hs2] at eg
        have ss1 : Sm 1152 24 s1 := hs1 ▸ sm_sz d1.2.2
        have ss2 : Sm 3556224 49392 s2 := hs2 ▸ sm_sz d2.2.2
        obtain ⟨f, hf⟩ : ∃ q, F k = q := ⟨_, rfl⟩
        obtain ⟨f', hf'⟩ : ∃ q, F (k + 1) = q := ⟨_, rfl⟩
        obtain ⟨g, hg⟩ : ∃ q, G k = q := ⟨_, rfl⟩
        obtain ⟨g', hg'⟩ : ∃ q, G (k + 1) = q := ⟨_, rfl⟩
        rw [hf] at sf ef K16
        rw [hf'] at ef
        rw [hg] at sg eg K17
        rw [hg'] at eg
        have HF' := Lib.hid hf'
        have HG' := Lib.hid hg'
        have sqx : Sm 12 1 (qd x 1) := sm_int bx.1 bx.2
        have sqy : Sm 12 1 (qd y 1) := sm_int by'.1 by'.2
        have t1 := sm_mul S1.out sqx
        have t1' := mul_bd (x := up sl) (y := up (qd x 1)) (A := 24) (B := 12) ⟨S1.out.1, S1.out.2.1⟩ ⟨sqx.1, sqx.2.1⟩
        have t2 := sm_mul d1.1 S3.out
        have t3 := sm_mul sqy d1.2.1
        have t4 := d1.2.1
        have t5 := sm_mul SA.out sqx
        have t5' := mul_bd (x := up A) (y := up (qd x 1)) (A := 14112) (B := 12) ⟨SA.out.1, SA.out.2.1⟩ ⟨sqx.1, sqx.2.1⟩
        have t6 := sm_mul d2.1 SB.out
        have t7 := sm_mul sqy d2.2.1
        have t8 := d2.2.1
        have t9 := sm_mul sf ss1
        have t10 := sm_mul sg ss2
        have OW1 := Lib.hid (fun w => overOf_any x y sl ht _ _ u1 w bx by' rfl rfl e1 (by omega) (by omega) (by omega) (by unfold Sm at t4; omega))
        have OW2 := Lib.hid (fun w => overOf_any x y A B _ _ u2 w bx by' rfl rfl e2 (by omega) (by omega) (by omega) (by unfold Sm at t8; omega))
        have Z1 := Lib.hid (fun w => lsize_any u1 s1 hs1 w (by have := d1.2.2.1; omega) (by have := d1.2.2.2.1; omega))
        have Z2 := Lib.hid (fun w => lsize_any u2 s2 hs2 w (by have := d2.2.2.1; omega) (by have := d2.2.2.2.1; omega))
        have P1 := Lib.hid (fun w => lplus_any f s1 f' ef w (by omega) (by omega))
        have P2 := Lib.hid (fun w => lplus_any g s2 g' eg w (by omega) (by omega))
        have EO := Lib.hid eo
        have y1 := K5.out.cell (j := 0) rfl
        have y2 := K5.out.cell (j := 1) rfl
        have y3 := K6.out.cell (j := 0) rfl
        have y4 := K6.out.cell (j := 1) rfl
        clear eo ef eg d1 d2 sf sg e1 e2 hs1 hs2 ss1 ss2 hf hf' hg hg' sqx sqy t1 t1' t2 t3 t4 t5 t5' t6 t7 t8 t9 t10 hu1 hu2 hx hy bx by'
        go_upto_region 15 with fail
        (refine region_box_tail 12 (by kernel_rfl) (by kernel_rfl) rfl allocF ?_; intro WB gB hWB hgB; obtain ⟨ι, W, hCW, hWn, hWm, hWb⟩ := cl_worlds WB; rw [hCW])
        have v1 : ∀ i, (W i).cell? ⟨g1, k, none⟩ = some (.int .i64 x) := fun i => keepC (hWb i) (keepC hWB c1)
        have v2 : ∀ i, (W i).cell? ⟨g2, k, none⟩ = some (.int .i64 y) := fun i => keepC (hWb i) (keepC hWB c2)
        have v3 : ∀ i, (W i).cell? ⟨g5, 0, none⟩ = some (.int .i64 (up sl)) := fun i => keepC (hWb i) (keepC hWB y1)
        have v4 : ∀ i, (W i).cell? ⟨g5, 1, none⟩ = some (.int .i64 (dn sl)) := fun i => keepC (hWb i) (keepC hWB y2)
        have v5 : ∀ i, (W i).cell? ⟨g5 + 1, 0, none⟩ = some (.int .i64 (up ht)) := fun i => keepC (hWb i) (keepC hWB y3)
        have v6 : ∀ i, (W i).cell? ⟨g5 + 1, 1, none⟩ = some (.int .i64 (dn ht)) := fun i => keepC (hWb i) (keepC hWB y4)
        (simp only [Act.put, List.setIfInBounds_toArray, List.set_cons_zero, List.set_cons_succ, List.take_succ_cons, List.take_zero]; (repeat (go_big_quiet_step (first
          | (go_at_call 29; exact (OW1.out _).mono fun e w'' h => ⟨h.1, hWm _ _ h.2⟩)
          | (go_at_call 40; exact (Z1.out _).mono fun e w'' h => ⟨h.1, hWm _ _ h.2⟩)))); refine wpQuiet_nil ?_; rintro _ ⟨iw, rfl⟩ hkB)
        have a0 := hkB.cell (j := 0) rfl
        have a1 := hkB.cell (j := 1) rfl
        have a2 := hkB.frozen 0
        have a3 := hkB.frozen 1
        have lB := hkB.lt
        go_upto_region 16 with fail
        have hbW := hWB.trans ((hWb iw).mono hWB.size)
        refine wp_abstract (fun W => Blk W gB 31 [.int .i64 (up s1), .int .i64 (dn s1)] ∧ Below wr.heap.size wr W)
          ⟨hkB.two (x := .int .i64 0) (y := .int .i64 0) _ _, (hbW.setCell (by show wr.heap.size ≤ gB; exact hgB) _).setCell (by show wr.heap.size ≤ gB; exact hgB) _⟩ ?_
        rintro w9 ⟨k20, b9⟩
        have z9 := b9.size
        have K20 := Lib.hid k20
        have K16 := Lib.hid (K16.out.below b9)
        have K17 := Lib.hid (K17.out.below b9)
        have K13 := Lib.hid (K13.out.below b9)
        have K14 := Lib.hid (K14.out.below b9)
        have c1 := keepC b9 c1
        have c2 := keepC b9 c2
        have B9 := Lib.hid (BR.out.trans (b9.mono zr))
        clear hkB a0 a1 a2 a3 lB hbW hWB v1 v2 v3 v4 v5 v6 hWb hWm hCW hWn k20 b9 y1 y2 y3 y4
        clear iw W
        have s1' := K16.out.cell (j := 0) rfl
        have s2' := K16.out.cell (j := 1) rfl
        have s3' := K20.out.cell (j := 0) rfl
        have s4' := K20.out.cell (j := 1) rfl
        have l20 := K20.out.lt
        go_upto_region 17 with (go_at_call 30; refine (P1.out _).mono ?_; rintro e w10 ⟨rfl, b10⟩; have q16 := K16.out.below b10; have q1 := q16.cell (j := 0) rfl; have q2 := q16.cell (j := 1) rfl; have q3 := q16.frozen 0; have q4 := q16.frozen 1)
        have n1 : g16 ≠ g17 := by omega
        have n2 : g16 ≠ gB := by omega
        have n3 : g17 ≠ gB := by omega
        refine wp_abstract (fun W => Blk W g16 31 [.int .i64 (up f'), .int .i64 (dn f')] ∧ Blk W g17 31 [.int .i64 (up g), .int .i64 (dn g)] ∧ Blk W gB 31 [.int .i64 (up s1), .int .i64 (dn s1)] ∧ Below w8.heap.size w8 W)
          ⟨q16.two (x := .int .i64 (up f)) (y := .int .i64 (dn f)) _ _, ((K17.out.below b10).others n1).others n1, ((K20.out.below b10).others n2).others n2, ((B9.out.trans (b10.mono B9.out.size)).setCell (by show w8.heap.size ≤ g16; exact z16) _).setCell (by show w8.heap.size ≤ g16; exact z16) _⟩ ?_
        rintro w11 ⟨k16, k17, k20, b11⟩
        have z11 := b11.size
        have K16 := Lib.hid k16
        have K20 := Lib.hid k20
        have B11 := Lib.hid b11
        have c1 := CX.out k hlt _ (R10.out.below b11)
        have c2 := CY.out k hlt _ (R20.out.below b11)
        rw [Nat.zero_add, HX.out] at c1
        rw [Nat.zero_add, HY.out] at c2
        have k13 := K130.out.below b11
        have k14 := K140.out.below b11
        have z1' : w8.heap.size ≤ g17 := by omega
        clear q16 q1 q2 q3 q4 b10 s1' s2' s3' s4' k16 k20 b11 l20 K17
        obtain ⟨ι', W, hW0, hWm, hWb⟩ := good_worlds w11
        have hWn : Nonempty ι' := hW0.elim fun i _ => ⟨i⟩
        have v1 : ∀ i, (W i).cell? ⟨g1, k, none⟩ = some (.int .i64 x) := fun i => keepC (hWb i) c1
        have v2 : ∀ i, (W i).cell? ⟨g2, k, none⟩ = some (.int .i64 y) := fun i => keepC (hWb i) c2
        have v3 : ∀ i, (W i).cell? ⟨g13, 0, none⟩ = some (.int .i64 (up A)) := fun i => (k13.below (hWb i)).cell (j := 0) rfl
        have v4 : ∀ i, (W i).cell? ⟨g13, 1, none⟩ = some (.int .i64 (dn A)) := fun i => (k13.below (hWb i)).cell (j := 1) rfl
        have v5 : ∀ i, (W i).cell? ⟨g13 + 1, 0, none⟩ = some (.int .i64 (up B)) := fun i => (k14.below (hWb i)).cell (j := 0) rfl
        have v6 : ∀ i, (W i).cell? ⟨g13 + 1, 1, none⟩ = some (.int .i64 (dn B)) := fun i => (k14.below (hWb i)).cell (j := 1) rfl
        have KK17 := Lib.hid (fun i => k17.below (hWb i))
        have v7 : ∀ i, (W i).cell? ⟨g17, 0, none⟩ = some (.int .i64 (up g)) := fun i => (KK17.out i).cell (j := 0) rfl
        have v8 : ∀ i, (W i).cell? ⟨g17, 1, none⟩ = some (.int .i64 (dn g)) := fun i => (KK17.out i).cell (j := 1) rfl
        have v9 : ∀ i, (W i).frozen? ⟨g17, 0, none⟩ = false := fun i => (KK17.out i).frozen 0
        have v10 : ∀ i, (W i).frozen? ⟨g17, 1, none⟩ = false := fun i => (KK17.out i).frozen 1
        clear k13 k14 k17 c1 c2
        (refine region_quiet_tail (C := fun w' => ∃ i, w' = W i) 14 (by kernel_rfl) (by kernel_rfl) hW0 ?_; simp only [List.take_succ_cons, List.take_zero, List.drop_succ_cons, List.drop_zero]; (repeat (go_big_quiet_step (first
          | (go_at_call 29; exact (OW2.out _).mono fun e w'' h => ⟨h.1, hWm _ _ h.2⟩)
          | (go_at_call 40; exact (Z2.out _).mono fun e w'' h => ⟨h.1, hWm _ _ h.2⟩)
          | (go_at_call 30; exact (P2.out _).mono fun e w'' h => ⟨h.1, hWm _ _ h.2⟩)))); refine wpQuiet_nil ?_; rintro _ ⟨iw, rfl⟩)
        go_upto_region 18 with fail
        refine wp_abstract (fun W => Blk W g16 31 [.int .i64 (up f'), .int .i64 (dn f')] ∧ Blk W g17 31 [.int .i64 (up g'), .int .i64 (dn g')] ∧ Blk W gB 31 [.int .i64 (up s1), .int .i64 (dn s1)] ∧ Below w8.heap.size w8 W)
          ⟨((K16.out.below (hWb iw)).others (Ne.symm n1)).others (Ne.symm n1), (KK17.out iw).two (x := .int .i64 (up g)) (y := .int .i64 (dn g)) _ _, ((K20.out.below (hWb iw)).others n3).others n3, ((B11.out.trans ((hWb iw).mono z11)).setCell (by show w8.heap.size ≤ g17; exact z1') _).setCell (by show w8.heap.size ≤ g17; exact z1') _⟩ ?_
        rintro w12 ⟨k16, k17, k20, b12⟩
        have e1 := k20.cell (j := 0) rfl
        have K16 := Lib.hid k16
        have K17 := Lib.hid k17
        have B12 := Lib.hid b12
        clear v1 v2 v3 v4 v5 v6 v7 v8 v9 v10 hWb hWm hWn KK17 K20 k16 k17 k20 b12
        by_cases hs : up s1 = 0
        · have t1 : (up s1 == 0) = true := by simp [hs]
          have EO := Lib.hid (show on (k + 1) = on k + 1 by rw [EO.out, if_pos hs])
          clear hs
          go_wp2_with fail
          go_roundw
          case rel => exact ⟨k + 1, by omega, by go_num, by rw [EO.out]; go_num, by rw [HF'.out]; exact K16.out, by rw [HG'.out]; exact K17.out, B12.out⟩
          case measure => simp [intOf]; omega
        · have t1 : (up s1 == 0) = false := by simpa using hs
          have EO := Lib.hid (show on (k + 1) = on k by rw [EO.out, if_neg hs])
          clear hs
          go_wp2_with fail
          go_roundw
          case rel => exact ⟨k + 1, by omega, by go_num, by rw [EO.out], by rw [HF'.out]; exact K16.out, by rw [HG'.out]; exact K17.out, B12.out⟩
          case measure => simp [intOf]; omega
      · obtain rfl : k = m := by omega
        have K7 := Lib.hid (K7.out.below BR.out)
        have e1 := K16.out.cell (j := 0) rfl
        have e2 := K16.out.cell (j := 1) rfl
        have e3 := K17.out.cell (j := 0) rfl
        have e4 := K17.out.cell (j := 1) rfl
        have e5 := K7.out.cell (j := 0) rfl
        have e6 := K7.out.cell (j := 1) rfl
        have on2 := ON.out
        have t2 : decide ((2 : Int) ≤ ((on k : Nat) : Int)) = true := decide_eq_true (by omega)
        have t3 : decide (2 ≤ on k) = true := decide_eq_true on2
        have B10 := Lib.hid (B8.out.trans (BR.out.mono (by omega)))
        have zz := B10.out.size
        clear K16 K17 K7 BR
        go_wp2_with (go_at_call 36; refine (LW.out _).mono ?_; rintro e w13 ⟨rfl, b13⟩)
        go_ret
        exact ⟨rfl, B10.out.trans (b13.mono zz)⟩

set_option maxHeartbeats 400000 in
theorem FnNearLine_long (ad : Option Addr) (n c : Nat) (w : World) (h : 1048576 < n) (h1 : n ≤ 9223372036854775807) :
    Calls Try.prog 9 #[.slice ad n c] w fun e w' => e = .returned (.bool true) ∧ Below w.heap.size w w' := by
  go_enter Try.func9, Try.ntmps9
  go_wp2_with fail
  go_ret
  exact ⟨rfl, Below.refl _ _⟩

end Go.Proofs.Ytoioafadenniiaa
