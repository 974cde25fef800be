/- spec.PeakOf: for all lists. -/
import Derived.Test.YtcmbfkdhfdiamaaRiseToE
namespace Go.Proofs.Ytcmbfkdhfdiamaa
open Go.RowKit

theorem riseTo_as (b o c b' o' c' k : Nat) (K : Int) (xs ws : List Int) (q : Rat) (w : World) (h : RowI w b o xs) (h' : RowI w b' o' ws) (hv : Vl xs ws) (hk : k ≤ xs.length) (hc : xs.length ≤ c) (hc' : ws.length ≤ c') (hK : K = (k : Int)) (hq : peakT xs ws k = q) :
    Calls Try.prog 79 #[.slice (some ⟨b, o, none⟩) xs.length c, .slice (some ⟨b', o', none⟩) ws.length c', .int .i64 K] w
      fun e w' => e = .returned (.agg #[.int .i64 (up q), .int .i64 (dn q)]) ∧ Below w.heap.size w w' := by
  subst hK
  rcases Nat.lt_or_ge k xs.length with hlt | hge
  · exact riseTo_lt b o c b' o' c' k xs ws q w h h' hv hlt hc hc' hq
  · exact riseTo_end b o c b' o' c' k xs ws q w h h' hv (by omega) hc hc' hq

def pkA (xs ws : List Int) : Int := if vlB xs ws = true then (pkI (peakT xs ws) xs.length : Nat) else 0
def pkU (xs ws : List Int) : Int := if vlB xs ws = true then up (peakT xs ws (pkI (peakT xs ws) xs.length)) else 0
def pkD (xs ws : List Int) : Int := if vlB xs ws = true then dn (peakT xs ws (pkI (peakT xs ws) xs.length)) else 0

set_option maxHeartbeats 4000000 in
theorem speakOf_all (b o c b' o' c' : Nat) (xs ws : List Int) (w : World) (h : RowI w b o xs) (h' : RowI w b' o' ws) (hm : xs.length ≤ 1099511627776) (hm' : ws.length ≤ 1099511627776) (hc : xs.length ≤ c) (hc' : ws.length ≤ c') :
    Calls Try.prog 46 #[.slice (some ⟨b, o, none⟩) xs.length c, .slice (some ⟨b', o', none⟩) ws.length c'] w
      fun e w' => e = .returned (.tuple #[.int .i64 (pkA xs ws), .agg #[.int .i64 (pkU xs ws), .int .i64 (pkD xs ws)], .bool (vlB xs ws)]) ∧ Below w.heap.size w w' := by
  have H := Lib.hid h
  have H' := Lib.hid h'
  clear h h'
  cases hv : vlB xs ws with
  | false =>
    have e1 : pkA xs ws = 0 := by simp [pkA, hv]
    have e2 : pkU xs ws = 0 := by simp [pkU, hv]
    have e3 : pkD xs ws = 0 := by simp [pkD, hv]
    rw [e1, e2, e3]
    clear e1 e2 e3
    go_enter Try.func46, Try.ntmps46
    go_wp2_with (go_at_call 64; refine (svalidLoads_any b o c b' o' c' xs ws _ (H.out.below below_alloc) (H'.out.below below_alloc) hm hm').mono ?_; rintro e w1 ⟨rfl, rfl⟩)
    refine bodyPost_ret (v := .tuple #[.int .i64 0, .agg #[.int .i64 0, .int .i64 0], .bool false]) ?_ rfl ⟨rfl, ?_⟩
    · simp [results, Try.results46, go_sem]
    · (repeat' (first | (with_reducible exact Below.refl _ _) | (with_reducible assumption) | (with_reducible refine Below.drewN ?_ _) | (with_reducible refine Below.alloc ?_ ?_ _) | (with_reducible refine Below.drew ?_) | (with_reducible refine Below.setCell ?_ ?_ _) | (with_reducible refine Below.trans ?_ (Below.mono (by assumption) ?_)) | go_size | (with_reducible refine Nat.le_trans ?_ (Below.size (by assumption)))))
  | true =>
    have hvl := vl_of hv
    have hn8 := hvl.n8
    have hn0 := hvl.n0
    have HV := Lib.hid hvl
    have e1 : pkA xs ws = (pkI (peakT xs ws) xs.length : Nat) := by simp [pkA, hv]
    have e2 : pkU xs ws = up (peakT xs ws (pkI (peakT xs ws) xs.length)) := by simp [pkU, hv]
    have e3 : pkD xs ws = dn (peakT xs ws (pkI (peakT xs ws) xs.length)) := by simp [pkD, hv]
    rw [e1, e2, e3]
    have hsm : ∀ k, k ≤ xs.length → Sm 12960000000 10000 (peakT xs ws k) := fun k hk => peak_sm hvl hk
    have hpt : ∀ k, peakT xs ws k = peakT xs ws k := fun k => rfl
    obtain ⟨T, hT⟩ : ∃ T, peakT xs ws = T := ⟨_, rfl⟩
    rw [hT] at hsm ⊢
    have SM := Lib.hid hsm
    have HT := Lib.hid hT
    obtain ⟨q0, hq0⟩ : ∃ q, T 0 = q := ⟨_, rfl⟩
    have HQ0 := Lib.hid hq0
    clear e1 e2 e3 hvl hsm hpt hT hq0
    go_enter Try.func46, Try.ntmps46
    go_wp2_with (first
      | (go_at_call 64; refine (svalidLoads_any b o c b' o' c' xs ws _ (H.out.below below_alloc) (H'.out.below below_alloc) hm hm').mono ?_; rintro e w1 ⟨rfl, rfl⟩)
      | (go_at_call 79; refine (riseTo_as b o c b' o' c' 0 0 xs ws q0 _ (H.out.below below_alloc) (H'.out.below below_alloc) HV.out (by omega) hc hc' rfl (by rw [HT.out]; exact HQ0.out)).mono ?_; rintro e w2 ⟨rfl, hb2⟩; have hz2 := hb2.size; have k5 := (Blk.made w #[.int .i64 0, .int .i64 0] 29).below hb2; have bA : Below w.heap.size w w2 := below_alloc.trans (hb2.mono (by simp))))
    have hz2' := bA.size
    simp only [World.size_alloc] at hz2
    obtain ⟨g8, hg8⟩ : ∃ g8, w2.heap.size = g8 := ⟨_, rfl⟩
    have k8 : Blk (w2.alloc (.cells #[.int .i64 (up q0), .int .i64 (dn q0)] 29)) g8 29 (fc [q0]) := by rw [← hg8]; exact Blk.made w2 #[.int .i64 (up q0), .int .i64 (dn q0)] 29
    have K8 := Lib.hid k8
    have K5 := Lib.hid (k5.below (below_alloc (W := w2) (o := .cells #[.int .i64 (up q0), .int .i64 (dn q0)] 29)))
    have B8 : Below w.heap.size w (w2.alloc (.cells #[.int .i64 (up q0), .int .i64 (dn q0)] 29)) := bA.alloc hz2' _
    have hz8 : w.heap.size < g8 := by omega
    rw [hg8]
    clear bA k5 k8 hg8 hz2
    go_loopw [7, 9] (fun v7 v9 wr => ∃ j : Nat, j ≤ xs.length ∧ v9 = .int .i64 ((j + 1 : Nat) : Int) ∧ v7 = .int .i64 ((pkI T j : Nat) : Int) ∧ Blk wr g8 29 (fc [T (pkI T j)]) ∧ Blk wr w.heap.size 29 [.int .i64 0, .int .i64 0] ∧ Below w.heap.size w wr)
      (fun _ v9 _ => xs.length + 1 - (intOf v9).toNat)
    case atStart => exact ⟨0, Nat.zero_le _, rfl, rfl, by show Blk _ g8 29 (fc [T 0]); rw [HQ0.out]; exact K8.out, K5.out, B8⟩
    case round =>
      clear K8 K5 B8
      obtain ⟨j, hj, rfl, rfl, hk8, hk5, hb⟩ := hrel
      have hz := hb.size
      have l8 := hk8.lt
      have l5 := hk5.lt
      have HB := Lib.hid hb
      have K8 := Lib.hid hk8
      have K5 := Lib.hid hk5
      have hpl := pkI_le (T := T) j
      obtain ⟨p, hp⟩ : ∃ p, pkI T j = p := ⟨_, rfl⟩
      have s1 := SM.out p (by omega)
      obtain ⟨be, hbe⟩ : ∃ be, T p = be := ⟨_, rfl⟩
      rw [hp, hbe] at hk8
      rw [hbe] at s1
      have d1 := hk8.f0 (k := 0) (by simp)
      have d2 := hk8.f1 (k := 0) (by simp)
      simp only [Nat.zero_mul, Nat.zero_add, show gq [be] 0 = be from rfl] at d1 d2
      have f1 := hk8.frozen 0
      have f2 := hk8.frozen 1
      by_cases hlt : j + 1 ≤ xs.length
      · obtain ⟨x, hx⟩ : ∃ x, T (j + 1) = x := ⟨_, rfl⟩
        have s2 := SM.out (j + 1) hlt
        rw [hx] at s2
        have s3 := sm_mul s2 s1
        have S3 := Lib.hid (show ((up x).natAbs : Int) * dn be + (up be).natAbs * dn x ≤ 4611686018427387904 by omega)
        have hst : pkI T (j + 1) = if x < be then j + 1 else p := by
          simp only [pkI]
          rw [hp, hbe, hx]
        have HST := Lib.hid hst
        have HX := Lib.hid hx
        have HP := Lib.hid hp
        have HBE := Lib.hid hbe
        rw [hp]
        clear hst hx hp hbe s1 s2 s3 hk8 hk5 hb hpl
        cases hcmp : decide (x < be) with
        | true =>
          go_wp2_with (first
            | (go_at_call 79; refine (riseTo_as b o c b' o' c' (j + 1) _ xs ws x _ (H.out.below HB.out) (H'.out.below HB.out) HV.out hlt hc hc' (by simp) (by rw [HT.out]; exact HX.out)).mono ?_; rintro e w4 ⟨rfl, hb4⟩; have hz4 := hb4.size; have x1 := keepC hb4 d1; have x2 := keepC hb4 d2; have x3 := keepF hb4 l8 f1; have x4 := keepF hb4 l8 f2; have hl4 : g8 < w4.heap.size := (by omega))
            | (go_at_call 73; refine (sless_any x be _ S3.out).mono ?_; rintro e w5 ⟨rfl, hb5⟩; have hz5 := hb5.size; have y1 := keepC hb5 (b := w4.heap.size) (o := 0) (v := .int .i64 (up x)) (by simp [go_sem]); have y2 := keepC hb5 (b := w4.heap.size) (o := 1) (v := .int .i64 (dn x)) (by simp [go_sem]); have y3 := keepC hb5 (b := g8) (o := 0) (v := .int .i64 (up be)) (by simp [go_sem, hl4, x1]); have y4 := keepC hb5 (b := g8) (o := 1) (v := .int .i64 (dn be)) (by simp [go_sem, hl4, x2]); have y5 := keepF hb5 (b := g8) (o := 0) (by simp; omega) (by simp [go_sem, hl4, x3]); have y6 := keepF hb5 (b := g8) (o := 1) (by simp; omega) (by simp [go_sem, hl4, x4])))
          go_roundw
          case rel =>
            have hb6 : Below wr.heap.size wr w5 := (hb4.alloc hz4 _).trans (hb5.mono (by simp; omega))
            have e5 : pkI T (j + 1) = j + 1 := by rw [HST.out, if_pos (of_decide_eq_true hcmp)]
            exact ⟨j + 1, hlt, by go_num, by rw [e5]; go_num, by rw [e5, HX.out]; exact ((K8.out.below hb6).set 0 _).set 1 _, ((K5.out.below hb6).other _ (by simp; omega)).other _ (by simp; omega), ((HB.out.trans (hb6.mono hz)).setCell (by simp; omega) _).setCell (by simp; omega) _⟩
          case measure => simp [intOf]; omega
        | false =>
          go_wp2_with (first
            | (go_at_call 79; refine (riseTo_as b o c b' o' c' (j + 1) _ xs ws x _ (H.out.below HB.out) (H'.out.below HB.out) HV.out hlt hc hc' (by simp) (by rw [HT.out]; exact HX.out)).mono ?_; rintro e w4 ⟨rfl, hb4⟩; have hz4 := hb4.size; have x1 := keepC hb4 d1; have x2 := keepC hb4 d2; have hl4 : g8 < w4.heap.size := (by omega))
            | (go_at_call 73; refine (sless_any x be _ S3.out).mono ?_; rintro e w5 ⟨rfl, hb5⟩; have hz5 := hb5.size))
          go_roundw
          case rel =>
            have hb6 : Below wr.heap.size wr w5 := (hb4.alloc hz4 _).trans (hb5.mono (by simp; omega))
            have e5 : pkI T (j + 1) = p := by rw [HST.out, if_neg (of_decide_eq_false hcmp)]
            exact ⟨j + 1, hlt, by go_num, by rw [e5], by rw [e5, ← HP.out]; exact K8.out.below hb6, K5.out.below hb6, HB.out.trans (hb6.mono hz)⟩
          case measure => simp [intOf]; omega
      · have hjn : j = xs.length := by omega
        have HP : pkI T xs.length = p := by rw [← hjn]; exact hp
        have HPH := Lib.hid HP
        have HBE := Lib.hid hbe
        rw [hp]
        have u1 := hk5.cell (j := 0) rfl
        have u2 := hk5.cell (j := 1) rfl
        have gg1 := hk5.frozen 0
        have gg2 := hk5.frozen 1
        have z1 := (hk5.set 0 (.int .i64 (up be))).cell (j := 0) rfl
        have z2 := ((hk5.set 0 (.int .i64 (up be))).set 1 (.int .i64 (dn be))).cell (j := 1) rfl
        clear hk8 hk5 K8 K5 hjn HP hp hbe s1 hb hpl
        go_wp2_with fail
        go_region
        all_goals go_wp2_with fail
        all_goals refine bodyPost_ret (v := .tuple #[.int .i64 ((pkI T xs.length : Nat) : Int), .agg #[.int .i64 (up (T (pkI T xs.length))), .int .i64 (dn (T (pkI T xs.length)))], .bool true]) ?_ rfl ⟨rfl, ?_⟩
        all_goals first
          | (rw [HPH.out, HBE.out]; simp [results, Try.results46, go_sem, z1, z2]; done)
          | exact (((HB.out.setCell (Nat.le_refl _) _).setCell (Nat.le_refl _) _).drew)
          | (repeat' (first | (with_reducible exact Below.refl _ _) | (with_reducible assumption) | (with_reducible refine Below.drewN ?_ _) | (with_reducible refine Below.alloc ?_ ?_ _) | (with_reducible refine Below.drew ?_) | (with_reducible refine Below.setCell ?_ ?_ _) | (with_reducible refine Below.trans ?_ (Below.mono (by assumption) ?_)) | go_size | (with_reducible refine Nat.le_trans ?_ (Below.size (by assumption)))))

end Go.Proofs.Ytcmbfkdhfdiamaa
