/- Means of numbers with weights. -/
import Derived.Test.YtcmbfkdhfdiamaaLoads
namespace Go.Proofs.Ytcmbfkdhfdiamaa
open Go.RowKit

def wsum (xs ws : List Int) (i : Nat) : Nat → Int
  | 0 => 0
  | n + 1 => wsum xs ws i n + gi xs (i + n) * gi ws (i + n)
def dsum (ws : List Int) (i : Nat) : Nat → Int
  | 0 => 0
  | n + 1 => dsum ws i n + gi ws (i + n)
/-- The mean of the numbers from i up to k. -/
def mq (xs ws : List Int) (i k : Nat) : Rat := qd (wsum xs ws i (k + 1 - i)) (dsum ws i (k + 1 - i))

structure Vl (xs ws : List Int) : Prop where
  n0 : 1 ≤ xs.length
  n8 : xs.length ≤ 8
  nw : ws.length = xs.length
  x : ∀ k, k < xs.length → -30 ≤ gi xs k ∧ gi xs k ≤ 30
  w : ∀ k, k < xs.length → 1 ≤ gi ws k ∧ gi ws k ≤ 5
theorem vl_of {xs ws : List Int} (h : vlB xs ws = true) : Vl xs ws := by
  simp only [vlB, Bool.and_eq_true] at h
  obtain ⟨⟨⟨h1, h2⟩, h3⟩, h4⟩ := h
  have h1 := inB_iff.1 h1
  have h2 : (ws.length : Int) = xs.length := by simpa using h2
  exact ⟨by omega, by omega, by omega, fun k hk => inB_iff.1 (allB_iff.1 h3 k hk), fun k hk => inB_iff.1 (allB_iff.1 h4 k (by omega))⟩

theorem prod_bd {x y : Int} (h1 : -30 ≤ x ∧ x ≤ 30) (h2 : 1 ≤ y ∧ y ≤ 5) : -150 ≤ x * y ∧ x * y ≤ 150 := by
  have hy : y = 1 ∨ y = 2 ∨ y = 3 ∨ y = 4 ∨ y = 5 := by omega
  rcases hy with rfl | rfl | rfl | rfl | rfl <;> omega

theorem wsum_bd {xs ws : List Int} (h : Vl xs ws) (i : Nat) : ∀ n, i + n ≤ xs.length → -(150 * (n : Int)) ≤ wsum xs ws i n ∧ wsum xs ws i n ≤ 150 * (n : Int)
  | 0, _ => by simp [wsum]
  | n + 1, hn => by
    have ih := wsum_bd h i n (by omega)
    have := prod_bd (h.x (i + n) (by omega)) (h.w (i + n) (by omega))
    simp only [wsum]
    omega
theorem dsum_bd {xs ws : List Int} (h : Vl xs ws) (i : Nat) : ∀ n, i + n ≤ xs.length → (n : Int) ≤ dsum ws i n ∧ dsum ws i n ≤ 5 * (n : Int)
  | 0, _ => by simp [dsum]
  | n + 1, hn => by
    have ih := dsum_bd h i n (by omega)
    have := h.w (i + n) (by omega)
    simp only [dsum]
    omega

/-- A rational number with small upper and lower numbers. -/
def Sm (A B : Int) (q : Rat) : Prop := -A ≤ up q ∧ up q ≤ A ∧ dn q ≤ B
theorem sm_qd {n d A B : Int} (hd : 0 < d) (h1 : -A ≤ n) (h2 : n ≤ A) (h3 : d ≤ B) : Sm A B (qd n d) := by
  have g1 := gcd_pos (a := n) (b := d) (by omega)
  unfold Sm
  rw [num_pos hd, den_pos hd]
  have b1 := tdiv_bd n (Int.gcd n d) A h1 h2
  have b2 := tdiv_bd1 d (Int.gcd n d) (by omega) (by omega)
  omega
theorem mq_sm {xs ws : List Int} (h : Vl xs ws) {i k : Nat} (hik : i ≤ k) (hk : k < xs.length) : Sm 1200 40 (mq xs ws i k) := by
  have b1 := wsum_bd h i (k + 1 - i) (by omega)
  have b2 := dsum_bd h i (k + 1 - i) (by omega)
  have := h.n8
  exact sm_qd (by omega) (by omega) (by omega) (by omega)
theorem sm_mul {A B C D : Int} {p q : Rat} (hp : Sm A B p) (hq : Sm C D q) : dn p * dn q ≤ B * D ∧ (up p).natAbs * dn q + (up q).natAbs * dn p ≤ A * D + C * B := by
  have p1 := dn_pos p
  have q1 := dn_pos q
  obtain ⟨a1, a2, a3⟩ := hp
  obtain ⟨c1, c2, c3⟩ := hq
  have k1 : dn p * dn q ≤ B * D := Int.mul_le_mul a3 c3 (by omega) (by omega)
  have k2 : ((up p).natAbs : Int) * dn q ≤ A * D := Int.mul_le_mul (by omega) c3 (by omega) (by omega)
  have k3 : ((up q).natAbs : Int) * dn p ≤ C * B := Int.mul_le_mul (by omega) a3 (by omega) (by omega)
  omega

set_option maxHeartbeats 1000000 in
theorem mean_nat (b o c b' o' c' : Nat) (xs ws : List Int) (i k : Nat) (w : World) (h : RowI w b o xs) (h' : RowI w b' o' ws) (hv : Vl xs ws) (hik : i ≤ k) (hk : k < xs.length) :
    Calls Try.prog 66 #[.slice (some ⟨b, o, none⟩) xs.length c, .slice (some ⟨b', o', none⟩) ws.length c', .int .i64 i, .int .i64 k] w
      fun e w' => e = .returned (.agg #[.int .i64 (up (mq xs ws i k)), .int .i64 (dn (mq xs ws i k))]) ∧ Below w.heap.size w w' := by
  have hn8 := hv.n8
  have hnw : xs.length = ws.length := hv.nw.symm
  obtain ⟨r, hr⟩ : ∃ r, mq xs ws i k = r := ⟨_, rfl⟩
  rw [hr]
  have HR := Lib.hid hr
  have HV := Lib.hid hv
  have H := Lib.hid h
  have H' := Lib.hid h'
  have HN := Lib.hid hnw
  have hkw : k < ws.length := by omega
  clear hr hv h h' hnw
  go_enter Try.func66, Try.ntmps66
  go_wp2
  go_loopw [9, 10, 11] (fun v9 v10 v11 wr => ∃ n q : Nat, i + n ≤ k + 1 ∧ v9 = .int .i64 (wsum xs ws i n) ∧ v10 = .int .i64 (dsum ws i n) ∧ v11 = .int .i64 ((i + n : Nat) : Int) ∧
      wr = (w.alloc (.cells #[.int .i64 0, .int .i64 0] 29)).drewN q)
    (fun _ _ v11 _ => k + 1 - (intOf v11).toNat)
  case atStart => exact ⟨0, 0, by omega, rfl, rfl, rfl, rfl⟩
  case round =>
    obtain ⟨n, q, hn, rfl, rfl, rfl, rfl⟩ := hrel
    obtain ⟨x, hx⟩ : ∃ x, i + n = x := ⟨_, rfl⟩
    have b1 := wsum_bd HV.out i n (by omega)
    have b2 := dsum_bd HV.out i n (by omega)
    have s1 : wsum xs ws i (n + 1) = wsum xs ws i n + gi xs x * gi ws x := by rw [← hx]; rfl
    have s2 : dsum ws i (n + 1) = dsum ws i n + gi ws x := by rw [← hx]; rfl
    have S1 := Lib.hid s1
    have S2 := Lib.hid s2
    rw [hx]
    have HX := Lib.hid hx
    have hx1 : x ≤ k + 1 := by omega
    have hx2 : n ≤ x := by omega
    clear s1 s2 hx hn
    by_cases hlt : x ≤ k
    · have hx3 : x < xs.length := by omega
      have hx4 : x < ws.length := by omega
      have c1 := H.out.cell x hx3
      have c2 := H'.out.cell x hx4
      have v1 := HV.out.x x hx3
      have v2 := HV.out.w x hx3
      have v3 := prod_bd v1 v2
      obtain ⟨v11, v12⟩ := v1
      obtain ⟨v21, v22⟩ := v2
      obtain ⟨v31, v32⟩ := v3
      obtain ⟨b11, b12⟩ := b1
      obtain ⟨b21, b22⟩ := b2
      have z1 := H.out.blk
      have z2 := H'.out.blk
      go_wp2
      go_quiet (fail)
      go_wp2
      go_roundw
      case rel => exact ⟨n + 1, q + nq, by have := HX.out; omega, by rw [S1.out], by rw [S2.out], by have := HX.out; go_num, by simp⟩
      case measure => simp [intOf]; omega
    · have hx3 : x = k + 1 := by omega
      have hnk : n = k + 1 - i := by have := HX.out; omega
      have e1 : qd (wsum xs ws i n) (dsum ws i n) = r := by rw [← HR.out, hnk]; rfl
      have E1 := Lib.hid e1
      have b3 : dsum ws i n ≠ 0 := by omega
      have b4 : -4611686018427387904 ≤ wsum xs ws i n := by omega
      have b5 : wsum xs ws i n ≤ 4611686018427387904 := by omega
      have b6 : -4611686018427387904 ≤ dsum ws i n := by omega
      have b7 : dsum ws i n ≤ 4611686018427387904 := by omega
      clear e1 hx3 hnk b1 b2
      go_wp2_with (go_at_call 99; refine (frac_as _ _ r E1.out _ b4 b5 b6 b7 b3).mono ?_; rintro e w1 ⟨rfl, hb1⟩; obtain ⟨hc1, hf1⟩ := bcell hb1)
      refine bodyPost_ret (v := .agg #[.int .i64 (up r), .int .i64 (dn r)]) ?_ rfl ⟨rfl, ?_⟩
      · simp [results, Try.results66, go_sem, hc1]
      · (repeat' (first | (with_reducible exact Below.refl _ _) | (with_reducible assumption) | (with_reducible refine Below.drewN ?_ _) | (with_reducible refine Below.alloc ?_ ?_ _) | (with_reducible refine Below.drew ?_) | (with_reducible refine Below.setCell ?_ ?_ _) | (with_reducible refine Below.trans ?_ (Below.mono (by assumption) ?_)) | go_size | (with_reducible refine Nat.le_trans ?_ (Below.size (by assumption)))))

theorem mean_any (b o c b' o' c' : Nat) (xs ws : List Int) (i k : Int) (w : World) (h : RowI w b o xs) (h' : RowI w b' o' ws) (hv : Vl xs ws) (hi : 0 ≤ i) (hik : i ≤ k) (hk : k < xs.length) :
    Calls Try.prog 66 #[.slice (some ⟨b, o, none⟩) xs.length c, .slice (some ⟨b', o', none⟩) ws.length c', .int .i64 i, .int .i64 k] w
      fun e w' => e = .returned (.agg #[.int .i64 (up (mq xs ws i.toNat k.toNat)), .int .i64 (dn (mq xs ws i.toNat k.toNat))]) ∧ Below w.heap.size w w' := by
  obtain ⟨i, rfl⟩ := Int.eq_ofNat_of_zero_le hi
  obtain ⟨k, rfl⟩ := Int.eq_ofNat_of_zero_le (show 0 ≤ k by omega)
  exact mean_nat b o c b' o' c' xs ws i k w h h' hv (by omega) (by omega)

theorem mean_as (b o c b' o' c' : Nat) (xs ws : List Int) (i k : Int) (p : Rat) (w : World) (h : RowI w b o xs) (h' : RowI w b' o' ws) (hv : Vl xs ws) (hi : 0 ≤ i) (hik : i ≤ k) (hk : k < xs.length) (hp : mq xs ws i.toNat k.toNat = p) :
    Calls Try.prog 66 #[.slice (some ⟨b, o, none⟩) xs.length c, .slice (some ⟨b', o', none⟩) ws.length c', .int .i64 i, .int .i64 k] w
      fun e w' => e = .returned (.agg #[.int .i64 (up p), .int .i64 (dn p)]) ∧ Below w.heap.size w w' :=
  hp ▸ mean_any b o c b' o' c' xs ws i k w h h' hv hi hik hk

set_option maxHeartbeats 1000000 in
theorem smean_nat (b o c b' o' c' : Nat) (xs ws : List Int) (i k : Nat) (w : World) (h : RowI w b o xs) (h' : RowI w b' o' ws) (hv : Vl xs ws) (hik : i ≤ k) (hk : k < xs.length) :
    Calls Try.prog 72 #[.slice (some ⟨b, o, none⟩) xs.length c, .slice (some ⟨b', o', none⟩) ws.length c', .int .i64 i, .int .i64 k] w
      fun e w' => e = .returned (.agg #[.int .i64 (up (mq xs ws i k)), .int .i64 (dn (mq xs ws i k))]) ∧ Below w.heap.size w w' := by
  have hn8 := hv.n8
  have hnw : xs.length = ws.length := hv.nw.symm
  obtain ⟨r, hr⟩ : ∃ r, mq xs ws i k = r := ⟨_, rfl⟩
  rw [hr]
  have HR := Lib.hid hr
  have HV := Lib.hid hv
  have H := Lib.hid h
  have H' := Lib.hid h'
  have HN := Lib.hid hnw
  have hkw : k < ws.length := by omega
  clear hr hv h h' hnw
  go_enter Try.func72, Try.ntmps72
  go_wp2
  go_loopw [9, 10, 11] (fun v9 v10 v11 wr => ∃ n q : Nat, i + n ≤ k + 1 ∧ v9 = .int .i64 (wsum xs ws i n) ∧ v10 = .int .i64 (dsum ws i n) ∧ v11 = .int .i64 ((i + n : Nat) : Int) ∧
      wr = (w.alloc (.cells #[.int .i64 0, .int .i64 0] 29)).drewN q)
    (fun _ _ v11 _ => k + 1 - (intOf v11).toNat)
  case atStart => exact ⟨0, 0, by omega, rfl, rfl, rfl, rfl⟩
  case round =>
    obtain ⟨n, q, hn, rfl, rfl, rfl, rfl⟩ := hrel
    obtain ⟨x, hx⟩ : ∃ x, i + n = x := ⟨_, rfl⟩
    have b1 := wsum_bd HV.out i n (by omega)
    have b2 := dsum_bd HV.out i n (by omega)
    have s1 : wsum xs ws i (n + 1) = wsum xs ws i n + gi xs x * gi ws x := by rw [← hx]; rfl
    have s2 : dsum ws i (n + 1) = dsum ws i n + gi ws x := by rw [← hx]; rfl
    have S1 := Lib.hid s1
    have S2 := Lib.hid s2
    rw [hx]
    have HX := Lib.hid hx
    have hx1 : x ≤ k + 1 := by omega
    have hx2 : n ≤ x := by omega
    clear s1 s2 hx hn
    by_cases hlt : x ≤ k
    · have hx3 : x < xs.length := by omega
      have hx4 : x < ws.length := by omega
      have c1 := H.out.cell x hx3
      have c2 := H'.out.cell x hx4
      have v1 := HV.out.x x hx3
      have v2 := HV.out.w x hx3
      have v3 := prod_bd v1 v2
      obtain ⟨v11, v12⟩ := v1
      obtain ⟨v21, v22⟩ := v2
      obtain ⟨v31, v32⟩ := v3
      obtain ⟨b11, b12⟩ := b1
      obtain ⟨b21, b22⟩ := b2
      have z1 := H.out.blk
      have z2 := H'.out.blk
      go_wp2
      go_quiet (fail)
      go_wp2
      go_roundw
      case rel => exact ⟨n + 1, q + nq, by have := HX.out; omega, by rw [S1.out], by rw [S2.out], by have := HX.out; go_num, by simp⟩
      case measure => simp [intOf]; omega
    · have hx3 : x = k + 1 := by omega
      have hnk : n = k + 1 - i := by have := HX.out; omega
      have e1 : qd (wsum xs ws i n) (dsum ws i n) = r := by rw [← HR.out, hnk]; rfl
      have E1 := Lib.hid e1
      have b3 : dsum ws i n ≠ 0 := by omega
      have b4 : -4611686018427387904 ≤ wsum xs ws i n := by omega
      have b5 : wsum xs ws i n ≤ 4611686018427387904 := by omega
      have b6 : -4611686018427387904 ≤ dsum ws i n := by omega
      have b7 : dsum ws i n ≤ 4611686018427387904 := by omega
      clear e1 hx3 hnk b1 b2
      go_wp2_with (go_at_call 100; refine (sfrac_as _ _ r E1.out _ b4 b5 b6 b7 b3).mono ?_; rintro e w1 ⟨rfl, hb1⟩; obtain ⟨hc1, hf1⟩ := bcell hb1)
      refine bodyPost_ret (v := .agg #[.int .i64 (up r), .int .i64 (dn r)]) ?_ rfl ⟨rfl, ?_⟩
      · simp [results, Try.results72, go_sem, hc1]
      · (repeat' (first | (with_reducible exact Below.refl _ _) | (with_reducible assumption) | (with_reducible refine Below.drewN ?_ _) | (with_reducible refine Below.alloc ?_ ?_ _) | (with_reducible refine Below.drew ?_) | (with_reducible refine Below.setCell ?_ ?_ _) | (with_reducible refine Below.trans ?_ (Below.mono (by assumption) ?_)) | go_size | (with_reducible refine Nat.le_trans ?_ (Below.size (by assumption)))))

theorem smean_any (b o c b' o' c' : Nat) (xs ws : List Int) (i k : Int) (w : World) (h : RowI w b o xs) (h' : RowI w b' o' ws) (hv : Vl xs ws) (hi : 0 ≤ i) (hik : i ≤ k) (hk : k < xs.length) :
    Calls Try.prog 72 #[.slice (some ⟨b, o, none⟩) xs.length c, .slice (some ⟨b', o', none⟩) ws.length c', .int .i64 i, .int .i64 k] w
      fun e w' => e = .returned (.agg #[.int .i64 (up (mq xs ws i.toNat k.toNat)), .int .i64 (dn (mq xs ws i.toNat k.toNat))]) ∧ Below w.heap.size w w' := by
  obtain ⟨i, rfl⟩ := Int.eq_ofNat_of_zero_le hi
  obtain ⟨k, rfl⟩ := Int.eq_ofNat_of_zero_le (show 0 ≤ k by omega)
  exact smean_nat b o c b' o' c' xs ws i k w h h' hv (by omega) (by omega)

theorem smean_as (b o c b' o' c' : Nat) (xs ws : List Int) (i k : Int) (p : Rat) (w : World) (h : RowI w b o xs) (h' : RowI w b' o' ws) (hv : Vl xs ws) (hi : 0 ≤ i) (hik : i ≤ k) (hk : k < xs.length) (hp : mq xs ws i.toNat k.toNat = p) :
    Calls Try.prog 72 #[.slice (some ⟨b, o, none⟩) xs.length c, .slice (some ⟨b', o', none⟩) ws.length c', .int .i64 i, .int .i64 k] w
      fun e w' => e = .returned (.agg #[.int .i64 (up p), .int .i64 (dn p)]) ∧ Below w.heap.size w w' :=
  hp ▸ smean_any b o c b' o' c' xs ws i k w h h' hv hi hik hk

end Go.Proofs.Ytcmbfkdhfdiamaa
