/- spec.turned and spec.riseTo. -/
import Derived.Test.YtcmbfkdhfdiamaaPeakP
import Derived.Test.YtcmbfkdhfdiamaaMissAll
import Derived.Test.YtcmbfkdhfdiamaaClone
import Derived.Test.YtcmbfkdhfdiamaaHold
namespace Go.Proofs.Ytcmbfkdhfdiamaa
open Go.RowKit

set_option maxHeartbeats 1000000 in
theorem sturned_any (b o c : Nat) (xs : List Int) (w : World) (h : RowI w b o xs) (hl : xs.length ≤ 1048576) :
    Calls Try.prog 107 #[.slice (some ⟨b, o, none⟩) xs.length c] w fun e w' => ∃ v, e = .returned v ∧ OwnI w' w.heap.size v xs.length (tabI (fun j => gi xs (xs.length - 1 - j)) xs.length) ∧ Below w.heap.size w w' := by
  have H := Lib.hid h
  clear h
  obtain ⟨f, hf⟩ : ∃ f, (fun j => gi xs (xs.length - 1 - j)) = f := ⟨_, rfl⟩
  have hfj : ∀ j, j < xs.length → f j = gi xs (xs.length - 1 - j) := fun j _ => by rw [← hf]
  rw [hf]
  have HF := Lib.hid hfj
  clear hf hfj
  go_enter Try.func107, Try.ntmps107
  go_wp2_with fail
  go_loopw [3, 4] (fun v3 v4 wr => ∃ k : Nat, k ≤ xs.length ∧ v4 = .int .i64 ((xs.length : Int) - 1 - k) ∧ OwnI wr w.heap.size v3 k (tabI f k) ∧ Below w.heap.size w wr) (fun _ v4 _ => (intOf v4 + 1).toNat)
  case atStart => exact ⟨0, Nat.zero_le _, by go_num, OwnI.empty _ _ (Nat.le_refl _) _ rfl, by (repeat' (first | (with_reducible exact Below.refl _ _) | (with_reducible assumption) | (with_reducible refine Below.drewN ?_ _) | (with_reducible refine Below.alloc ?_ ?_ _) | (with_reducible refine Below.drew ?_) | (with_reducible refine Below.setCell ?_ ?_ _) | (with_reducible refine Below.trans ?_ (Below.mono (by assumption) ?_)) | go_size | (with_reducible refine Nat.le_trans ?_ (Below.size (by assumption)))))⟩
  case round =>
    obtain ⟨k, hk, rfl, hown, hb⟩ := hrel
    have HO := Lib.hid hown
    clear hown
    have hz := hb.size
    by_cases hlt : k < xs.length
    · obtain ⟨x, hx⟩ : ∃ x, xs.length - 1 - k = x := ⟨_, rfl⟩
      have hxi : ((xs.length : Int) - 1 - k) = (x : Int) := by omega
      rw [hxi]
      have c1 := (H.out.below hb).cell x (by omega)
      have hfk : f k = gi xs x := by rw [HF.out k hlt, hx]
      have HFK := Lib.hid hfk
      have hxl : x < xs.length := by omega
      have HX := Lib.hid hx
      clear hfk hxi hx
      go_wp2_with (at_builtin; refine wpList_app1 rfl (.tmp 13) (.tmp 18) 23 rfl w.heap.size 3 (.int .i64 0) 1 8 Try.underlying23 infoI rfl (by decide) (by decide) _ _ _ rfl (World.ownsRow.alloc HO.out _) ⟨wr.heap.size, 0, none⟩ 1 [.int .i64 (gi xs x)] rfl rfl (cell_one_new _ _ _) (by simp [Value.oneCell']) (by omega) (by simp; omega) ?_; intro g2 cap2 w4 o1 o2 o3)
      go_roundw
      case rel =>
        exact ⟨k + 1, by omega, by have := HX.out; go_num, by rw [tabI_succ, HFK.out]; exact OwnI.app o1, (hb.alloc hz _).trans (Below.app (World.ownsRow.alloc HO.out _) (by simp; omega) o2)⟩
      case measure => simp [intOf]
    · have hkn : k = xs.length := by omega
      have HK := Lib.hid hkn
      clear hkn
      go_wp2_with fail
      go_ret
      exact ⟨_, rfl, by have := HO.out; rw [HK.out] at this; exact this, hb⟩

theorem RowI.take {w : World} {b o : Nat} {xs : List Int} (h : RowI w b o xs) (k : Nat) : RowI w b o (xs.take k) :=
  ⟨h.blk, fun j hj => by rw [List.length_take] at hj; rw [gi_take (by omega)]; exact h.cell j (by omega)⟩
theorem RowI.drop {w : World} {b o : Nat} {xs : List Int} (h : RowI w b o xs) (k : Nat) : RowI w b (o + k) (xs.drop k) :=
  ⟨h.blk, fun j hj => by rw [List.length_drop] at hj; rw [gi_drop, Nat.add_assoc]; exact h.cell (k + j) (by omega)⟩
theorem turned_eq (xs : List Int) : tabI (fun j => gi xs (xs.length - 1 - j)) xs.length = xs.reverse := by
  refine eq_of_gi (by rw [tabI_length, List.length_reverse]) fun k hk => ?_
  rw [tabI_length] at hk
  rw [gi_tabI hk, gi_reverse hk]

theorem sturned_as (b o c n : Nat) (xs : List Int) (w : World) (h : RowI w b o xs) (hn : xs.length = n) (hl : n ≤ 1048576) (h1 : 1 ≤ n) :
    Calls Try.prog 107 #[.slice (some ⟨b, o, none⟩) n c] w fun e w' => ∃ g cap, e = .returned (.slice (some ⟨g, 0, none⟩) n cap) ∧ w.heap.size ≤ g ∧ RowI w' g 0 xs.reverse ∧ Below w.heap.size w w' := by
  subst hn
  refine (sturned_any b o c xs w h hl).mono ?_
  rintro e w' ⟨v, rfl, ho, hb⟩
  obtain ⟨g, cap, rfl, hg⟩ := ho.shape (by omega)
  rw [turned_eq] at ho
  exact ⟨g, cap, rfl, hg, ho.row, hb⟩
set_option maxHeartbeats 400000 in
theorem sturned_nil (a : Option Addr) (c : Nat) (w : World) :
    Calls Try.prog 107 #[.slice a 0 c] w fun e w' => ∃ a' c', e = .returned (.slice a' 0 c') ∧ Below w.heap.size w w' := by
  go_enter Try.func107, Try.ntmps107
  go_wp2_with fail
  go_rounds 1
  go_ret
  exact ⟨_, _, rfl, by (repeat' (first | (with_reducible exact Below.refl _ _) | (with_reducible assumption) | (with_reducible refine Below.drewN ?_ _) | (with_reducible refine Below.alloc ?_ ?_ _) | (with_reducible refine Below.drew ?_) | (with_reducible refine Below.setCell ?_ ?_ _) | (with_reducible refine Below.trans ?_ (Below.mono (by assumption) ?_)) | go_size | (with_reducible refine Nat.le_trans ?_ (Below.size (by assumption)))))⟩
theorem pool_as (b o c b' o' c' n nw m : Nat) (xs ws : List Int) (R : List Nat) (w : World) (h : RowI w b o xs) (h' : RowI w b' o' ws) (hv : Vl xs ws) (hn : xs.length = n) (hnw : ws.length = nw) (hR : poolR xs ws xs.length = R) (hm : R.length = m) :
    Calls Try.prog 65 #[.slice (some ⟨b, o, none⟩) n c, .slice (some ⟨b', o', none⟩) nw c'] w
      fun e w' => ∃ g cap, e = .returned (.slice (some ⟨g, 0, none⟩) m cap) ∧ RowI w' g 0 (lst R) ∧ Below w.heap.size w w' := by
  subst hn hnw hm hR
  exact (pool_any b o c b' o' c' xs ws w h h' hv).mono fun e w' ⟨g, cap, h1, h2, h3⟩ => ⟨g, cap, h1, h2.row, h3⟩
theorem sspread_as (b o c b' o' c' b2 o2 c2 n nw m : Nat) (xs ws : List Int) (R : List Nat) (w : World) (h : RowI w b o xs) (h' : RowI w b' o' ws) (hs : RowI w b2 o2 (lst R)) (hv : Vl xs ws) (hn : xs.length = n) (hnw : ws.length = nw) (hR : poolR xs ws xs.length = R) (hm : R.length = m) :
    Calls Try.prog 68 #[.slice (some ⟨b, o, none⟩) n c, .slice (some ⟨b', o', none⟩) nw c', .slice (some ⟨b2, o2, none⟩) m c2] w
      fun e w' => ∃ g cap, e = .returned (.slice (some ⟨g, 0, none⟩) n cap) ∧ Blk w' g 29 (fc (rbb xs ws)) ∧ Below w.heap.size w w' := by
  have h8 := hv.n8
  have h0 := hv.n0
  have hpl := poolR_length xs ws xs.length
  subst hn hnw hm hR
  refine (sspread_any b o c b' o' c' b2 o2 c2 _ xs ws _ w h h' hs rfl hv poolR_dec1 (poolR_first h0) (by omega)).mono ?_
  rintro e w' ⟨v, rfl, ho, hb⟩
  obtain ⟨g, cap, rfl, hg⟩ := ho.shape (by omega)
  exact ⟨g, cap, rfl, ho.blk, hb⟩
theorem smissOf_as (b o c b' o' c' g2 cap2 n nw : Nat) (xs ws : List Int) (p : Rat) (w : World) (h : RowI w b o xs) (h' : RowI w b' o' ws) (hg2 : Blk w g2 29 (fc (rbb xs ws))) (hv : Vl xs ws) (hn : xs.length = n) (hnw : ws.length = nw) (hp : missR xs ws = p) :
    Calls Try.prog 67 #[.slice (some ⟨b, o, none⟩) n c, .slice (some ⟨b', o', none⟩) nw c', .slice (some ⟨g2, 0, none⟩) n cap2] w
      fun e w' => e = .returned (.agg #[.int .i64 (up p), .int .i64 (dn p)]) ∧ Below w.heap.size w w' := by
  subst hn hnw hp
  exact smissOf_any b o c b' o' c' g2 cap2 xs ws w h h' hg2 hv
theorem RowI.others' {w : World} {b o : Nat} {xs : List Int} {a : Addr} {v : Value} (h : RowI w b o xs) (ha : b ≠ a.block) : RowI (w.setCell a v) b o xs :=
  ⟨by rw [World.size_setCell]; exact h.blk, fun k hk => (World.cell?_of_block (a := ⟨b, o + k, none⟩) (Below.heap_setCell w a v b ha)).trans (h.cell k hk)⟩
theorem Blk.sets {w : World} {g : Nat} {e : TypeId} {x y : Value} (h : Blk w g e [x, y]) (u v : Value) : Blk ((w.setCell ⟨g, 0, none⟩ u).setCell ⟨g, 1, none⟩ v) g e [u, v] := h.two u v

set_option maxHeartbeats 4000000 in
theorem riseTo_lt (b o c b' o' c' k : Nat) (xs ws : List Int) (q : Rat) (w : World) (h : RowI w b o xs) (h' : RowI w b' o' ws) (hv : Vl xs ws) (hk : k < xs.length) (hc : xs.length ≤ c) (hc' : ws.length ≤ c') (hq : peakT xs ws k = q) :
    Calls Try.prog 79 #[.slice (some ⟨b, o, none⟩) xs.length c, .slice (some ⟨b', o', none⟩) ws.length c', .int .i64 k] w
      fun e w' => e = .returned (.agg #[.int .i64 (up q), .int .i64 (dn q)]) ∧ Below w.heap.size w w' := by
  have hn8 := hv.n8
  have hn0 := hv.n0
  have hnw := hv.nw
  have hv1 := vl_take hv (k := k) (by omega)
  have hv2 := vl_drop hv (k := k) (by omega)
  have e1 : (xs.take k).length = k := by rw [List.length_take]; omega
  have e2 : (ws.take k).length = k := by rw [List.length_take]; omega
  have e3 : (xs.drop k).length = xs.length - k := List.length_drop
  have e4 : (ws.drop k).length = ws.length - k := List.length_drop
  have hsq := peak_sm hv (k := k) (by omega)
  have s1 := miss0_sm hv1 (by omega)
  have s2 := miss0_sm hv2 (by rw [List.length_reverse]; omega)
  rw [hq] at hsq
  unfold peakT at hq
  obtain ⟨R1, hR1⟩ : ∃ R, poolR (xs.take k) (ws.take k) (xs.take k).length = R := ⟨_, rfl⟩
  obtain ⟨m1, hm1⟩ : ∃ m, R1.length = m := ⟨_, rfl⟩
  obtain ⟨R2, hR2⟩ : ∃ R, poolR (xs.drop k).reverse (ws.drop k).reverse (xs.drop k).reverse.length = R := ⟨_, rfl⟩
  obtain ⟨m2, hm2⟩ : ∃ m, R2.length = m := ⟨_, rfl⟩
  obtain ⟨p1, hp1⟩ : ∃ p, missR (xs.take k) (ws.take k) = p := ⟨_, rfl⟩
  obtain ⟨p2, hp2⟩ : ∃ p, missR (xs.drop k).reverse (ws.drop k).reverse = p := ⟨_, rfl⟩
  rw [hp1] at hq s1
  rw [hp2] at hq s2
  have ss := sm_mul s1 s2
  have hz0 : (0 : Rat) + p1 = p1 := by grind
  have u0 : up (0 : Rat) = 0 := rfl
  have d0 : dn (0 : Rat) = 1 := rfl
  obtain ⟨z0, hz00⟩ : ∃ z : Rat, 0 = z := ⟨_, rfl⟩
  have q00 : qd 0 1 = z0 := by rw [qd_one, ← hz00]; rfl
  rw [hz00] at hz0 u0 d0
  have s1a := s1.1
  have s1b := s1.2.1
  have s1c := s1.2.2
  have P1 := Lib.hid (fun w => splus_any z0 p1 p1 hz0 w (by rw [d0]; omega) (by rw [d0, u0]; simp; omega))
  have P2 := Lib.hid (fun w => splus_any p1 p2 q hq w (by omega) (by omega))
  have F0 := Lib.hid (fun w => sfrac_as 0 1 z0 q00 w (by omega) (by omega) (by omega) (by omega) (by omega))
  have HZ0 := Lib.hid hz00
  clear hz00
  have V1 := Lib.hid hv1
  have V2 := Lib.hid hv2
  have H := Lib.hid h
  have H' := Lib.hid h'
  have E1 := Lib.hid e1
  have E2 := Lib.hid e2
  have E3 := Lib.hid e3
  have E4 := Lib.hid e4
  have HR1 := Lib.hid hR1
  have HR2 := Lib.hid hR2
  have HM1 := Lib.hid hm1
  have HM2 := Lib.hid hm2
  have HP1 := Lib.hid hp1
  have HP2 := Lib.hid hp2
  have HNW := Lib.hid hnw
  clear h h' hv hv1 hv2 hsq hq e1 e2 e3 e4 s1 s2 ss hR1 hR2 hm1 hm2 hp1 hp2 hz0 u0 d0 q00 s1a s1b s1c
  have hck : ¬ c = k := by omega
  have hck' : ¬ c' = k := by have := HNW.out; omega
  have hkw : k < ws.length := by have := HNW.out; omega
  obtain ⟨a0, ha0⟩ : ∃ a0 : Bool, decide (0 < k) = a0 := ⟨_, rfl⟩
  have ha1 : a0 = true ↔ 0 < k := by rw [← ha0]; simp
  have HA := Lib.hid ha1
  clear hnw ha1
  go_enter Try.func79, Try.ntmps79
  go_wp2_with fail
  have hh := sturned_as b (o + k) (c - k) (xs.length - k) (xs.drop k) (w.alloc (.cells #[.int .i64 0, .int .i64 0] 29)) ((H.out.drop k).below below_alloc) E3.out (by omega) (by omega)
  refine hh.mono ?_
  clear hh
  rintro e w1 ⟨g8, cap8, rfl, hg8, r8, hb1⟩
  have hz1 := hb1.size
  simp only [World.size_alloc] at hz1 hg8
  have k6 := (Blk.made w #[.int .i64 0, .int .i64 0] 29).below hb1
  have bA : Below w.heap.size w w1 := below_alloc.trans (hb1.mono (by simp))
  clear hb1
  go_wp2_with fail
  refine (F0.out _).mono ?_
  rintro e w2 ⟨rfl, hb2⟩
  have hz2 := hb2.size
  have k6 := k6.below hb2
  have r8 := r8.below hb2
  have bB : Below w.heap.size w w2 := bA.trans (hb2.mono (by omega))
  clear bA hb2
  go_upto_if 21 with fail
  obtain ⟨v3, hv3⟩ : ∃ v3 : World, v3 = w2.alloc (.cells #[.int .i64 (up z0), .int .i64 (dn z0)] 29) := ⟨_, rfl⟩
  obtain ⟨g9, hg9⟩ : ∃ g9, w2.heap.size = g9 := ⟨_, rfl⟩
  have b3 : Below w2.heap.size w2 v3 := by rw [hv3]; exact below_alloc
  have k9 : Blk v3 g9 29 (fc [z0]) := by rw [hv3, ← hg9]; exact Blk.made w2 #[.int .i64 (up z0), .int .i64 (dn z0)] 29
  have K6 := Lib.hid (k6.below b3)
  have R8 := Lib.hid (r8.below b3)
  have K9 := Lib.hid k9
  have B3 : Below w.heap.size w v3 := bB.trans (b3.mono bB.size)
  have hz9 : w.heap.size < g9 := by omega
  have h8l := r8.blk
  have hg89 : g8 ≠ g9 := by omega
  rw [hg9, ← hv3]
  clear hv3 b3 k9 k6 r8 bB hg9
  go_cut [] (fun wx => Blk wx g9 29 (fc [p1]) ∧ Blk wx w.heap.size 29 [.int .i64 0, .int .i64 0] ∧ RowI wx g8 0 (xs.drop k).reverse ∧ Below w.heap.size w wx)
  case first =>
    cases a0 with
    | false =>
      have hk0 : k = 0 := by
        have := HA.out
        simp at this
        omega
      have hp0 : z0 = p1 := by rw [← HZ0.out, ← HP1.out, hk0]; rfl
      have HPZ := Lib.hid hp0
      clear hk0 hp0
      go_wp2_with fail
      go_meet
      exact ⟨by rw [← HPZ.out]; exact K9.out, K6.out, R8.out, B3⟩
    | true =>
      have hk0 : k ≠ 0 := by have := HA.out.1 rfl; omega
      have hvl1 : Vl (xs.take k) (ws.take k) := by
        rcases V1.out with ⟨h1, _⟩ | h1
        · exact absurd (by rw [← E1.out, h1]; rfl) hk0
        · exact h1
      have HV1 := Lib.hid hvl1
      have x1 := K9.out.cell (j := 0) rfl
      have x2 := K9.out.cell (j := 1) rfl
      have f1 := K9.out.frozen 0
      have f2 := K9.out.frozen 1
      have l9 := K9.out.lt
      have q1 : (0 : Int) ≤ (k : Int) := by omega
      have q2 : (k : Int) ≤ (c : Int) := by omega
      have q3 : (k : Int) ≤ (c' : Int) := by omega
      clear hk0 hvl1
      obtain ⟨ι, W, hW0, hWm, hWb⟩ := good_worlds v3
      have y1 : ∀ i, (W i).cell? ⟨g9, 0, none⟩ = some (.int .i64 (up z0)) := fun i => keepC (hWb i) x1
      have y2 : ∀ i, (W i).cell? ⟨g9, 1, none⟩ = some (.int .i64 (dn z0)) := fun i => keepC (hWb i) x2
      have r1 : ∀ i, RowI (W i) b o (xs.take k) := fun i => (H.out.take k).below (B3.trans ((hWb i).mono B3.size))
      have r2 : ∀ i, RowI (W i) b' o' (ws.take k) := fun i => (H'.out.take k).below (B3.trans ((hWb i).mono B3.size))
      have RR1 := Lib.hid r1
      have RR2 := Lib.hid r2
      clear r1 r2 x1 x2 f1 f2
      go_upto_region 5 with fail
      (refine region_read_tail (C := fun w' => ∃ i, w' = W i) 13 (by kernel_rfl) (by kernel_rfl) hW0 ?_; simp only [List.take_succ_cons, List.take_zero, List.drop_succ_cons, List.drop_zero]; (repeat (refine wpRead_step (v := ?_) (by rfl) ?_ ?_; rotate_left; (focus (rintro _ ⟨iz, rfl⟩; first | (go_simp; done) | (go_simp; with_reducible rfl))); (try simp only [Act.put, List.setIfInBounds_toArray, List.set_cons_zero, List.set_cons_succ]))); refine wpRead_nil ?_)
      obtain ⟨i0, e0⟩ := hW0
      rw [e0]
      refine chainS_two ?_
      go_wp2_with fail
      refine (pool_as b o c b' o' c' k k m1 (xs.take k) (ws.take k) R1 _ (RR1.out _) (RR2.out _) HV1.out E1.out E2.out HR1.out HM1.out).mono ?_
      rintro e w4 ⟨g4, cap4, rfl, r4, hb4⟩
      obtain ⟨i4, rfl⟩ := hWm _ _ hb4
      go_wp2_with fail
      refine chainX_normal ⟨i4, rfl⟩ (chainS_two ?_)
      go_wp2_with fail
      refine (sspread_as b o c b' o' c' g4 0 cap4 k k m1 (xs.take k) (ws.take k) R1 _ (RR1.out _) (RR2.out _) r4 HV1.out E1.out E2.out HR1.out HM1.out).mono ?_
      rintro e w5 ⟨g5, cap5, rfl, k5, hb5⟩
      obtain ⟨i5, rfl⟩ := hWm _ _ hb5
      go_wp2_with fail
      refine chainX_normal ⟨i5, rfl⟩ (chainS_two ?_)
      go_wp2_with fail
      refine (smissOf_as b o c b' o' c' g5 cap5 k k (xs.take k) (ws.take k) p1 _ (RR1.out _) (RR2.out _) k5 HV1.out E1.out E2.out HP1.out).mono ?_
      rintro e w6 ⟨rfl, hb6⟩
      obtain ⟨i6, rfl⟩ := hWm _ _ hb6
      go_wp2_with fail
      refine chainX_normal ⟨i6, rfl⟩ (chainS_two ?_)
      go_wp2_with fail
      refine (P1.out _).mono ?_
      rintro e w7 ⟨rfl, hb7⟩
      obtain ⟨i7, rfl⟩ := hWm _ _ hb7
      go_wp2_with fail
      refine chainX_normal ⟨i7, rfl⟩ (chainS_one ?_)
      have b8 := hWb i7
      have kk9 := K9.out.below b8
      have ff1 := kk9.frozen 0
      have ff2 := kk9.frozen 1
      have y1 := kk9.cell (j := 0) rfl
      have y2 := kk9.cell (j := 1) rfl
      have l9' := kk9.lt
      go_wp2_with fail
      go_meet
      exact ⟨Blk.sets kk9 _ _, ((K6.out.below b8).other _ (by simp; omega)).other _ (by simp; omega), ((R8.out.below b8).others' hg89).others' hg89, ((B3.trans (b8.mono B3.size)).setCell (by simp; omega) _).setCell (by simp; omega) _⟩
  case rest =>
    obtain ⟨k9, k6, r8, bc⟩ := hcut
    have K9 := Lib.hid k9
    have K6 := Lib.hid k6
    have R8 := Lib.hid r8
    have l9 := k9.lt
    have t1 : decide (0 < xs.length - k) = true := by rw [decide_eq_true_eq]; omega
    have t2 : decide ((0 : Int) < ((xs.length - k : Nat) : Int)) = true := by rw [decide_eq_true_eq]; omega
    have hvl2 : Vl (xs.drop k).reverse (ws.drop k).reverse := by
      rcases V2.out with ⟨h1, _⟩ | h1
      · have := E3.out
        rw [← List.length_reverse, h1] at this
        simp at this
        omega
      · exact h1
    have HV2 := Lib.hid hvl2
    have zc := bc.size
    clear k9 k6 r8 hvl2 B3
    go_wp2_with fail
    have hh := sturned_as b' (o' + k) (c' - k) (ws.length - k) (ws.drop k) wc ((H'.out.drop k).below bc) E4.out (by have := HNW.out; omega) (by omega)
    refine hh.mono ?_
    clear hh
    rintro e w4 ⟨g10, cap10, rfl, hg10, r10, hb4⟩
    have K9 := Lib.hid (K9.out.below hb4)
    have K6 := Lib.hid (K6.out.below hb4)
    have R8 := Lib.hid (R8.out.below hb4)
    have B4 : Below w.heap.size w w4 := bc.trans (hb4.mono zc)
    have R10 := Lib.hid r10
    have z4 := B4.size
    clear r10 hb4 bc
    have x1 := K9.out.cell (j := 0) rfl
    have x2 := K9.out.cell (j := 1) rfl
    have l9b := K9.out.lt
    obtain ⟨ι, W, hW0, hWm, hWb⟩ := good_worlds w4
    have y1 : ∀ i, (W i).cell? ⟨g9, 0, none⟩ = some (.int .i64 (up p1)) := fun i => keepC (hWb i) x1
    have y2 : ∀ i, (W i).cell? ⟨g9, 1, none⟩ = some (.int .i64 (dn p1)) := fun i => keepC (hWb i) x2
    have r1 : ∀ i, RowI (W i) g8 0 (xs.drop k).reverse := fun i => R8.out.below (hWb i)
    have r2 : ∀ i, RowI (W i) g10 0 (ws.drop k).reverse := fun i => R10.out.below (hWb i)
    have RR1 := Lib.hid r1
    have RR2 := Lib.hid r2
    clear r1 r2 x1 x2
    go_upto_region 8 with fail
    (refine region_read_tail (C := fun w' => ∃ i, w' = W i) 7 (by kernel_rfl) (by kernel_rfl) hW0 ?_; simp only [List.take_succ_cons, List.take_zero, List.drop_succ_cons, List.drop_zero]; (repeat (refine wpRead_step (v := ?_) (by rfl) ?_ ?_; rotate_left; (focus (rintro _ ⟨iz, rfl⟩; first | (go_simp; done) | (go_simp; with_reducible rfl))); (try simp only [Act.put, List.setIfInBounds_toArray, List.set_cons_zero, List.set_cons_succ]))); refine wpRead_nil ?_)
    obtain ⟨i0, e0⟩ := hW0
    rw [e0]
    refine chainS_two ?_
    go_wp2_with fail
    refine (pool_as g8 0 cap8 g10 0 cap10 (xs.length - k) (ws.length - k) m2 (xs.drop k).reverse (ws.drop k).reverse R2 _ (RR1.out _) (RR2.out _) HV2.out (by rw [List.length_reverse]; exact E3.out) (by rw [List.length_reverse]; exact E4.out) HR2.out HM2.out).mono ?_
    rintro e w5 ⟨g4, cap4, rfl, r4, hb5⟩
    obtain ⟨i5, rfl⟩ := hWm _ _ hb5
    go_wp2_with fail
    refine chainX_normal ⟨i5, rfl⟩ (chainS_two ?_)
    go_wp2_with fail
    refine (sspread_as g8 0 cap8 g10 0 cap10 g4 0 cap4 (xs.length - k) (ws.length - k) m2 (xs.drop k).reverse (ws.drop k).reverse R2 _ (RR1.out _) (RR2.out _) r4 HV2.out (by rw [List.length_reverse]; exact E3.out) (by rw [List.length_reverse]; exact E4.out) HR2.out HM2.out).mono ?_
    rintro e w6 ⟨g5, cap5, rfl, k5, hb6⟩
    obtain ⟨i6, rfl⟩ := hWm _ _ hb6
    go_wp2_with fail
    refine chainX_normal ⟨i6, rfl⟩ (chainS_two ?_)
    go_wp2_with fail
    refine (smissOf_as g8 0 cap8 g10 0 cap10 g5 cap5 (xs.length - k) (ws.length - k) (xs.drop k).reverse (ws.drop k).reverse p2 _ (RR1.out _) (RR2.out _) k5 HV2.out (by rw [List.length_reverse]; exact E3.out) (by rw [List.length_reverse]; exact E4.out) HP2.out).mono ?_
    rintro e w7 ⟨rfl, hb7⟩
    obtain ⟨i7, rfl⟩ := hWm _ _ hb7
    go_wp2_with fail
    refine chainX_normal ⟨i7, rfl⟩ (chainS_two ?_)
    go_wp2_with fail
    refine (P2.out _).mono ?_
    rintro e w8 ⟨rfl, hb8⟩
    obtain ⟨i8, rfl⟩ := hWm _ _ hb8
    go_wp2_with fail
    refine chainX_normal ⟨i8, rfl⟩ (chainS_one ?_)
    have b8 := hWb i8
    have kk9 := K9.out.below b8
    have kk6 := K6.out.below b8
    have ff1 := kk9.frozen 0
    have ff2 := kk9.frozen 1
    have y1 := kk9.cell (j := 0) rfl
    have y2 := kk9.cell (j := 1) rfl
    have u1 := kk6.cell (j := 0) rfl
    have u2 := kk6.cell (j := 1) rfl
    have gg1 := kk6.frozen 0
    have gg2 := kk6.frozen 1
    have l6 := kk6.lt
    have l9c := kk9.lt
    have hne : w.heap.size ≠ g9 := by omega
    have v1 := (kk6.set 0 (.int .i64 (up q))).cell (j := 0) rfl
    have v2 := ((kk6.set 0 (.int .i64 (up q))).set 1 (.int .i64 (dn q))).cell (j := 1) rfl
    have bb8 : Below w.heap.size w (W i8) := B4.trans (b8.mono z4)
    have kk9' := (kk9.set 0 (.int .i64 (up q))).set 1 (.int .i64 (dn q))
    clear K9 K6 R8 R10
    go_wp2_with fail
    have kk6' := (kk6.other (a := ⟨g9, 0, none⟩) (.int .i64 (up q)) (Ne.symm hne)).other (a := ⟨g9, 1, none⟩) (.int .i64 (dn q)) (Ne.symm hne)
    have z1 := (kk6'.set 0 (.int .i64 (up q))).cell (j := 0) rfl
    have z2 := ((kk6'.set 0 (.int .i64 (up q))).set 1 (.int .i64 (dn q))).cell (j := 1) rfl
    refine bodyPost_ret (v := .agg #[.int .i64 (up q), .int .i64 (dn q)]) ?_ rfl ⟨rfl, ?_⟩
    · simp [results, Try.results79, go_sem, z1, z2]
    · exact (((bb8.setCell (by simp; omega) _).setCell (by simp; omega) _).setCell (Nat.le_refl _) _).setCell (Nat.le_refl _) _

end Go.Proofs.Ytcmbfkdhfdiamaa
