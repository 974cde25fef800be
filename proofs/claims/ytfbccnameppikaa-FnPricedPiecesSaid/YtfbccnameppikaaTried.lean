/- impl.PiecesTried's function: what one way to cut the numbers misses. -/
import Derived.Test.YtfbccnameppikaaCutF
import Derived.Test.YtfbccnameppikaaMisA
import Derived.Deep.DeepCutAuto
namespace Go.Proofs.Ytfbccnameppikaa
open Go.RowKit

/-- A row of pieces in memory. -/
structure Parts (w : World) (g : Nat) (L : List (List Int)) : Prop where
  blk : g < w.heap.size
  row : ∀ j, j < L.length → ∃ b o cap, w.cell? ⟨g, j, none⟩ = some (.slice (some ⟨b, o, none⟩) (gl L j).length cap) ∧ RowI w b o (gl L j)
theorem Parts.below {w w' : World} {g : Nat} {L : List (List Int)} (h : Parts w g L) (hb : Below w.heap.size w w') : Parts w' g L :=
  ⟨Nat.lt_of_lt_of_le h.blk hb.size, fun j hj => by
    obtain ⟨b, o, cap, h1, h2⟩ := h.row j hj
    exact ⟨b, o, cap, keepC hb h1, h2.below hb⟩⟩
theorem gl_eq {L : List (List Int)} {k : Nat} (h : k < L.length) : gl L k = L[k] := by unfold gl; simp [h]
theorem cSum_snoc (c : List Int → Rat) (L : List (List Int)) {k : Nat} (h : k < L.length) : cSum c (L.take (k + 1)) = cSum c (L.take k) + c (gl L k) := by
  rw [List.take_succ_eq_append_getElem h, cSum_append, cSum_one, gl_eq h]
theorem IsCut.at {xs : List Int} {L : List (List Int)} (h : IsCut xs L) (h30 : In30 xs) {k : Nat} (hk : k < L.length) : 1 ≤ (gl L k).length ∧ (gl L k).length ≤ xs.length ∧ In30 (gl L k) := by
  have hm : L[k] ∈ L := List.getElem_mem hk
  rw [gl_eq hk]
  refine ⟨List.length_pos_iff.2 (h.ne _ hm), ?_, fun x hx => h30 x ?_⟩
  · rw [← h.join]
    exact (List.sublist_flatten_of_mem hm).length_le
  · rw [← h.join]
    exact List.mem_flatten.2 ⟨_, hm, hx⟩

/-- The best so far, behind one more way. -/
def triedQ (p : Int) (L : List (List Int)) (b : Rat) : Rat := if (L.length : Int) ≤ p then mnR b (cSum misQ L) else b

set_option maxHeartbeats 4000000 in
theorem tried1_any (p1 g2 gp cp m : Nat) (p : Int) (xs : List Int) (L : List (List Int)) (bq : Rat) (w : World) (h : Parts w gp L) (hm : L.length = m) (hL : IsCut xs L) (h8 : xs.length ≤ 8) (h30 : In30 xs)
    (hp : w.cell? ⟨p1, 0, none⟩ = some (.int .i64 p)) (hk : Blk w g2 27 (fc [bq])) (hb : Pq 6048000 bq) :
    Calls Try.prog 31 #[.slice (some ⟨gp, 0, none⟩) m cp, .pointer (some ⟨p1, 0, none⟩), .pointer (some ⟨g2, 0, none⟩)] w
      fun e w' => e = .returned (.tuple #[]) ∧ Blk w' g2 27 (fc [triedQ p L bq]) ∧ w.grownBy w' (some g2) := by
  have H := Lib.hid h
  have HM := Lib.hid hm
  have HL := Lib.hid hL
  have H30 := Lib.hid h30
  have HK := Lib.hid hk
  have HB := Lib.hid hb
  have hlm : m ≤ 8 := by have := hL.len; omega
  have g2w := hk.lt
  obtain ⟨q0, hq0⟩ : ∃ q0, qd 0 1 = q0 := ⟨_, rfl⟩
  have W0 := Lib.hid (fun w => (hq0 ▸ whole_any 0 w : Calls Try.prog 32 #[.int .i64 0] w fun e w' => e = .returned (.agg #[.int .i64 (up q0), .int .i64 (dn q0)]) ∧ Below w.heap.size w w'))
  have HQ0 := Lib.hid (show cSum misQ (L.take 0) = q0 by rw [← hq0]; unfold qd; simp [cSum])
  have HST := Lib.hid (fun k (hk : k < m) => cSum_snoc misQ L (k := k) (by omega))
  have HSQ := Lib.hid (fun k => cSum_take misQ_good hL h8 h30 k)
  have HAT := Lib.hid (fun k (hk : k < m) => hL.at h30 (k := k) (by omega))
  have HTK := Lib.hid (show L.take m = L by rw [← hm, List.take_length])
  clear h hm hL h30 hk hb hq0
  go_enter Try.func31, Try.ntmps31
  go_wp2_with (go_at_call 32; refine (W0.out _).mono ?_; rintro e w1 ⟨rfl, hb1⟩; have hz1 := hb1.size)
  obtain ⟨g4, hg4⟩ : ∃ g4, w1.heap.size = g4 := ⟨_, rfl⟩
  have k4 : Blk (w1.alloc (.cells #[.int .i64 (up q0), .int .i64 (dn q0)] 27)) g4 27 (fc [q0]) := by rw [← hg4]; exact Blk.made w1 #[.int .i64 (up q0), .int .i64 (dn q0)] 27
  have bw : Below w.heap.size w (w1.alloc (.cells #[.int .i64 (up q0), .int .i64 (dn q0)] 27)) := hb1.alloc hz1 _
  rw [hg4] at hz1 ⊢
  have K4 := Lib.hid k4
  have BW := Lib.hid bw
  obtain ⟨w3, hw3⟩ : ∃ w3, w1.alloc (.cells #[.int .i64 (up q0), .int .i64 (dn q0)] 27) = w3 := ⟨_, rfl⟩
  rw [hw3] at K4 BW ⊢
  clear k4 bw hb1 hg4 hw3
  go_loopw [10] (fun v10 wr => ∃ k : Nat, v10 = .int .i64 k ∧ k ≤ m ∧ Blk wr g4 27 (fc [cSum misQ (L.take k)]) ∧ Below w.heap.size w wr) (fun v10 _ => m - (intOf v10).toNat)
  case atStart => exact ⟨0, rfl, Nat.zero_le _, by rw [HQ0.out]; exact K4.out, BW.out⟩
  case round =>
    clear K4 BW
    obtain ⟨k, rfl, hk, hk4, hbw⟩ := hrel
    have hz := hbw.size
    have l4 := hk4.lt
    obtain ⟨x1, x2⟩ := hk4.one0
    have f1 := hk4.frozen 0
    have f2 := hk4.frozen 1
    have K4 := Lib.hid hk4
    have BW := Lib.hid hbw
    have s1 := HSQ.out k
    by_cases hlt : k < m
    · have e1 := HST.out k hlt
      obtain ⟨a1, a2, a3⟩ := HAT.out k hlt
      obtain ⟨bb, oo, cc, y1, r1⟩ := (H.out.below hbw).row k (by rw [HM.out]; exact hlt)
      obtain ⟨l, hl⟩ : ∃ l, gl L k = l := ⟨_, rfl⟩
      rw [hl] at e1 a1 a2 a3 y1 r1
      obtain ⟨ll, hll⟩ : ∃ ll, l.length = ll := ⟨_, rfl⟩
      rw [hll] at a1 a2 y1
      have s2 : Pq 6048000 (misQ l) := (misQ_good l (List.length_pos_iff.1 (by omega)) (by omega) a3).mono (by omega)
      obtain ⟨mq, hmq⟩ : ∃ mq, misQ l = mq := ⟨_, rfl⟩
      rw [hmq] at s2 e1
      obtain ⟨sq, hsq⟩ : ∃ sq, cSum misQ (L.take k) = sq := ⟨_, rfl⟩
      rw [hsq] at s1 e1 x1 x2
      obtain ⟨nq, hnq⟩ : ∃ nq, sq + mq = nq := ⟨_, rfl⟩
      rw [hnq] at e1
      have o1 := plus_ok s1 s2
      have PM := Lib.hid (fun w (h : RowI w bb oo l) => pieceMiss_any bb oo cc ll l mq w h hll a1 (by omega) a3 hmq)
      have PP := Lib.hid (fun w => plus_any sq mq nq hnq w (by omega) (by omega))
      have E1 := Lib.hid e1
      have R1 := Lib.hid r1
      clear hk4 hbw s1 e1 a1 a2 a3 r1 hl hll s2 hmq hsq hnq o1
      go_upto_region 4 with fail
      obtain ⟨ι, W, hW0, hWm, hWb⟩ := good_worlds wr
      have hWn : Nonempty ι := hW0.elim fun i _ => ⟨i⟩
      have z1 : ∀ i, (W i).cell? ⟨g4, 0, none⟩ = some (.int .i64 (up sq)) := fun i => keepC (hWb i) x1
      have z2 : ∀ i, (W i).cell? ⟨g4, 1, none⟩ = some (.int .i64 (dn sq)) := fun i => keepC (hWb i) x2
      have z6 : ∀ i, (W i).frozen? ⟨g4, 0, none⟩ = false := fun i => keepF (hWb i) l4 f1
      have z7 : ∀ i, (W i).frozen? ⟨g4, 1, none⟩ = false := fun i => keepF (hWb i) l4 f2
      (refine region_quiet_tail (C := fun w' => ∃ i, w' = W i) 4 (by kernel_rfl) (by kernel_rfl) hW0 ?_; simp only [List.take_succ_cons, List.take_zero, List.drop_succ_cons, List.drop_zero]; (repeat (go_big_quiet_step (first
        | (go_at_call 29; exact (PM.out _ (R1.out.below (hWb _))).mono fun e w'' h => ⟨h.1, hWm _ _ h.2⟩)
        | (go_at_call 33; exact (PP.out _).mono fun e w'' h => ⟨h.1, hWm _ _ h.2⟩)))); refine wpQuiet_nil ?_; rintro _ ⟨iw, rfl⟩)
      go_wp2
      go_roundw
      case rel =>
        refine ⟨k + 1, by go_num, hlt, ?_, ((BW.out.trans ((hWb iw).mono hz)).setCell hz1 _).setCell hz1 _⟩
        rw [E1.out]
        exact (K4.out.below (hWb iw)).two (x := .int .i64 (up (cSum misQ (L.take k)))) (y := .int .i64 (dn (cSum misQ (L.take k)))) _ _
      case measure => simp [intOf]; omega
    · have hkm : k = m := by omega
      rw [hkm, HTK.out] at s1 x1 x2
      have k2 := HK.out.below hbw
      obtain ⟨c1, c2⟩ := k2.one0
      have f3 := k2.frozen 0
      have f4 := k2.frozen 1
      have K2 := Lib.hid k2
      have c3 := keepC hbw hp
      have g2r : g2 < wr.heap.size := by omega
      have o2 := less_ok (s1.mono (show (6048000 : Int) ≤ 12096000 by omega)) (HB.out.mono (show (6048000 : Int) ≤ 12096000 by omega))
      obtain ⟨sq, hsq⟩ : ∃ sq, cSum misQ L = sq := ⟨_, rfl⟩
      rw [hsq] at s1 x1 x2 o2
      have HT : triedQ p L bq = if (m : Int) ≤ p then mnR bq sq else bq := by unfold triedQ; rw [HM.out, hsq]
      have HT := Lib.hid HT
      have LW := Lib.hid (fun w => less_any sq bq w (by omega) (by omega))
      clear hk4 k2 s1 o2 hsq hkm hp
      have hgr : ∀ w' : World, Below wr.heap.size wr w' → w.grownBy w' (some g2) := fun w' h =>
        have h := hbw.trans (h.mono hz)
        ⟨h.os, h.tape, h.output, h.size, fun k hk _ => h.block k hk⟩
      have HG := Lib.hid hgr
      clear hgr hbw
      by_cases hle : (m : Int) ≤ p
      · have E1 := Lib.hid (show triedQ p L bq = mnR bq sq by rw [HT.out, if_pos hle])
        by_cases hc : sq < bq
        · have t1 : decide (sq < bq) = true := by simpa using hc
          have E2 := Lib.hid (show triedQ p L bq = sq by rw [E1.out, mnR, if_pos hc])
          clear hc
          go_wp2_with (go_at_call 34; refine (LW.out _).mono ?_; rintro e w5 ⟨rfl, hb5⟩; have x1 := keepC hb5 x1; have x2 := keepC hb5 x2; have c1 := keepC hb5 c1; have c2 := keepC hb5 c2; have f3 := keepF hb5 g2r f3; have f4 := keepF hb5 g2r f4; have z5 := Nat.lt_of_lt_of_le g2r hb5.size)
          go_end0
          refine ⟨rfl, ?_, grownBy_set (grownBy_set (HG.out _ hb5) _) _⟩
          rw [E2.out]
          exact (K2.out.below hb5).two (x := .int .i64 (up bq)) (y := .int .i64 (dn bq)) _ _
        · have t1 : decide (sq < bq) = false := by simpa using hc
          have E2 := Lib.hid (show triedQ p L bq = bq by rw [E1.out, mnR, if_neg hc])
          clear hc
          go_wp2_with (go_at_call 34; refine (LW.out _).mono ?_; rintro e w5 ⟨rfl, hb5⟩)
          go_end0
          exact ⟨rfl, by rw [E2.out]; exact K2.out.below hb5, HG.out _ hb5⟩
      · have E2 := Lib.hid (show triedQ p L bq = bq by rw [HT.out, if_neg hle])
        go_wp2_with fail
        go_end0
        exact ⟨rfl, by first | exact K2.out | (rw [E2.out]; exact K2.out), HG.out _ (Below.refl _ _)⟩

end Go.Proofs.Ytfbccnameppikaa
