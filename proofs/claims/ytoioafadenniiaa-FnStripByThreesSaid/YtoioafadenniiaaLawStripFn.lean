/- The law laws.FnStripByThrees returns true for all codes, and changes no memory that was there. -/
import Derived.Test.YtoioafadenniiaaStripR
import Derived.Test.YtoioafadenniiaaCloudGen
namespace Go.Proofs.Ytoioafadenniiaa
open Go.RowKit

set_option maxHeartbeats 8000000 in
set_option maxRecDepth 100000 in
theorem FnStripByThrees_main (ad : Option Addr) (n c : Nat) (w : World) (h : CodeB w w.heap.size ad n) (hn : n ≤ 1048576) (hc : n ≤ c) :
    Calls Try.prog 8 #[.slice ad n c] w fun e w' => e = .returned (.bool true) ∧ Below w.heap.size w w' := by
  have H := Lib.hid h
  clear h
  go_enter Try.func8, Try.ntmps8
  go_wp2_with fail
  refine (drawStripByThrees_any ad n c w H.out (by omega) hc).mono ?_
  rintro e w2 ⟨g1, c1, g2, c2, xs, ys, rfl, k1, k2, r1, r2, l1, l2, hb2⟩
  have R1 := Lib.hid r1
  have R2 := Lib.hid r2
  have z2 := hb2.size
  obtain ⟨u, d, f, hv⟩ := stv_some xs ys
  have CI := Lib.hid (fun w (h : RowI w g1 0 xs) (h' : RowI w g2 0 ys) => strip_all g1 0 c1 g2 0 c2 xs ys w u d f hv h h' (by omega) (by omega))
  have CS := Lib.hid (fun w (h : RowI w g1 0 xs) (h' : RowI w g2 0 ys) => sstrip_all g1 0 c1 g2 0 c2 xs ys w u d f hv h h' (by omega) (by omega))
  have HV := Lib.hid hv
  clear r1 r2 hv
  go_upto_region 5 with (go_at_call 19; refine (CI.out _ R1.out R2.out).mono ?_; rintro e w3 ⟨rfl, b3⟩)
  obtain ⟨g5, hg5⟩ : ∃ g, w3.heap.size = g := ⟨_, rfl⟩
  rw [hg5]
  have z3 := b3.size
  refine wp_abstract (fun W => Blk W g5 31 [.int .i64 u, .int .i64 d] ∧ Below w2.heap.size w2 W) ⟨Blk.made' _ hg5.symm rfl, by (repeat' (first | (with_reducible exact Below.refl _ _) | (with_reducible assumption) | (with_reducible refine Below.drewN ?_ _) | (with_reducible refine Below.alloc ?_ ?_ _) | (with_reducible refine Below.drew ?_) | (with_reducible refine Below.setCell ?_ ?_ _) | (with_reducible refine Below.trans ?_ (Below.mono (by assumption) ?_)) | go_size | (with_reducible refine Nat.le_trans ?_ (Below.size (by assumption)))))⟩ ?_
  rintro w4 ⟨k5, b4⟩
  have hg5w : w.heap.size ≤ g5 := by omega
  have R1 := Lib.hid (R1.out.below b4)
  have R2 := Lib.hid (R2.out.below b4)
  have K5 := Lib.hid k5
  have B4 := Lib.hid (hb2.trans (b4.mono z2))
  have z4 := b4.size
  clear k5 b4 b3 hb2 hg5 z3
  go_upto_region 6 with (go_at_call 18; refine (CS.out _ R1.out R2.out).mono ?_; rintro e w5 ⟨rfl, b5⟩)
  obtain ⟨g8, hg8⟩ : ∃ g, w5.heap.size = g := ⟨_, rfl⟩
  rw [hg8]
  have z5 := b5.size
  refine wp_abstract (fun W => Blk W g8 31 [.int .i64 u, .int .i64 d] ∧ Below w4.heap.size w4 W) ⟨Blk.made' _ hg8.symm rfl, by (repeat' (first | (with_reducible exact Below.refl _ _) | (with_reducible assumption) | (with_reducible refine Below.drewN ?_ _) | (with_reducible refine Below.alloc ?_ ?_ _) | (with_reducible refine Below.drew ?_) | (with_reducible refine Below.setCell ?_ ?_ _) | (with_reducible refine Below.trans ?_ (Below.mono (by assumption) ?_)) | go_size | (with_reducible refine Nat.le_trans ?_ (Below.size (by assumption)))))⟩ ?_
  rintro w6 ⟨k8, b6⟩
  have z6 := b6.size
  have R1 := Lib.hid (R1.out.below b6)
  have R2 := Lib.hid (R2.out.below b6)
  have K5 := Lib.hid (K5.out.below b6)
  have B6 := Lib.hid (B4.out.trans (b6.mono (by omega)))
  have x1 := K5.out.cell (j := 0) rfl
  have x2 := K5.out.cell (j := 1) rfl
  have x5 := k8.cell (j := 0) rfl
  have x6 := k8.cell (j := 1) rfl
  clear k8 b6 b5 hg8 z5 B4 CS CI
  cases f with
  | false =>
    go_wp2_with fail
    go_ret
    exact ⟨rfl, B6.out⟩
  | true =>
    obtain ⟨hcb, m, hm, hu, hd⟩ : clB xs ys = true ∧ ∃ m, Top (StR xs ys) m ∧ u = up m ∧ d = dn m := by
      rcases HV.out with ⟨h, _⟩ | ⟨_, h⟩
      · cases h
      · exact h
    subst hu hd
    have hcl := cl_of hcb
    have hst := strips_of hcl hm
    obtain ⟨q, hq⟩ : ∃ q, xs.length = q := ⟨_, rfl⟩
    have hq' : ys.length = q := by rw [← hq]; exact hcl.pl.ne
    have n0 := hcl.pl.n0
    have n7 := hcl.pl.nm
    have CT1 := Lib.hid (fun w (h : RowI w g1 0 xs) => turned_n g1 0 c1 q xs w h hq (by omega) (by omega))
    have CT2 := Lib.hid (fun w (h : RowI w g2 0 ys) => turned_n g2 0 c2 q ys w h hq' (by omega) (by omega))
    have CN := Lib.hid (fun w (h : RowI w g2 0 ys) => negated_n g2 0 c2 q ys w h hq' (by omega) (by omega) (fun k hk => hcl.pl.y k (by omega)))
    have lr1 : (revT xs).length = q := (revT_length xs).trans hq
    have lr2 : (revT ys).length = q := (revT_length ys).trans hq'
    have ln : (negT ys).length = q := (negT_length ys).trans hq'
    have CA := Lib.hid (fun w a ca b cb (h : RowI w a 0 (revT xs)) (h' : RowI w b 0 (revT ys)) => strip_m a 0 ca b 0 cb (revT xs) (revT ys) m w h h' hst.rev.1 hst.rev.2)
    rw [lr1, lr2] at CA
    have CB := Lib.hid (fun w b cb (h : RowI w g1 0 xs) (h' : RowI w b 0 (negT ys)) => strip_m g1 0 c1 b 0 cb xs (negT ys) m w h h' hst.neg.1 hst.neg.2)
    rw [hq, ln] at CB
    obtain ⟨p, hp⟩ : ∃ p, q = p + 1 := ⟨q - 1, by omega⟩
    obtain ⟨u3, d3, f3, hv3⟩ := stv_some (xs.take p) (ys.take p)
    have lt1 : (xs.take p).length = p := by rw [List.length_take]; omega
    have lt2 : (ys.take p).length = p := by rw [List.length_take]; omega
    have CF := Lib.hid (fun w (h : RowI w g1 0 xs) (h' : RowI w g2 0 ys) => strip_all g1 0 c1 g2 0 c2 (xs.take p) (ys.take p) w u3 d3 f3 hv3 (h.take p) (h'.take p) (by omega) (by omega))
    rw [lt1, lt2] at CF
    have LESS : f3 = true → ∀ w, Calls Try.prog 36 #[.agg #[.int .i64 (up m), .int .i64 (dn m)], .agg #[.int .i64 u3, .int .i64 d3]] w fun e w' => e = .returned (.bool false) ∧ Below w.heap.size w w' := by
      intro hf w
      rcases hv3 with ⟨h, _⟩ | ⟨_, hc3, l, hl, rfl, rfl⟩
      · rw [h] at hf; cases hf
      · have hle := hst.few l (by rw [hq, show q - 1 = p by omega]; exact hl)
        have s1 := hm.1.sm hcl.pl
        have s2 := hl.1.sm (cl_of hc3).pl
        have := lless_any m l w (by have := (sm_mul s1 s2).2; omega)
        rw [show decide (m < l) = false from by rw [decide_eq_false_iff_not]; grind] at this
        exact this
    have HL := Lib.hid LESS
    have q1 : IntKind.i64.wrap ((q : Int) - 1) = (p : Int) := by rw [IntWalk.i64_in _ (by omega)]; omega
    have hpc1 : p ≤ c1 := by omega
    have hpc2 : p ≤ c2 := by omega
    rw [hq, hq']
    clear hcb hcl hst hq hq' n0 n7 hv3 lt1 lt2 lr1 lr2 ln LESS l1 l2 HV hp
    go_upto_region 10 with (first
      | (go_at_call_of 24 g1; refine (CT1.out _ R1.out).mono ?_; rintro e w7 ⟨g7, c7, rfl, k7, r7, b7⟩)
      | (go_at_call_of 24 g2; refine (CT2.out _ (R2.out.below b7)).mono ?_; rintro e w8 ⟨g9, c9, rfl, k9, r9, b8⟩)
      | (go_at_call 19; refine (CA.out _ _ _ _ _ (r7.below b8) r9).mono ?_; rintro e w9 ⟨rfl, b9⟩))
    obtain ⟨g10, hg10⟩ : ∃ g, w9.heap.size = g := ⟨_, rfl⟩
    rw [hg10]
    have z7 := b7.size
    have z8 := b8.size
    have z9 := b9.size
    have bb : Below w6.heap.size w6 w9 := (b7.trans (b8.mono z7)).trans (b9.mono (by omega))
    refine wp_abstract (fun W => Blk W g10 31 [.int .i64 (up m), .int .i64 (dn m)] ∧ Below w6.heap.size w6 W) ⟨Blk.made' _ hg10.symm rfl, bb.alloc (by omega) _⟩ ?_
    rintro w10 ⟨k10, b10⟩
    have R1 := Lib.hid (R1.out.below b10)
    have R2 := Lib.hid (R2.out.below b10)
    have K5 := Lib.hid (K5.out.below b10)
    have K10 := Lib.hid k10
    have B10 := Lib.hid (B6.out.trans (b10.mono (by omega)))
    have z10 := b10.size
    clear k10 b10 bb b9 b8 b7 r7 r9 CT1 CT2 CA hg10 x1 x2 x5 x6 B6
    go_upto_region 11 with (first
      | (go_at_call 35; refine (CN.out _ R2.out).mono ?_; rintro e w11 ⟨g11, c11, rfl, k11, r11, b11⟩)
      | (go_at_call 19; refine (CB.out _ _ _ (R1.out.below b11) r11).mono ?_; rintro e w12 ⟨rfl, b12⟩))
    obtain ⟨g12, hg12⟩ : ∃ g, w12.heap.size = g := ⟨_, rfl⟩
    rw [hg12]
    have z11 := b11.size
    have z12 := b12.size
    have bb : Below w10.heap.size w10 w12 := b11.trans (b12.mono z11)
    refine wp_abstract (fun W => Blk W g12 31 [.int .i64 (up m), .int .i64 (dn m)] ∧ Below w10.heap.size w10 W) ⟨Blk.made' _ hg12.symm rfl, bb.alloc (by omega) _⟩ ?_
    rintro w13 ⟨k12, b13⟩
    have R1 := Lib.hid (R1.out.below b13)
    have R2 := Lib.hid (R2.out.below b13)
    have K5 := Lib.hid (K5.out.below b13)
    have K10 := Lib.hid (K10.out.below b13)
    have K12 := Lib.hid k12
    have B13 := Lib.hid (B10.out.trans (b13.mono (by have := B10.out.size; omega)))
    have z13 := b13.size
    clear k12 b13 bb b12 b11 r11 CN CB hg12 B10
    go_cut [14, 15] (fun s14 s15 wx => ∃ g14, s14 = .pointer (some ⟨g14, 0, none⟩) ∧ s15 = .bool f3 ∧ Blk wx g14 31 [.int .i64 u3, .int .i64 d3] ∧ Below w13.heap.size w13 wx)
    case first =>
      go_region_held3 (fun w' => Below w13.heap.size w13 w') ((first | exact Below.refl _ _ | (repeat' (first | (with_reducible exact Below.refl _ _) | (with_reducible assumption) | (with_reducible refine Below.drewN ?_ _) | (with_reducible refine Below.alloc ?_ ?_ _) | (with_reducible refine Below.drew ?_) | (with_reducible refine Below.setCell ?_ ?_ _) | (with_reducible refine Below.trans ?_ (Below.mono (by assumption) ?_)) | go_size | (with_reducible refine Nat.le_trans ?_ (Below.size (by assumption)))))))
        ((go_at_call 19; have hS : Below w13.heap.size w13 _ := (by assumption); refine (CF.out _ (R1.out.below hS) (R2.out.below hS)).mono ?_; rintro e w14 ⟨rfl, b14⟩; obtain ⟨hc14, hf14⟩ := bcell b14; have z14 := b14.size; simp only [World.size_drew, World.size_alloc] at z14))
      all_goals go_wp2_with fail
      all_goals go_meet
      all_goals refine ⟨_, rfl, rfl, by (repeat' (first | ((with_reducible refine Blk.made' _ ?_ ?_) <;> first | rfl | (simp; done)) | (with_reducible refine Blk.two (x := .int .i64 0) (y := .int .i64 0) ?_ _ _) | (with_reducible refine Blk.drews ?_) | (with_reducible refine Blk.allocs ?_ _) | ((with_reducible refine Blk.others ?_ ?_); rotate_left; (focus (first | (simp; done) | (simp; omega)))) | (with_reducible refine Blk.below ?_ (by with_reducible assumption)))), by (repeat' (first | (with_reducible exact Below.refl _ _) | (with_reducible assumption) | (with_reducible refine Below.drewN ?_ _) | (with_reducible refine Below.alloc ?_ ?_ _) | (with_reducible refine Below.drew ?_) | (with_reducible refine Below.setCell ?_ ?_ _) | (with_reducible refine Below.trans ?_ (Below.mono (by assumption) ?_)) | go_size | (with_reducible refine Nat.le_trans ?_ (Below.size (by assumption)))))⟩
    case rest =>
      obtain ⟨g14, rfl, rfl, k14, b14⟩ := hcut
      have x1 := (K5.out.below b14).cell (j := 0) rfl
      have x2 := (K5.out.below b14).cell (j := 1) rfl
      have x3 := (K10.out.below b14).cell (j := 0) rfl
      have x4 := (K10.out.below b14).cell (j := 1) rfl
      have x5 := (K12.out.below b14).cell (j := 0) rfl
      have x6 := (K12.out.below b14).cell (j := 1) rfl
      have x7 := k14.cell (j := 0) rfl
      have x8 := k14.cell (j := 1) rfl
      have B14 := Lib.hid (B13.out.trans (b14.mono (by have := B13.out.size; omega)))
      clear K5 K10 K12 k14 b14
      cases f3 with
      | false =>
        go_wp2_with fail
        go_ret
        exact ⟨rfl, B14.out⟩
      | true =>
        go_wp2_with (go_at_call 36; refine (HL.out rfl _).mono ?_; rintro e w15 ⟨rfl, b15⟩)
        go_ret
        exact ⟨rfl, B14.out.trans (b15.mono (by have := B14.out.size; omega))⟩

set_option maxHeartbeats 400000 in
theorem FnStripByThrees_long (ad : Option Addr) (n c : Nat) (w : World) (h : 1048576 < n) (h1 : n ≤ 9223372036854775807) :
    Calls Try.prog 8 #[.slice ad n c] w fun e w' => e = .returned (.bool true) ∧ Below w.heap.size w w' := by
  go_enter Try.func8, Try.ntmps8
  go_wp2_with fail
  go_ret
  exact ⟨rfl, Below.refl _ _⟩

end Go.Proofs.Ytoioafadenniiaa
