/- The value of a curve: impl.CurveAt. -/
import Derived.Test.YtoioafadenniiaaSCurAt
import Derived.Test.YtoioafadenniiaaBwdF
import Derived.Laws.EntriesVeiled
namespace Go.Proofs.Ytoioafadenniiaa
open Go.RowKit Go.Shelf

attribute [local go_sem] Oper.semAt_some

set_option maxHeartbeats 8000000 in
set_option maxRecDepth 100000 in
theorem curAt_yes (b o c b' o' c' m : Nat) (xs ys : List Int) (x : Int) (q : Rat) (w : World) (h : RowI w b o xs) (h' : RowI w b' o' ys) (hc : caB xs ys x = true) (hm : xs.length = m) (hcap : m ≤ c) (hq : cA xs ys x m m = q) :
    Calls Try.prog 22 #[.slice (some ⟨b, o, none⟩) m c, .slice (some ⟨b', o', none⟩) m c', .int .i64 x] w
      fun e w' => e = .returned (.tuple #[.agg #[.int .i64 (up q), .int .i64 (dn q)], .bool true]) ∧ Below w.heap.size w w' := by
  unfold caB crB at hc
  simp only [Bool.and_eq_true] at hc
  obtain ⟨⟨hpl, hdf⟩, hxi⟩ := hc
  have hp : Pl xs ys 5 := pl_of (m := 5) hpl
  have hd : Df xs := dfB_iff.1 hdf
  have hx := inB_iff.1 hxi
  have n5 := hp.nm
  have n1 := hp.n0
  rw [hm] at n5 n1
  have CC := Lib.hid (fun w (h : RowI w b o xs) (h' : RowI w b' o' ys) => curve_pl b o c b' o' c' m xs ys true w h h' hpl hm hcap hdf)
  have IX := Lib.hid (fun w => hxi ▸ in_any x (-12) 12 w)
  have ST := Lib.hid (fun j (hj : j < m) => cA_cs hp hd hx hm j hj)
  have SU := Lib.hid (fun j (hj : j < m) => cA_succ xs ys x m j)
  have lv : (cvL xs ys m).length = m := tab_length _ _
  have LV := Lib.hid lv
  have GV := Lib.hid (fun k (hk : k < m) => show gq (cvL xs ys m) k = dd xs ys k 0 from gq_tab hk)
  have HX := Lib.hid (fun i (hi : i < m) => hp.x i (by omega))
  have HQ := Lib.hid hq
  have H := Lib.hid h
  have H' := Lib.hid h'
  have HMM := Lib.hid hm
  obtain ⟨x1, x2⟩ := hx
  clear h h' hpl hdf hxi hp hd hq hm lv
  refine (callsIn_wide (n := 5)).1 ?_
  refine callsIn_of_wp_marks Try.func22 rfl trivial ?_ rfl
  simp only [Try.ntmps22, List.size_toArray, List.length_cons, List.length_nil, Nat.reduceAdd, Nat.reduceSub, Array.replicate_succ, Array.replicate_zero, List.push_toArray, List.append_toArray, List.nil_append, List.cons_append]
  gi_wp2_with fail
  have a0 := Blk.made w #[.slice (some ⟨b, o, none⟩) m c] 22
  have a1 := Blk.made (w.alloc (.cells #[.slice (some ⟨b, o, none⟩) m c] 22)) #[.int .i64 x] 3
  have a2 := Blk.made ((w.alloc (.cells #[.slice (some ⟨b, o, none⟩) m c] 22)).alloc (.cells #[.int .i64 x] 3)) #[.int .i64 0, .int .i64 0] 31
  have aB : Below w.heap.size w (((w.alloc (.cells #[.slice (some ⟨b, o, none⟩) m c] 22)).alloc (.cells #[.int .i64 x] 3)).alloc (.cells #[.int .i64 0, .int .i64 0] 31)) := by (repeat' (first | (with_reducible exact Below.refl _ _) | (with_reducible assumption) | (with_reducible refine Below.drewN ?_ _) | (with_reducible refine Below.alloc ?_ ?_ _) | (with_reducible refine Below.drew ?_) | (with_reducible refine Below.setCell ?_ ?_ _) | (with_reducible refine Below.trans ?_ (Below.mono (by assumption) ?_)) | go_size | (with_reducible refine Nat.le_trans ?_ (Below.size (by assumption)))))
  replace a0 := (a0.below (below_alloc (o := .cells #[.int .i64 x] 3))).below (below_alloc (o := .cells #[.int .i64 0, .int .i64 0] 31))
  replace a1 := a1.below (below_alloc (o := .cells #[.int .i64 0, .int .i64 0] 31))
  simp only [World.size_alloc] at a1 a2
  have aS : (((w.alloc (.cells #[.slice (some ⟨b, o, none⟩) m c] 22)).alloc (.cells #[.int .i64 x] 3)).alloc (.cells #[.int .i64 0, .int .i64 0] 31)).heap.size = w.heap.size + 3 := by simp
  obtain ⟨W0, hW0⟩ : ∃ W0, ((w.alloc (.cells #[.slice (some ⟨b, o, none⟩) m c] 22)).alloc (.cells #[.int .i64 x] 3)).alloc (.cells #[.int .i64 0, .int .i64 0] 31) = W0 := ⟨_, rfl⟩
  rw [hW0] at a0 a1 a2 aB aS ⊢
  have A0 := Lib.hid a0
  have A1 := Lib.hid a1
  have A2 := Lib.hid a2
  have AB := Lib.hid aB
  clear a0 a1 a2 aB hW0
  refine ⟨trivial, (callsIn_wide.2 (CC.out _ (H.out.below AB.out) (H'.out.below AB.out))).mono ?_⟩
  rintro e w1 ⟨v, rfl, hr, b1⟩
  obtain ⟨g, rfl, hg, kg⟩ : ∃ g, v = .slice (some ⟨g, 0, none⟩) m m ∧ W0.heap.size ≤ g ∧ Blk w1 g 31 (fc (cvL xs ys m)) := by
    rcases hr with ⟨h, _⟩ | ⟨_, h⟩
    · cases h
    · exact h
  have z1 := b1.size
  have lg := kg.lt
  rw [aS] at z1 hg
  have A0 := Lib.hid (A0.out.below b1)
  have A1 := Lib.hid (A1.out.below b1)
  have A2 := Lib.hid (A2.out.below b1)
  have AB := Lib.hid (AB.out.trans (b1.mono (by omega)))
  have KG := Lib.hid kg
  have c1 := A1.out.cell (j := 0) rfl
  clear hr b1 kg aS
  gi_wp2_with fail
  refine ⟨trivial, (callsIn_wide.2 (IX.out _)).mono ?_⟩
  rintro e w2 ⟨rfl, rfl⟩
  gi_wp2_with fail
  refine ⟨trivial, (callsIn_wide.2 (whole_any 0 _)).mono ?_⟩
  rintro e w3 ⟨rfl, b3⟩
  have z3 := b3.size
  have A0 := Lib.hid (A0.out.below b3)
  have A1 := Lib.hid (A1.out.below b3)
  have A2 := Lib.hid (A2.out.below b3)
  have AB := Lib.hid (AB.out.trans (b3.mono (by omega)))
  have KG := Lib.hid (KG.out.below b3)
  clear b3 c1
  gi_wp2_with fail
  refine ⟨trivial, (callsIn_wide.2 (bwd_any _ _ _ _)).mono ?_⟩
  rintro e w4 ⟨rfl, rfl⟩
  obtain ⟨gV, hgV⟩ : ∃ g, w3.heap.size = g := ⟨_, rfl⟩
  have k10 := Blk.made w3 #[.int .i64 (up (qd 0 1)), .int .i64 (dn (qd 0 1))] 31
  have k4 := Blk.made (w3.alloc (.cells #[.int .i64 (up (qd 0 1)), .int .i64 (dn (qd 0 1))] 31)) #[.slice (some ⟨g, 0, none⟩) m m] 23
  replace k10 := k10.below (below_alloc (o := .cells #[.slice (some ⟨g, 0, none⟩) m m] 23))
  have bb : Below w3.heap.size w3 ((w3.alloc (.cells #[.int .i64 (up (qd 0 1)), .int .i64 (dn (qd 0 1))] 31)).alloc (.cells #[.slice (some ⟨g, 0, none⟩) m m] 23)) := ((Below.refl _ _).alloc (Nat.le_refl _) _).alloc (by simp) _
  have z4 : ((w3.alloc (.cells #[.int .i64 (up (qd 0 1)), .int .i64 (dn (qd 0 1))] 31)).alloc (.cells #[.slice (some ⟨g, 0, none⟩) m m] 23)).heap.size = w3.heap.size + 2 := by simp
  simp only [World.size_alloc] at k4 ⊢
  obtain ⟨W4, hW4⟩ : ∃ W4, (w3.alloc (.cells #[.int .i64 (up (qd 0 1)), .int .i64 (dn (qd 0 1))] 31)).alloc (.cells #[.slice (some ⟨g, 0, none⟩) m m] 23) = W4 := ⟨_, rfl⟩
  rw [hW4] at k10 k4 bb z4 ⊢
  have A0 := Lib.hid (A0.out.below bb)
  have A1 := Lib.hid (A1.out.below bb)
  have A2 := Lib.hid (A2.out.below bb)
  have AB := Lib.hid (AB.out.trans (bb.mono (by omega)))
  have KG := Lib.hid (KG.out.below bb)
  rw [hgV] at k10 k4 z4 z3 ⊢
  have K10 := Lib.hid k10
  have K4 := Lib.hid k4
  clear k10 k4 bb hW4 hgV
  obtain ⟨L, hL⟩ : ∃ L, cvL xs ys m = L := ⟨_, rfl⟩
  rw [hL] at KG LV GV
  clear hL
  have SQ : Cnt 4 Try.prog 87 #[.pointer (some ⟨gV + 1, 0, none⟩)] (fun j => #[.int .i64 ((m - 1 - j : Nat) : Int), .agg #[.int .i64 (up (gq L (m - 1 - j))), .int .i64 (dn (gq L (m - 1 - j)))]]) (KpB g (gV + 1)) m W4 := by
    have := bwd_cnt 4 (by omega) (gV + 1) g m L (by rw [LV.out]; omega) W4 (by omega) (by omega) (by rw [LV.out]; exact K4.out.cell (j := 0) rfl) (fun j hj => ⟨KG.out.f0 hj, KG.out.f1 hj⟩)
    unfold bwE at this
    simp only [LV.out] at this
    exact this
  have e10 : qd 0 1 = 0 := rfl
  rw [e10] at K10 ⊢
  have hBW := AB.out.size
  gi_wp2_with fail
  refine wpIn_rangeFunc_cnt (by omega) (gf := 87) (lb := #[.pointer (some ⟨gV + 1, 0, none⟩)]) rfl (enters_of Try.func87 (by kernel_rfl) rfl)
    SQ KpB.trans (kpB_b (by omega) (by omega)) (fun _ => rfl)
    (fun j W => (W.cell? ⟨w.heap.size, 0, none⟩ = some (.slice (some ⟨b, o, none⟩) m c) ∧ W.cell? ⟨w.heap.size + 1, 0, none⟩ = some (.int .i64 x) ∧ Blk W (w.heap.size + 1 + 1) 31 [.int .i64 0, .int .i64 0] ∧
      Blk W gV 31 [.int .i64 (up (cA xs ys x m j)), .int .i64 (dn (cA xs ys x m j))] ∧ Blk W (gV + 1) 23 [.slice (some ⟨g, 0, none⟩) m m]) ∧ Below w.heap.size w W)
    (OwnFrom.and (Own.from (fun s A B row hs hg hr => ⟨cell_kept hs.1 hg hr, cell_kept hs.2.1 hg hr, blk_kept hs.2.2.1 hg hr, blk_kept hs.2.2.2.1 hg hr, blk_kept hs.2.2.2.2 hg hr⟩) _) (ownFrom_below (Nat.le_refl _) (by omega)))
    ⟨⟨A0.out.cell (j := 0) rfl, A1.out.cell (j := 0) rfl, A2.out, K10.out, K4.out⟩, AB.out⟩
    (fun j a' W => ∃ Bf, gV + 2 ≤ Bf ∧ Blk W Bf 31 [.int .i64 (up (gq L (m - 1 - j))), .int .i64 (dn (gq L (m - 1 - j)))] ∧ a' = { tmps := #[.slice (some ⟨b, o, none⟩) m c, .slice (some ⟨b', o', none⟩) m c', .int .i64 x, .pointer (some ⟨w.heap.size, 0, none⟩), undef, .pointer (some ⟨w.heap.size + 1, 0, none⟩), .pointer (some ⟨w.heap.size + 1 + 1, 0, none⟩), .bool false, .slice (some ⟨g, 0, none⟩) m m, .bool true, .pointer (some ⟨gV, 0, none⟩), .int .i64 ((m - 1 - j : Nat) : Int), .pointer (some ⟨Bf, 0, none⟩),
      .tuple #[.slice (some ⟨g, 0, none⟩) m m, .bool true], .slice (some ⟨b, o, none⟩) m c, .slice (some ⟨b', o', none⟩) m c', .tuple #[.slice (some ⟨g, 0, none⟩) m m, .bool true], .slice (some ⟨g, 0, none⟩) m m, .bool true, .bool true, .bool false, .bool false, .int .i64 x, .bool true, .bool false, .bool false, undef, .agg #[.int .i64 (up 0), .int .i64 (dn 0)], .slice (some ⟨g, 0, none⟩) m m, .func (.func 87) #[] #[.pointer (some ⟨gV + 1, 0, none⟩)],
      .int .i64 ((m - 1 - j : Nat) : Int), .agg #[.int .i64 (up (gq L (m - 1 - j))), .int .i64 (dn (gq L (m - 1 - j)))], undef, undef, undef, undef, undef, undef, undef, undef, undef, undef, undef, undef], defers := [] })
    (fun a' => Own.from (fun s A B row hs hg hr => by obtain ⟨Bf, h1, h2, h3⟩ := hs; exact ⟨Bf, h1, blk_kept h2 hg hr, h3⟩) _) ?assign ?body ?done
  case assign =>
    rintro l j W K hj ⟨⟨d1, d2, d3, d4, d5⟩, hB⟩ hK
    have l5 := d5.lt
    gi_wp2
    have ba : Below W.heap.size W (W.alloc (.cells #[.int .i64 (up (gq L (m - 1 - j))), .int .i64 (dn (gq L (m - 1 - j)))] 31)) := below_alloc
    exact hK _ _ ((KeepsOthers.alloc _ _).from _) (KpB.of_below (by omega) l5 ba) ⟨⟨keepC ba d1, keepC ba d2, d3.below ba, d4.below ba, d5.below ba⟩, hB.trans (ba.mono hB.size)⟩ ⟨W.heap.size, by omega, Blk.made _ _ _, rfl⟩
  case body =>
    rintro l j a' W hl hj ⟨⟨d1, d2, d3, d4, d5⟩, hB⟩ ⟨Bf, hBf, kf, rfl⟩
    have l5 := d5.lt
    have l4 := d4.lt
    have st := ST.out j hj
    have su := SU.out j hj
    obtain ⟨p0, hP⟩ : ∃ P, m - 1 - j = P := ⟨_, rfl⟩
    rw [show m - (j + 1) = p0 by omega] at st su
    have hPm : p0 < m := by omega
    rw [hP, GV.out p0 hPm] at kf
    simp only [hP]
    have y1 := (H.out.below hB).cell p0 (by have := HMM.out; omega)
    have hxp := HX.out p0 hPm
    have c1 := kf.cell (j := 0) rfl
    have c2 := kf.cell (j := 1) rfl
    have c3 := d4.cell (j := 0) rfl
    have c4 := d4.cell (j := 1) rfl
    have f3 := d4.frozen 0
    have f4 := d4.frozen 1
    obtain ⟨X, hX⟩ : ∃ X, gi xs p0 = X := ⟨_, rfl⟩
    obtain ⟨f, hf⟩ : ∃ f, dd xs ys p0 0 = f := ⟨_, rfl⟩
    obtain ⟨p, hp⟩ : ∃ f, cA xs ys x m j = f := ⟨_, rfl⟩
    obtain ⟨p', hp'⟩ : ∃ f, cA xs ys x m (j + 1) = f := ⟨_, rfl⟩
    rw [hX] at y1 hxp st su
    rw [hf] at c1 c2 st su
    rw [hp] at c3 c4 st su d4
    rw [hp'] at su
    obtain ⟨d, hd⟩ : ∃ d, x - X = d := ⟨_, rfl⟩
    rw [hd] at st su
    obtain ⟨t, ht⟩ : ∃ t, p * qd d 1 = t := ⟨_, rfl⟩
    obtain ⟨s1, s2, s3, s4, s5, s6, s7, s8⟩ := st
    rw [ht] at s5 s6 s7 s8 su
    have wd : IntKind.i64.wrap (x - X) = d := by rw [IntWalk.i64_in _ (by omega)]; exact hd
    have HP' := Lib.hid hp'
    have D3 := Lib.hid d3
    have D4 := Lib.hid d4
    have D5 := Lib.hid d5
    have HB := Lib.hid hB
    obtain ⟨e, he⟩ : ∃ e, qd d 1 = e := ⟨_, rfl⟩
    have ue : up e = d := by rw [← he, up_qd]
    have de : dn e = 1 := by rw [← he, dn_qd]
    have CWH := Lib.hid (fun w => he ▸ whole_any d w)
    have CTM := Lib.hid (fun w => times_any p e t (by rw [← he]; exact ht) w (by omega) (by omega) (by omega) (by omega) (by omega) (by omega))
    have CPL := Lib.hid (fun w => plus_any t f p' su.symm w s7 s8)
    obtain ⟨ι, W', hW0, hWm, hWb⟩ := good_worlds W
    have hWn : Nonempty ι := hW0.elim fun i _ => ⟨i⟩
    have a1 : ∀ i, (W' i).cell? ⟨b, o + p0, none⟩ = some (.int .i64 X) := fun i => keepC (hWb i) y1
    have a2 : ∀ i, (W' i).cell? ⟨Bf, 0, none⟩ = some (.int .i64 (up f)) := fun i => keepC (hWb i) c1
    have a3 : ∀ i, (W' i).cell? ⟨Bf, 1, none⟩ = some (.int .i64 (dn f)) := fun i => keepC (hWb i) c2
    have a4 : ∀ i, (W' i).cell? ⟨gV, 0, none⟩ = some (.int .i64 (up p)) := fun i => keepC (hWb i) c3
    have a5 : ∀ i, (W' i).cell? ⟨gV, 1, none⟩ = some (.int .i64 (dn p)) := fun i => keepC (hWb i) c4
    have a6 : ∀ i, (W' i).frozen? ⟨gV, 0, none⟩ = false := fun i => keepF (hWb i) l4 f3
    have a7 : ∀ i, (W' i).frozen? ⟨gV, 1, none⟩ = false := fun i => keepF (hWb i) l4 f4
    have a8 : ∀ i, (W' i).cell? ⟨w.heap.size, 0, none⟩ = some (.slice (some ⟨b, o, none⟩) m c) := fun i => keepC (hWb i) d1
    have a9 : ∀ i, (W' i).cell? ⟨w.heap.size + 1, 0, none⟩ = some (.int .i64 x) := fun i => keepC (hWb i) d2
    have hPm2 : (p0 : Int) < (m : Int) := by omega
    have HD1 := Lib.hid d1
    have HD2 := Lib.hid d2
    clear y1 c1 c2 c3 c4 f3 f4 su s1 s2 s3 s4 s5 s6 s7 s8 ue de he ht hp' hX hf hp hd hP d1 d2 d3 d4 d5 hB kf
    gi_wp2
    (refine region_quiet_round (C := fun w' => ∃ i, w' = W' i) 11 (by kernel_rfl) (by kernel_rfl) (by kernel_rfl) hW0 ?_; simp only [List.take_succ_cons, List.take_zero, List.drop_succ_cons, List.drop_zero]; (repeat (go_big_quiet_step (first | (go_at_call 51; exact (CWH.out _).mono fun e w'' h => ⟨h.1, hWm _ _ h.2⟩) | (go_at_call 57; exact (CTM.out _).mono fun e w'' h => ⟨h.1, hWm _ _ h.2⟩) | (go_at_call 55; exact (CPL.out _).mono fun e w'' h => ⟨h.1, hWm _ _ h.2⟩)))); refine wpQuiet_nil ?_)
    rintro _ ⟨iw, rfl⟩
    gi_wp2
    have hbi := hWb iw
    have l5' := hbi.size
    refine ⟨(keepsFrom_below hbi _).trans (((KeepsOthers.setCell _ _ _).trans (KeepsOthers.setCell _ _ _)).from _), (KpB.of_below (by omega) l5 hbi).trans ((kpB_set _ _ _ (by show gV ≠ g; omega) (by show gV ≠ gV + 1; omega)).trans (kpB_set _ _ _ (by show gV ≠ g; omega) (by show gV ≠ gV + 1; omega))), ⟨?_, ?_, ((D3.out.below hbi).other _ (by show gV ≠ _; omega)).other _ (by show gV ≠ _; omega), by rw [HP'.out]; exact (D4.out.below hbi).two _ _, ((D5.out.below hbi).other _ (by show gV ≠ _; omega)).other _ (by show gV ≠ _; omega)⟩,
      ((HB.out.trans (hbi.mono HB.out.size)).setCell (by show w.heap.size ≤ gV; omega) _).setCell (by show w.heap.size ≤ gV; omega) _⟩
    · exact (World.cell?_of_block (a := ⟨w.heap.size, 0, none⟩) ((Below.heap_setCell _ ⟨gV, 1, none⟩ _ w.heap.size (by show w.heap.size ≠ gV; omega)).trans (Below.heap_setCell _ ⟨gV, 0, none⟩ _ w.heap.size (by show w.heap.size ≠ gV; omega)))).trans (a8 iw)
    · exact (World.cell?_of_block (a := ⟨w.heap.size + 1, 0, none⟩) ((Below.heap_setCell _ ⟨gV, 1, none⟩ _ (w.heap.size + 1) (by show w.heap.size + 1 ≠ gV; omega)).trans (Below.heap_setCell _ ⟨gV, 0, none⟩ _ (w.heap.size + 1) (by show w.heap.size + 1 ≠ gV; omega)))).trans (a9 iw)
  case done =>
    rintro D W hD ⟨⟨d1, d2, d3, d4, d5⟩, hB⟩ hK
    rw [HQ.out] at d4
    have c1 := d4.cell (j := 0) rfl
    have c2 := d4.cell (j := 1) rfl
    have c3 := d3.cell (j := 0) rfl
    have c4 := d3.cell (j := 1) rfl
    have f3 := d3.frozen 0
    have f4 := d3.frozen 1
    have hK' := ((KeepsOthers.setCell W ⟨w.heap.size + 1 + 1, 0, none⟩ (.int .i64 (up q))).trans (KeepsOthers.setCell _ ⟨w.heap.size + 1 + 1, 1, none⟩ (.int .i64 (dn q)))).same D _ hK rfl
    have hB' := (hB.setCell (p := ⟨w.heap.size + 1 + 1, 0, none⟩) (by show w.heap.size ≤ w.heap.size + 1 + 1; omega) (.int .i64 (up q))).setCell (p := ⟨w.heap.size + 1 + 1, 1, none⟩) (by show w.heap.size ≤ w.heap.size + 1 + 1; omega) (.int .i64 (dn q))
    have k6 := d3.two (.int .i64 (up q)) (.int .i64 (dn q))
    gi_wp2
    refine ⟨by simp, .inl ⟨_, _, rfl, run_takeDeferred hK', ?_⟩⟩
    have k7 := blk_kept k6 (grownBy_putObj' _ D (.deferred none)) (fun r e => by cases e; exact ⟨_, hK', rfl⟩)
    have y1 := k7.cell (j := 0) rfl
    have y2 := k7.cell (j := 1) rfl
    refine ⟨.tuple #[.agg #[.int .i64 (up q), .int .i64 (dn q)], .bool true], ?_, rfl, hB'.trans (belowK_b (w := w) (Nat.le_refl _) _ D _ _ (by omega) hK' rfl rfl)⟩
    simp [results, Try.results22, go_sem, y1, y2]

set_option maxHeartbeats 4000000 in
theorem curAt_no (b o c b' o' c' : Nat) (xs ys : List Int) (x : Int) (w : World) (h : RowI w b o xs) (h' : RowI w b' o' ys) (hm : xs.length ≤ 1048576) (hm' : ys.length ≤ 1048576) (hcap : xs.length ≤ c) (hc : caB xs ys x = false) :
    Calls Try.prog 22 #[.slice (some ⟨b, o, none⟩) xs.length c, .slice (some ⟨b', o', none⟩) ys.length c', .int .i64 x] w
      fun e w' => e = .returned (.tuple #[.agg #[.int .i64 0, .int .i64 0], .bool false]) ∧ Below w.heap.size w w' := by
  have CC : ∃ f : Bool, (f = true → inB x (-12) 12 = false) ∧ ∀ w, RowI w b o xs → RowI w b' o' ys → Calls Try.prog 45 #[.slice (some ⟨b, o, none⟩) xs.length c, .slice (some ⟨b', o', none⟩) ys.length c'] w
      fun e w' => ∃ v, e = .returned (.tuple #[v, .bool f]) ∧ Below w.heap.size w w' := by
    unfold caB crB at hc
    cases hv : plB xs ys 5 with
    | false => exact ⟨false, fun h => (by cases h), fun w h h' => (curve_no1 b o c b' o' c' xs ys w h h' (by omega) (by omega) hv).mono fun e w' h => ⟨_, h.1, h.2⟩⟩
    | true =>
      refine ⟨dfB xs, fun h => ?_, fun w h h' => ?_⟩
      · rw [hv, h] at hc; simpa using hc
      · rw [(pl_of (m := 5) hv).ne]
        exact (curve_pl b o c b' o' c' xs.length xs ys _ w h h' hv rfl hcap rfl).mono fun e w' ⟨v, h1, _, h2⟩ => ⟨v, h1, h2⟩
  obtain ⟨f, hf, cc⟩ := CC
  have CC := Lib.hid cc
  have HF := Lib.hid hf
  have IX := Lib.hid (fun (h : f = true) (w : World) => show Calls Try.prog 54 #[.int .i64 x, .int .i64 (-12), .int .i64 12] w fun e w' => e = .returned (.bool false) ∧ w = w' from hf h ▸ in_any x (-12) 12 w)
  have H := Lib.hid h
  have H' := Lib.hid h'
  obtain ⟨n, hn⟩ : ∃ n, xs.length = n := ⟨_, rfl⟩
  obtain ⟨n', hn'⟩ : ∃ n, ys.length = n := ⟨_, rfl⟩
  rw [hn, hn'] at CC ⊢
  clear h h' hc hm hm' hn hn' hcap cc hf
  refine (callsIn_wide (n := 5)).1 ?_
  refine callsIn_of_wp_marks Try.func22 rfl trivial ?_ rfl
  simp only [Try.ntmps22, List.size_toArray, List.length_cons, List.length_nil, Nat.reduceAdd, Nat.reduceSub, Array.replicate_succ, Array.replicate_zero, List.push_toArray, List.append_toArray, List.nil_append, List.cons_append]
  gi_wp2_with fail
  have a1 := Blk.made (w.alloc (.cells #[.slice (some ⟨b, o, none⟩) n c] 22)) #[.int .i64 x] 3
  have a2 := Blk.made ((w.alloc (.cells #[.slice (some ⟨b, o, none⟩) n c] 22)).alloc (.cells #[.int .i64 x] 3)) #[.int .i64 0, .int .i64 0] 31
  have aB : Below w.heap.size w (((w.alloc (.cells #[.slice (some ⟨b, o, none⟩) n c] 22)).alloc (.cells #[.int .i64 x] 3)).alloc (.cells #[.int .i64 0, .int .i64 0] 31)) := by (repeat' (first | (with_reducible exact Below.refl _ _) | (with_reducible assumption) | (with_reducible refine Below.drewN ?_ _) | (with_reducible refine Below.alloc ?_ ?_ _) | (with_reducible refine Below.drew ?_) | (with_reducible refine Below.setCell ?_ ?_ _) | (with_reducible refine Below.trans ?_ (Below.mono (by assumption) ?_)) | go_size | (with_reducible refine Nat.le_trans ?_ (Below.size (by assumption)))))
  replace a1 := a1.below (below_alloc (o := .cells #[.int .i64 0, .int .i64 0] 31))
  simp only [World.size_alloc] at a1 a2
  obtain ⟨W0, hW0⟩ : ∃ W0, ((w.alloc (.cells #[.slice (some ⟨b, o, none⟩) n c] 22)).alloc (.cells #[.int .i64 x] 3)).alloc (.cells #[.int .i64 0, .int .i64 0] 31) = W0 := ⟨_, rfl⟩
  rw [hW0] at a1 a2 aB ⊢
  have A1 := Lib.hid a1
  have A2 := Lib.hid a2
  have AB := Lib.hid aB
  clear a1 a2 aB hW0
  refine ⟨trivial, (callsIn_wide.2 (CC.out _ (H.out.below AB.out) (H'.out.below AB.out))).mono ?_⟩
  rintro e w1 ⟨v, rfl, b1⟩
  have A2 := Lib.hid (A2.out.below b1)
  have A1 := Lib.hid (A1.out.below b1)
  have AB := Lib.hid (AB.out.trans (b1.mono AB.out.size))
  have c1 := A1.out.cell (j := 0) rfl
  have c3 := A2.out.cell (j := 0) rfl
  have c4 := A2.out.cell (j := 1) rfl
  have f3 := A2.out.frozen 0
  have f4 := A2.out.frozen 1
  have k6 := A2.out.two (.int .i64 0) (.int .i64 0)
  have y1 := k6.cell (j := 0) rfl
  have y2 := k6.cell (j := 1) rfl
  have hB' := (AB.out.setCell (p := ⟨w.heap.size + 1 + 1, 0, none⟩) (by show w.heap.size ≤ w.heap.size + 1 + 1; omega) (.int .i64 0)).setCell (p := ⟨w.heap.size + 1 + 1, 1, none⟩) (by show w.heap.size ≤ w.heap.size + 1 + 1; omega) (.int .i64 0)
  clear b1
  cases f with
  | false =>
    gi_wp2_with fail
    refine ⟨trivial, ?_⟩
    gi_wp2_with fail
    refine ⟨.tuple #[.agg #[.int .i64 0, .int .i64 0], .bool false], ?_, rfl, hB'⟩
    simp [results, Try.results22, go_sem, y1, y2]
  | true =>
    gi_wp2_with fail
    refine ⟨trivial, (callsIn_wide.2 (IX.out (by simp) _)).mono ?_⟩
    rintro e w2 ⟨rfl, rfl⟩
    gi_wp2_with fail
    refine ⟨.tuple #[.agg #[.int .i64 0, .int .i64 0], .bool false], ?_, rfl, hB'⟩
    simp [results, Try.results22, go_sem, y1, y2]

/-- What both return. -/
theorem curAt_all (b o c b' o' c' : Nat) (xs ys : List Int) (x : Int) (w : World) (h : RowI w b o xs) (h' : RowI w b' o' ys) (hm : xs.length ≤ 1048576) (hm' : ys.length ≤ 1048576) (hcap : xs.length ≤ c) :
    Calls Try.prog 22 #[.slice (some ⟨b, o, none⟩) xs.length c, .slice (some ⟨b', o', none⟩) ys.length c', .int .i64 x] w
      fun e w' => e = .returned (.tuple #[.agg #[.int .i64 (caU xs ys x), .int .i64 (caD xs ys x)], .bool (caB xs ys x)]) ∧ Below w.heap.size w w' := by
  unfold caU caD
  cases hv : caB xs ys x with
  | false => exact curAt_no b o c b' o' c' xs ys x w h h' hm hm' hcap hv
  | true =>
    have hl : ys.length = xs.length := by
      unfold caB crB at hv
      simp only [Bool.and_eq_true] at hv
      exact (pl_of (m := 5) hv.1.1).ne
    rw [hl]
    exact curAt_yes b o c b' o' c' xs.length xs ys x _ w h h' hv rfl hcap rfl
theorem scurAt_all (b o c b' o' c' : Nat) (xs ys : List Int) (x : Int) (w : World) (h : RowI w b o xs) (h' : RowI w b' o' ys) (hm : xs.length ≤ 1048576) (hm' : ys.length ≤ 1048576) :
    Calls Try.prog 23 #[.slice (some ⟨b, o, none⟩) xs.length c, .slice (some ⟨b', o', none⟩) ys.length c', .int .i64 x] w
      fun e w' => e = .returned (.tuple #[.agg #[.int .i64 (caU xs ys x), .int .i64 (caD xs ys x)], .bool (caB xs ys x)]) ∧ Below w.heap.size w w' := by
  unfold caU caD
  cases hv : caB xs ys x with
  | false => exact scurveAt_no b o c b' o' c' xs ys x w h h' hm hm' hv
  | true =>
    have hl : ys.length = xs.length := by
      unfold caB crB at hv
      simp only [Bool.and_eq_true] at hv
      exact (pl_of (m := 5) hv.1.1).ne
    rw [hl]
    exact scurveAt_yes b o c b' o' c' xs.length xs ys x _ w h h' hv rfl rfl

end Go.Proofs.Ytoioafadenniiaa
