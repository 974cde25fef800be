/- impl.backward, its value impl.StepUp$1. -/
import Derived.Test.YtjkadlmlkcanpaaBackP
import Derived.Test.YtjkadlmlkcanpaaBySize
import Derived.Laws.EntriesVeiled
namespace Go.Proofs.Ytjkadlmlkcanpaa
open Go.RowKit Go.Shelf

attribute [local go_sem] Oper.semAt_some

set_option maxRecDepth 100000 in
set_option maxHeartbeats 4000000 in
theorem backwardUp (b o c bl : Nat) (xs : List Int) (val : Int → Nat → Int) (w : World) (h : RowI w b o xs) (hv : ovB xs = true) (hm : xs.length ≤ 1099511627776) (hbl : w.cell? ⟨bl, 0, none⟩ = some (.slice (some ⟨b, o, none⟩) xs.length c)) (hbll : bl < w.heap.size)
    (hval : ∀ (p : Int) (r : Nat) (w' : World), w'.cell? ⟨bl, 0, none⟩ = some (.slice (some ⟨b, o, none⟩) xs.length c) → 0 ≤ p → p ≤ 1000 → r < xs.length → Calls Try.prog 47 #[.int .i64 p, .int .i64 r, .pointer (some ⟨bl, 0, none⟩)] w' fun e w'' => e = .returned (.int .i64 (val p r)) ∧ w' = w'') :
    Calls Try.prog 46 #[.slice (some ⟨b, o, none⟩) xs.length c, .func (.func 47) #[] #[.pointer (some ⟨bl, 0, none⟩)]] w
      fun e w' => ∃ g cap, e = .returned (.slice (some ⟨g, 0, none⟩) xs.length cap) ∧ w.heap.size ≤ g ∧ Blk w' g 3 (ic (tabI (fun i => bkM val xs (xs.length - plc xs i xs.length)) xs.length)) ∧ Below w.heap.size w w' := by
  have hvl := ov_of hv
  have hn0 := hvl.n0
  have hn6 := hvl.n6
  have HV := Lib.hid hvl
  have H := Lib.hid h
  have HBL := Lib.hid hbl
  have HVAL := Lib.hid hval
  clear h hvl hbl hval
  refine (callsIn_wide (n := 5)).1 ?_
  refine callsIn_of_wp_marks Try.func46 rfl trivial ?_ rfl
  simp only [Try.ntmps46, List.size_toArray, List.length_cons, List.length_nil, Nat.reduceAdd, Nat.reduceSub, Array.replicate_succ, Array.replicate_zero, List.push_toArray, List.append_toArray, List.nil_append, List.cons_append]
  have hmk := run_make_row' (P := Try.prog) 22 3 (.int .i64 0) 8 Try.underlying22 infoI rfl .i64 .i64 xs.length (by omega) (by omega)
  gi_wp2_with fail
  refine ⟨trivial, (callsIn_wide.2 (validOdds_any b o c xs _ (H.out.below (by (repeat' (first | (with_reducible exact Below.refl _ _) | (with_reducible assumption) | (with_reducible refine Below.drewN ?_ _) | (with_reducible refine Below.alloc ?_ ?_ _) | (with_reducible refine Below.drew ?_) | (with_reducible refine Below.setCell ?_ ?_ _) | (with_reducible refine Below.trans ?_ (Below.mono (by assumption) ?_)) | go_size | (with_reducible refine Nat.le_trans ?_ (Below.size (by assumption))))))) hm)).mono ?_⟩
  rintro e w1 ⟨rfl, hb1⟩
  have z1 := hb1.size
  simp only [World.size_alloc] at z1
  have d2 : w1.cell? ⟨w.heap.size, 0, none⟩ = some (.slice (some ⟨b, o, none⟩) xs.length c) := keepC hb1 (by simp [go_sem])
  have d3 : w1.cell? ⟨w.heap.size + 1, 0, none⟩ = some (.func (.func 47) #[] #[.pointer (some ⟨bl, 0, none⟩)]) := keepC hb1 (by simp [go_sem])
  have hbw1 : Below w.heap.size w w1 := by (repeat' (first | (with_reducible exact Below.refl _ _) | (with_reducible assumption) | (with_reducible refine Below.drewN ?_ _) | (with_reducible refine Below.alloc ?_ ?_ _) | (with_reducible refine Below.drew ?_) | (with_reducible refine Below.setCell ?_ ?_ _) | (with_reducible refine Below.trans ?_ (Below.mono (by assumption) ?_)) | go_size | (with_reducible refine Nat.le_trans ?_ (Below.size (by assumption)))))
  have HB1 := Lib.hid hbw1
  have HR1 := Lib.hid (H.out.below hbw1)
  clear hb1 hbw1
  have k1 := (Blk.made w1 (madeCells #[.int .i64 0] xs.length) 3)
  have k5 := (Blk.made (w1.alloc (.cells (madeCells #[.int .i64 0] xs.length) 3)) #[.slice (some ⟨w1.heap.size, 0, none⟩) xs.length xs.length] 22)
  have k6 := (Blk.made ((w1.alloc (.cells (madeCells #[.int .i64 0] xs.length) 3)).alloc (.cells #[.slice (some ⟨w1.heap.size, 0, none⟩) xs.length xs.length] 22)) #[.int .i64 1000] 3)
  have b2' : Below (w1.heap.size + 1) (w1.alloc (.cells (madeCells #[.int .i64 0] xs.length) 3)) ((w1.alloc (.cells (madeCells #[.int .i64 0] xs.length) 3)).alloc (.cells #[.slice (some ⟨w1.heap.size, 0, none⟩) xs.length xs.length] 22)) := (Below.refl _ _).alloc (by simp) _
  have b3' : Below w1.heap.size w1 (((w1.alloc (.cells (madeCells #[.int .i64 0] xs.length) 3)).alloc (.cells #[.slice (some ⟨w1.heap.size, 0, none⟩) xs.length xs.length] 22)).alloc (.cells #[.int .i64 1000] 3)) := (((Below.refl _ _).alloc (Nat.le_refl _) _).alloc (by simp) _).alloc (by simp; omega) _
  have k1 := (k1.below (by simpa using b2')).below (below_alloc (o := .cells #[.int .i64 1000] 3))
  have k5 := k5.below (below_alloc (o := .cells #[.int .i64 1000] 3))
  have e2 := keepC b3' d2
  have hr3 := HR1.out.below b3'
  have hzA : (((w1.alloc (.cells (madeCells #[.int .i64 0] xs.length) 3)).alloc (.cells #[.slice (some ⟨w1.heap.size, 0, none⟩) xs.length xs.length] 22)).alloc (.cells #[.int .i64 1000] 3)).heap.size = w1.heap.size + 3 := by simp
  have K1 := Lib.hid k1
  have K5 := Lib.hid k5
  have K6 := Lib.hid k6
  have B3' := Lib.hid b3'
  have HR3 := Lib.hid hr3
  clear k1 k5 k6 b2' b3' hr3
  gi_wp2_with fail
  refine ⟨trivial, (callsIn_wide.2 (bySize_any b o c xs _ HR3.out (by omega) hn0)).mono ?_⟩
  rintro e w3 ⟨go, co, rfl, hgo, ko, hb3⟩
  rw [hzA] at hgo
  have z3 := hb3.size
  rw [hzA] at z3
  have K1 := Lib.hid (K1.out.below hb3)
  have K5 := Lib.hid (K5.out.below hb3)
  have K6 := Lib.hid (K6.out.below hb3)
  have D2 := Lib.hid (keepC hb3 e2)
  have D3 := Lib.hid (keepC hb3 (keepC B3'.out d3))
  have HB3 := Lib.hid (HB1.out.trans ((B3'.out.mono (by omega)).trans (hb3.mono (by rw [hzA]; omega))))
  have hgl := ko.lt
  have HKO := Lib.hid ko.row
  clear e2 d2 d3 hb3 B3' HR3 ko hzA
  gi_wp2_with fail
  refine ⟨trivial, (callsIn_wide.2 (bwd_any _ _ _ _)).mono ?_⟩
  rintro e w4 ⟨rfl, rfl⟩
  have hne0 : go ≠ w3.heap.size := by omega
  have hol := ordK_length (keyOf xs) xs.length
  have hoa : ∀ r, r < xs.length → gi (ordK (keyOf xs) xs.length) r = (ordAt xs r : Int) := fun r hr => by
    have h1 := (ordAt_get hr).1
    unfold gi
    rw [List.getD_eq_getElem?_getD, h1]
    rfl
  obtain ⟨L, hL⟩ : ∃ L, ordK (keyOf xs) xs.length = L := ⟨_, rfl⟩
  rw [hL] at HKO hol hoa
  have hko4 := HKO.out.below (below_alloc (o := .cells #[.slice (some ⟨go, 0, none⟩) xs.length co] 22))
  have k4 := (Blk.made w3 #[.slice (some ⟨go, 0, none⟩) xs.length co] 22)
  have hbs := k4.cell (j := 0) rfl
  have K1 := Lib.hid (K1.out.below (below_alloc (o := .cells #[.slice (some ⟨go, 0, none⟩) xs.length co] 22)))
  have K5 := Lib.hid (K5.out.below (below_alloc (o := .cells #[.slice (some ⟨go, 0, none⟩) xs.length co] 22)))
  have K6 := Lib.hid (K6.out.below (below_alloc (o := .cells #[.slice (some ⟨go, 0, none⟩) xs.length co] 22)))
  have D2 := Lib.hid (keepC (below_alloc (o := .cells #[.slice (some ⟨go, 0, none⟩) xs.length co] 22)) D2.out)
  have D3 := Lib.hid (keepC (below_alloc (o := .cells #[.slice (some ⟨go, 0, none⟩) xs.length co] 22)) D3.out)
  have HB4 := Lib.hid (HB3.out.trans ((below_alloc (W := w3) (o := .cells #[.slice (some ⟨go, 0, none⟩) xs.length co] 22)).mono (by omega)))
  have hz4 : (w3.alloc (.cells #[.slice (some ⟨go, 0, none⟩) xs.length co] 22)).heap.size = w3.heap.size + 1 := by simp
  have SQ := bwd_stops' 4 (by omega) w3.heap.size go co xs.length L (ordAt xs) hol hoa (by omega) _ (by rw [hz4]; omega) (by rw [hz4]; omega) hbs (fun j hj => by have := hko4.cell j hj; rwa [Nat.zero_add] at this)
  obtain ⟨cs0, hcs0⟩ : ∃ cs, (madeCells #[Value.int .i64 0] xs.length).toList = cs := ⟨_, rfl⟩
  have hcl : cs0.length = xs.length := by rw [← hcs0, Array.length_toList, size_madeCells]
  rw [hcs0] at K1
  rw [World.size_alloc] at K5
  rw [World.size_alloc, World.size_alloc] at K6
  obtain ⟨W4, hW4⟩ : ∃ W4, w3.alloc (.cells #[.slice (some ⟨go, 0, none⟩) xs.length co] 22) = W4 := ⟨_, rfl⟩
  rw [hW4] at K1 K5 K6 D2 D3 HB4 hz4 SQ ⊢
  clear hko4 k4 hbs HB3 HKO hW4 hL hol hoa hcs0 hmk
  have hgB : w.heap.size ≤ w1.heap.size := by omega
  gi_wp2_with fail
  refine wpIn_rangeFunc_ownG rfl (by omega) (gf := 97) (lb := #[.pointer (some ⟨w3.heap.size, 0, none⟩)]) rfl trivial (enters_of Try.func97 (by kernel_rfl) rfl)
    SQ KpB.trans (kpB_b (by omega) (by omega)) (Below.refl _ _) (fun _ => rfl)
    (fun pre W => (W.cell? ⟨w.heap.size, 0, none⟩ = some (.slice (some ⟨b, o, none⟩) xs.length c) ∧ W.cell? ⟨w.heap.size + 1, 0, none⟩ = some (.func (.func 47) #[] #[.pointer (some ⟨bl, 0, none⟩)]) ∧
      Blk W (w1.heap.size + 1) 22 [.slice (some ⟨w1.heap.size, 0, none⟩) xs.length xs.length] ∧
      ∃ (m0 : Int) (cs : List Value), Blk W (w1.heap.size + 1 + 1) 3 [.int .i64 m0] ∧ Blk W w1.heap.size 3 cs ∧ cs.length = xs.length ∧
        (Good pre → m0 = bkM val xs pre.length ∧ ∀ i, i < xs.length → xs.length - 1 - plc xs i xs.length < pre.length → cs[i]? = some (.int .i64 (bkM val xs (xs.length - plc xs i xs.length))))) ∧ Below w.heap.size w W)
    (fun _ _ _ => False)
    (OwnFrom.and (Own.from (fun s A B row hs hg hr => by
      obtain ⟨h1, h2, h3, m0, cs, h4, h5, h6⟩ := hs
      exact ⟨cell_kept h1 hg hr, cell_kept h2 hg hr, blk_kept h3 hg hr, m0, cs, blk_kept h4 hg hr, blk_kept h5 hg hr, h6⟩) _) (ownFrom_below (Nat.le_refl _) (by omega)))
    (fun _ _ _ _ _ hs _ _ => hs)
    ⟨⟨D2.out, D3.out, K5.out, 1000, cs0, K6.out, K1.out, hcl, fun _ => ⟨rfl, fun i _ h => absurd h (Nat.not_lt_zero _)⟩⟩, HB4.out⟩
    (fun x => { tmps := #[.slice (some ⟨b, o, none⟩) xs.length c, .func (.func 47) #[] #[.pointer (some ⟨bl, 0, none⟩)], .pointer (some ⟨w.heap.size, 0, none⟩), .pointer (some ⟨w.heap.size + 1, 0, none⟩), .slice none 0 0, .pointer (some ⟨w1.heap.size + 1, 0, none⟩), .pointer (some ⟨w1.heap.size + 1 + 1, 0, none⟩), .int .i64 ((xs.length - 1 - x.val : Nat) : Int), .int .i64 ((ordAt xs (xs.length - 1 - x.val) : Nat) : Int), .slice (some ⟨b, o, none⟩) xs.length c, .bool true, .bool false, .slice (some ⟨b, o, none⟩) xs.length c, .int .i64 xs.length, .slice (some ⟨w1.heap.size, 0, none⟩) xs.length xs.length, .slice (some ⟨b, o, none⟩) xs.length c, .slice (some ⟨go, 0, none⟩) xs.length co, .func (.func 97) #[] #[.pointer (some ⟨w3.heap.size, 0, none⟩)], .int .i64 ((xs.length - 1 - x.val : Nat) : Int), .int .i64 ((ordAt xs (xs.length - 1 - x.val) : Nat) : Int), undef, undef, undef, undef, undef, undef, undef, undef, undef, undef, undef, undef, undef, undef], defers := [] }) ?assign ?body ?done ?stop
  case assign =>
    intro l x W K hK
    gi_wp2
    exact hK
  case body =>
    rintro l pre x W ⟨⟨d2, d3, k5, m0, cs, k6, k1, hcl, hgd⟩, hB⟩ hlen
    have hx := x.isLt
    obtain ⟨r, hr⟩ : ∃ r, xs.length - 1 - x.val = r := ⟨_, rfl⟩
    obtain ⟨i, hi⟩ : ∃ i, ordAt xs r = i := ⟨_, rfl⟩
    have hrn : r < xs.length := by omega
    have hin : i < xs.length := by rw [← hi]; exact (ordAt_get hrn).2
    have y1 := (H.out.below hB).cell i hin
    have hp := HV.out.x i hin
    obtain ⟨p, hpe⟩ : ∃ p, gi xs i = p := ⟨_, rfl⟩
    rw [hpe] at y1 hp
    have hblW : W.cell? ⟨bl, 0, none⟩ = some (.slice (some ⟨b, o, none⟩) xs.length c) := (World.cell?_of_block (hB.block bl hbll)).trans HBL.out
    have c5 := k5.cell (j := 0) rfl
    have c6 := k6.cell (j := 0) rfl
    have f6 := k6.frozen 0
    obtain ⟨u, hu⟩ : ∃ u, cs[i]? = some u := ⟨cs[i]'(by omega), List.getElem?_eq_getElem _⟩
    have c1 := k1.cell hu
    have f1 := k1.frozen i
    have FIN := Lib.hid (show ∀ (kq : Nat) (m1 : Int), m1 = min m0 (val p r) →
        KeepsFrom (w3.heap.size + 1) W (((W.drewN kq).setCell ⟨w1.heap.size + 1 + 1, 0, none⟩ (.int .i64 m1)).setCell ⟨w1.heap.size, i, none⟩ (.int .i64 m1)) ∧
        KpB go w3.heap.size W (((W.drewN kq).setCell ⟨w1.heap.size + 1 + 1, 0, none⟩ (.int .i64 m1)).setCell ⟨w1.heap.size, i, none⟩ (.int .i64 m1)) ∧
        ((((((W.drewN kq).setCell ⟨w1.heap.size + 1 + 1, 0, none⟩ (.int .i64 m1)).setCell ⟨w1.heap.size, i, none⟩ (.int .i64 m1)).cell? ⟨w.heap.size, 0, none⟩ = some (.slice (some ⟨b, o, none⟩) xs.length c) ∧
          (((W.drewN kq).setCell ⟨w1.heap.size + 1 + 1, 0, none⟩ (.int .i64 m1)).setCell ⟨w1.heap.size, i, none⟩ (.int .i64 m1)).cell? ⟨w.heap.size + 1, 0, none⟩ = some (.func (.func 47) #[] #[.pointer (some ⟨bl, 0, none⟩)]) ∧
          Blk (((W.drewN kq).setCell ⟨w1.heap.size + 1 + 1, 0, none⟩ (.int .i64 m1)).setCell ⟨w1.heap.size, i, none⟩ (.int .i64 m1)) (w1.heap.size + 1) 22 [.slice (some ⟨w1.heap.size, 0, none⟩) xs.length xs.length] ∧
          ∃ (m0 : Int) (cs : List Value), Blk (((W.drewN kq).setCell ⟨w1.heap.size + 1 + 1, 0, none⟩ (.int .i64 m1)).setCell ⟨w1.heap.size, i, none⟩ (.int .i64 m1)) (w1.heap.size + 1 + 1) 3 [.int .i64 m0] ∧
            Blk (((W.drewN kq).setCell ⟨w1.heap.size + 1 + 1, 0, none⟩ (.int .i64 m1)).setCell ⟨w1.heap.size, i, none⟩ (.int .i64 m1)) w1.heap.size 3 cs ∧ cs.length = xs.length ∧
            (Good (pre ++ [x]) → m0 = bkM val xs (pre ++ [x]).length ∧ ∀ i, i < xs.length → xs.length - 1 - plc xs i xs.length < (pre ++ [x]).length → cs[i]? = some (.int .i64 (bkM val xs (xs.length - plc xs i xs.length))))) ∧
          Below w.heap.size w (((W.drewN kq).setCell ⟨w1.heap.size + 1 + 1, 0, none⟩ (.int .i64 m1)).setCell ⟨w1.heap.size, i, none⟩ (.int .i64 m1)))) from by
      intro kq m1 hm1
      have bd : Below W.heap.size W (W.drewN kq) := Below.drewN (Below.refl _ _) _
      have hko : ∀ g, g ≠ w1.heap.size → g ≠ w1.heap.size + 1 + 1 → (((W.drewN kq).setCell ⟨w1.heap.size + 1 + 1, 0, none⟩ (.int .i64 m1)).setCell ⟨w1.heap.size, i, none⟩ (.int .i64 m1)).heap[g]? = W.heap[g]? := fun g h2 h3 =>
        ((Below.heap_setCell _ ⟨w1.heap.size, i, none⟩ _ g (fun e => h2 e)).trans (Below.heap_setCell _ ⟨w1.heap.size + 1 + 1, 0, none⟩ _ g (fun e => h3 e))).trans (by rw [drewN_heap])
      have hWs := hB.size
      have l5 := k5.lt
      have l6 := k6.lt
      refine ⟨((keepsOthers_drewN W kq).trans ((KeepsOthers.setCell _ _ _).trans (KeepsOthers.setCell _ _ _))).from _, ⟨hko go (by omega) (by omega), hko w3.heap.size (by omega) (by omega)⟩, ⟨(World.cell?_of_block (a := ⟨w.heap.size, 0, none⟩) (hko w.heap.size (by omega) (by omega))).trans d2,
        (World.cell?_of_block (a := ⟨w.heap.size + 1, 0, none⟩) (hko (w.heap.size + 1) (by omega) (by omega))).trans d3, ((k5.below bd).other _ (by simp)).other _ (by simp), m1, cs.set i (.int .i64 m1), ((k6.below bd).set 0 _).other _ (by simp; omega), ((k1.below bd).other _ (by simp; omega)).set i _, by rw [List.length_set]; exact hcl, fun hg => ?_⟩,
        ((hB.trans (bd.mono hB.size)).setCell (by simp; omega) _).setCell (by simpa using hgB) _⟩
      obtain ⟨hg1, hg2⟩ := hg.init
      obtain ⟨e1, e2⟩ := hgd hg1
      have hrp : xs.length - 1 - pre.length = r := by rw [← hg2]; exact hr
      rw [List.length_append, List.length_singleton]
      refine ⟨by rw [bkM, hrp, hi, hpe, hm1, e1], fun j hj hjp => ?_⟩
      have hpj := plc_lt xs xs.length j hj
      by_cases hjr : plc xs j xs.length = r
      · have hji : j = i := by rw [← hi, ← hjr, ordAt_plc hj]
        subst hji
        rw [List.getElem?_set_self (by omega), hjr, show xs.length - r = pre.length + 1 by omega, bkM, hrp, hi, hpe, hm1, e1]
      · have hji : i ≠ j := fun e => hjr (by rw [← e, ← hi]; exact plc_ordAt hrn)
        rw [List.getElem?_set_ne hji]
        exact e2 j hj (by omega))
    have CV := Lib.hid (show ∀ k, Calls Try.prog 47 #[.int .i64 p, .int .i64 r, .pointer (some ⟨bl, 0, none⟩)] (W.drewN k) fun e w'' => e = .returned (.int .i64 (val p r)) ∧ ∃ m, w'' = W.drewN m from
      fun k => (HVAL.out p r (W.drewN k) (by rw [← hblW]; simp [go_sem]) hp.1 hp.2 hrn).mono fun e w'' h => ⟨h.1, k, h.2.symm⟩)
    obtain ⟨v, hv⟩ : ∃ v, val p r = v := ⟨_, rfl⟩
    rw [hv] at CV
    have q1 : (i : Int) < (xs.length : Int) := by omega
    simp only [hr, hi]
    gi_wp2
    (refine region_tail_round 8 (by kernel_rfl) (by kernel_rfl) (by kernel_rfl) ?_; simp only [List.take_succ_cons, List.take_zero, List.drop_succ_cons, List.drop_zero]; (repeat (go_big_quiet_step ((go_at_call 47; exact CV.out _)))); refine wpQuiet_nil ?_)
    intro kq
    gi_wp2
    all_goals (first
      | (obtain ⟨f1, f2, ⟨f3, f4, f5, m', cs', f6, f7, f8, f9⟩, f10⟩ := FIN.out kq m0 (by rw [hv]; omega); exact ⟨f1, f2, ⟨f3, f4, f5, m', f6, cs', f7, f8, f9⟩, f10⟩)
      | (obtain ⟨f1, f2, ⟨f3, f4, f5, m', cs', f6, f7, f8, f9⟩, f10⟩ := FIN.out kq v (by rw [hv]; omega); exact ⟨f1, f2, ⟨f3, f4, f5, m', f6, cs', f7, f8, f9⟩, f10⟩))
  case done =>
    rintro D ys W hD ⟨hgd, hyl⟩ ⟨⟨d2, d3, k5, m0, cs, k6, k1, hcl, hfin⟩, hB⟩ hK
    obtain ⟨_, hf⟩ := hfin hgd
    have d5 := k5.cell (j := 0) rfl
    have hcs : cs = ic (tabI (fun i => bkM val xs (xs.length - plc xs i xs.length)) xs.length) := ic_tab hcl fun j hj => hf j hj (by rw [hyl]; omega)
    rw [hcs] at k1
    clear k5 k6 hfin hf hcs hcl d2 d3
    gi_wp2
    refine ⟨by simp, .inl ⟨_, _, rfl, run_takeDeferred hK, ?_⟩⟩
    exact ⟨_, results_tmp rfl _ _ _, w1.heap.size, xs.length, rfl, by omega, blk_kept k1 (grownBy_putObj' _ D (.deferred none)) (fun r e => by cases e; exact ⟨_, hK, rfl⟩), hB.trans (belowK_b (w := w) (Nat.le_refl _) W D _ _ (by omega) hK rfl rfl)⟩
  case stop =>
    rintro D c pre W _ _ h _
    exact h.elim

end Go.Proofs.Ytjkadlmlkcanpaa
