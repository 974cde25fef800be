/- impl.curve and impl.CurveOf; spec.CurveOf. -/
import Derived.Test.YtoioafadenniiaaSCur
import Derived.Test.YtoioafadenniiaaCloud2
import Derived.Test.YtoioafadenniiaaFOps
namespace Go.Proofs.Ytoioafadenniiaa
open Go.RowKit

def hasI (xs : List Int) (x : Int) : Nat → Bool
  | 0 => false
  | m + 1 => hasI xs x m || (x == gi xs m)
theorem hasI_iff {xs : List Int} {x : Int} : ∀ m, hasI xs x m = true ↔ ∃ j, j < m ∧ gi xs j = x
  | 0 => by
    constructor
    · intro h
      cases h
    · rintro ⟨j, hj, _⟩
      omega
  | m + 1 => by
    rw [hasI, Bool.or_eq_true, hasI_iff m, beq_iff_eq]
    constructor
    · rintro (⟨j, hj, e⟩ | e)
      · exact ⟨j, by omega, e⟩
      · exact ⟨m, by omega, e.symm⟩
    · rintro ⟨j, hj, e⟩
      by_cases hjm : j = m
      · subst hjm; exact .inr e.symm
      · exact .inl ⟨j, by omega, e⟩
theorem hasI_up {xs : List Int} {x : Int} {k m : Nat} (h : k < m) (e : x = gi xs k) : hasI xs x m = true := (hasI_iff m).2 ⟨k, h, e.symm⟩

set_option maxHeartbeats 1000000 in
theorem indexI_any (b o c m : Nat) (xs : List Int) (x : Int) (w : World) (h : RowI w b o xs) (hm : m ≤ xs.length) (hl : m ≤ 1048576) :
    Calls Try.prog 90 #[.slice (some ⟨b, o, none⟩) m c, .int .i64 x] w fun e w' => ∃ r : Int, e = .returned (.int .i64 r) ∧ decide (0 ≤ r) = hasI xs x m ∧ w = w' := by
  have CX := Lib.hid (fun k (hk : k < m) => h.cell k (by omega))
  clear h
  go_enter Try.func90, Try.ntmps90
  go_wp2_with fail
  go_loop [8] (fun v8 => ∃ k : Nat, v8 = .int .i64 k ∧ k ≤ m ∧ hasI xs x k = false) (fun v8 => m - (intOf v8).toNat)
  case atStart => exact ⟨0, rfl, Nat.zero_le _, rfl⟩
  case round =>
    obtain ⟨k, rfl, hk, hh⟩ := hrel
    have HH := Lib.hid hh
    clear hh
    by_cases hlt : k < m
    · have c1 := CX.out k hlt
      obtain ⟨u, hu⟩ : ∃ u, gi xs k = u := ⟨_, rfl⟩
      rw [hu] at c1
      have hs : hasI xs x (k + 1) = (hasI xs x k || (x == u)) := by rw [hasI, hu]
      rw [HH.out, Bool.false_or] at hs
      by_cases e : x = u
      · have t : (x == u) = true := by simp [e]
        have HU := Lib.hid (hasI_up (x := x) hlt (by rw [hu]; exact e))
        clear e hs hu
        go_wp2_with fail
        go_ret
        exact ⟨(k : Int), rfl, by rw [HU.out]; simp, rfl⟩
      · have t : (x == u) = false := by simpa using e
        rw [t] at hs
        have HS := Lib.hid hs
        clear e hs hu
        go_wp2_with fail
        go_round
        case rel => exact ⟨k + 1, by go_num, by omega, HS.out⟩
        case measure => simp [intOf]; omega
    · have e : k = m := by omega
      have HE := Lib.hid (show hasI xs x m = false by rw [← e]; exact HH.out)
      clear e
      go_wp2_with fail
      go_ret
      exact ⟨-1, rfl, by rw [HE.out]; rfl, rfl⟩
set_option maxHeartbeats 1000000 in
theorem containsI_any (b o c m : Nat) (xs : List Int) (x : Int) (w : World) (h : RowI w b o xs) (hm : m ≤ xs.length) (hl : m ≤ 1048576) :
    Calls Try.prog 79 #[.slice (some ⟨b, o, none⟩) m c, .int .i64 x] w fun e w' => e = .returned (.bool (hasI xs x m)) ∧ w = w' := by
  have CI := Lib.hid (indexI_any b o c m xs x w h hm hl)
  clear h
  go_enter Try.func79, Try.ntmps79
  go_wp2_with (go_at_call 90; refine CI.out.mono ?_; rintro e w1 ⟨r, rfl, hr, rfl⟩; have HR := Lib.hid hr; clear hr)
  go_ret
  exact ⟨by rw [← HR.out]; rfl, rfl⟩

theorem df_false {xs : List Int} {i : Nat} (hi : i < xs.length) (h : hasI xs (gi xs i) i = true) : dfB xs = false := by
  cases hd : dfB xs with
  | false => rfl
  | true =>
    obtain ⟨j, hj, e⟩ := (hasI_iff i).1 h
    exact absurd e (dfB_iff.1 hd j i hj hi)
theorem df_true {xs : List Int} (h : ∀ j, j < xs.length → hasI xs (gi xs j) j = false) : dfB xs = true :=
  dfB_iff.2 fun i j hij hj e => by
    have := hasI_up (xs := xs) hij e.symm
    rw [h j hj] at this
    cases this
theorem clipFr_any (g n c : Nat) (w : World) (_hn : n ≤ 1099511627776) (hc : n ≤ c) :
    Calls Try.prog 80 #[.slice (some ⟨g, 0, none⟩) n c] w fun e w' => e = .returned (.slice (some ⟨g, 0, none⟩) n n) ∧ w = w' := by
  go_enter Try.func80, Try.ntmps80
  go_wp2
  go_ret
  exact ⟨rfl, rfl⟩
theorem OwnF.cap {w : World} {base g c m n : Nat} {fs : List Rat} (h : OwnF w base (.slice (some ⟨g, 0, none⟩) m c) n fs) : n ≤ c := by
  rcases h.2 with ⟨h0, _⟩ | ⟨g', cap', cur, hv, hb, hg, hnc, _⟩
  · cases h0
  · cases hv; exact hnc
theorem ownF_one' (w : World) (base : Nat) (q : Rat) (hb : base ≤ w.heap.size) : OwnF (w.alloc (.cells #[.int .i64 (up q), .int .i64 (dn q)] 31)) base (.slice (some ⟨w.heap.size, 0, none⟩) 1 1) 1 [q] :=
  ⟨rfl, .inr ⟨w.heap.size, 1, _, rfl, hb, heap_alloc_new w _, Nat.le_refl _, by unfold maxLen; omega, rfl, rfl⟩⟩
theorem fc_set : ∀ (fs : List Rat) (k : Nat) (q : Rat), ((fc fs).set (k * 2) (.int .i64 (up q))).set (k * 2 + 1) (.int .i64 (dn q)) = fc (fs.set k q)
  | [], _, _ => rfl
  | p :: r, 0, q => rfl
  | p :: r, k + 1, q => by
    have ih := fc_set r k q
    rw [show (k + 1) * 2 = k * 2 + 1 + 1 by omega]
    simp only [fc, List.set_cons_succ, ih]
theorem tab_set (F : Nat → Rat) (n i : Nat) (q : Rat) : (tab F n).set i q = tab (fun p => if p = i then q else F p) n := by
  apply List.ext_getElem (by simp [tab])
  intro k h1 h2
  have hk : k < n := by rw [tab_length] at h2; exact h2
  rw [List.getElem_set]
  simp only [tab, List.getElem_map, List.getElem_range]
  by_cases e : k = i
  · subst e; simp
  · rw [if_neg (fun h => e h.symm), if_neg e]
theorem blk_seti {w : World} {g n i : Nat} {F : Nat → Rat} (h : Blk w g 31 (fc (tab F n))) (q : Rat) : Blk ((w.setCell ⟨g, i * 2, none⟩ (.int .i64 (up q))).setCell ⟨g, i * 2 + 1, none⟩ (.int .i64 (dn q))) g 31 (fc (tab (fun p => if p = i then q else F p) n)) := by
  rw [← tab_set, ← fc_set]
  exact (h.set _ _).set _ _

set_option maxHeartbeats 2000000 in
theorem curve_no1 (b o c b' o' c' : Nat) (xs ys : List Int) (w : World) (h : RowI w b o xs) (h' : RowI w b' o' ys) (hm : xs.length ≤ 1099511627776) (hm' : ys.length ≤ 1099511627776) (hv : plB xs ys 5 = false) :
    Calls Try.prog 45 #[.slice (some ⟨b, o, none⟩) xs.length c, .slice (some ⟨b', o', none⟩) ys.length c'] w
      fun e w' => e = .returned (.tuple #[.slice none 0 0, .bool false]) ∧ Below w.heap.size w w' := by
  have CV := Lib.hid (hv ▸ placesValid_any b o c b' o' c' xs ys 5 w h h' hm hm')
  clear h h' hv
  go_enter Try.func45, Try.ntmps45
  go_wp2_with (go_at_call 78; refine CV.out.mono ?_; rintro e w1 ⟨rfl, hb1⟩)
  go_ret2
  exact ⟨rfl, hb1⟩

set_option maxHeartbeats 8000000 in
set_option maxRecDepth 100000 in
theorem curve_pl (b o c b' o' c' n : Nat) (xs ys : List Int) (f : Bool) (w : World) (h : RowI w b o xs) (h' : RowI w b' o' ys) (hv : plB xs ys 5 = true) (hn : xs.length = n) (hcap : n ≤ c) (hf : dfB xs = f) :
    Calls Try.prog 45 #[.slice (some ⟨b, o, none⟩) n c, .slice (some ⟨b', o', none⟩) n c'] w
      fun e w' => ∃ v, e = .returned (.tuple #[v, .bool f]) ∧ ((f = false ∧ v = .slice none 0 0) ∨ (f = true ∧ ∃ g, v = .slice (some ⟨g, 0, none⟩) n n ∧ w.heap.size ≤ g ∧ Blk w' g 31 (fc (cvL xs ys n)))) ∧ Below w.heap.size w w' := by
  have hp : Pl xs ys 5 := pl_of (m := 5) hv
  have hl := hp.ne
  have n5 := hp.nm
  have n0 := hp.n0
  have hl' : ys.length = n := by omega
  have H := Lib.hid h
  have H' := Lib.hid h'
  have HN := Lib.hid hn
  have CV := Lib.hid (hv ▸ placesValid_any b o c b' o' c' xs ys 5 w h h' (by omega) (by omega))
  have CC := Lib.hid (fun i x w (hi : i < n) (h : RowI w b o xs) => containsI_any b o c i xs x w h (by omega) (by omega))
  rw [hn, hl'] at CV
  rw [hn] at n5 n0
  have CX := Lib.hid (fun k (hk : k < n) w (h : RowI w b o xs) => h.cell k (by omega))
  have CY := Lib.hid (fun k (hk : k < n) w (h : RowI w b' o' ys) => h.cell k (by omega))
  have BX := Lib.hid (fun k (hk : k < n) => hp.x k (by omega))
  have BY := Lib.hid (fun k (hk : k < n) => hp.y k (by omega))
  have HP := Lib.hid hp
  have DF := Lib.hid (fun i (hi : i < n) (h : hasI xs (gi xs i) i = true) => df_false (show i < xs.length by omega) h)
  have DT := Lib.hid (fun (h : ∀ j, j < n → hasI xs (gi xs j) j = false) => df_true (xs := xs) (fun j hj => h j (by omega)))
  have HF := Lib.hid hf
  clear h h' hv hn hp hl hl' hf
  go_enter Try.func45, Try.ntmps45
  go_upto_region 3 with (go_at_call 78; refine CV.out.mono ?_; rintro e w1 ⟨rfl, hb1⟩)
  have B1 := Lib.hid hb1
  have R1 := Lib.hid (H.out.below hb1)
  have R2 := Lib.hid (H'.out.below hb1)
  have z1 := hb1.size
  clear hb1 CV
  go_wp2_with fail
  go_loop [20] (fun v20 => ∃ k : Nat, v20 = .int .i64 k ∧ k ≤ n ∧ ∀ j, j < k → hasI xs (gi xs j) j = false) (fun v20 => n - (intOf v20).toNat)
  case atStart => exact ⟨0, rfl, Nat.zero_le _, fun j hj => absurd hj (Nat.not_lt_zero _)⟩
  case round =>
    obtain ⟨k, rfl, hk, hall⟩ := hrel
    have HA := Lib.hid hall
    clear hall
    by_cases hlt : k < n
    · have c1 := CX.out k hlt _ R1.out
      have hkc : k ≤ c := by omega
      obtain ⟨t, ht⟩ : ∃ t, hasI xs (gi xs k) k = t := ⟨_, rfl⟩
      have CK := Lib.hid (CC.out k (gi xs k) w1 hlt R1.out)
      rw [ht] at CK
      have HT := Lib.hid ht
      obtain ⟨x, hx⟩ : ∃ x, gi xs k = x := ⟨_, rfl⟩
      rw [hx] at c1 CK
      clear hx ht
      cases t with
      | true =>
        have e := DF.out k hlt HT.out
        have ef : f = false := by rw [← HF.out]; exact e
        have EF := Lib.hid ef
        clear e ef
        go_wp2_with (go_at_call 79; refine CK.out.mono ?_; rintro e w2 ⟨rfl, rfl⟩)
        go_ret2
        exact ⟨_, by rw [EF.out]; rfl, .inl ⟨EF.out, rfl⟩, B1.out⟩
      | false =>
        go_wp2_with (go_at_call 79; refine CK.out.mono ?_; rintro e w2 ⟨rfl, rfl⟩)
        go_round
        case rel =>
          exact ⟨k + 1, by go_num, by omega, fun j hj => by
            by_cases e : j = k
            · subst e; exact HT.out
            · exact HA.out j (by omega)⟩
        case measure => simp [intOf]; omega
    · obtain rfl : k = n := by omega
      have hd := DT.out HA.out
      have ef : f = true := by rw [← HF.out]; exact hd
      have EF := Lib.hid ef
      have HD := Lib.hid (dfB_iff.1 hd)
      have DS := Lib.hid (fun j i (hk : j ≤ 3) (hi : i + j < k) => dd_sm HP.out HD.out j i hk (by rw [HN.out]; omega))
      have DV := Lib.hid (fun i j (hij : i < j) (hj : j < k) => qd_dv HP.out HD.out hij (by rw [HN.out]; exact hj))
      have DN := Lib.hid (fun i j (hij : i < j) (hj : j < k) => HD.out i j hij (by rw [HN.out]; exact hj))
      clear ef hd DF DT HA HF CC
      go_wp2_with fail
      go_loopw [8, 33] (fun v8 v33 wr => ∃ m : Nat, v33 = .int .i64 m ∧ m ≤ k ∧ OwnF wr w1.heap.size v8 m (nwL xs ys 0 m) ∧ Below w1.heap.size w1 wr) (fun _ v33 _ => k - (intOf v33).toNat)
      case atStart => exact ⟨0, rfl, Nat.zero_le _, OwnF.nil _ _, Below.refl _ _⟩
      case round =>
        obtain ⟨m, rfl, hm, o8, hb⟩ := hrel
        have O8 := Lib.hid o8
        have B := Lib.hid hb
        have hz := hb.size
        clear o8 hb
        by_cases hlm : m < k
        · have c1 := CY.out m hlm _ (R2.out.below B.out)
          have b1 := BY.out m hlm
          have hs := nwL_succ xs ys 0 m
          have e0 : dd xs ys 0 m = qd (gi ys m) 1 := rfl
          obtain ⟨y, hy⟩ : ∃ y, gi ys m = y := ⟨_, rfl⟩
          rw [hy] at c1 b1 e0
          obtain ⟨q, hq⟩ : ∃ q, qd y 1 = q := ⟨_, rfl⟩
          rw [e0, hq] at hs
          have WY := Lib.hid (whole_a y q hq)
          have HS := Lib.hid hs
          clear hs e0 hy hq
          go_wp2_with (first
            | (go_at_call 51; refine (WY.out _).mono ?_; rintro e w2 ⟨rfl, b2⟩; have OW := Lib.hid (O8.out.below b2); have z2 := b2.size)
            | (at_builtin; refine wpList_app1 rfl (.tmp 37) (.tmp 40) 23 rfl w1.heap.size 31 (.agg #[.int .i64 0, .int .i64 0]) 2 16 Try.underlying23 infoF rfl (by decide) (by decide) _ _ _ rfl (World.ownsRow.alloc OW.out _) ⟨_, 0, none⟩ 1 [.int .i64 (up q), .int .i64 (dn q)] rfl rfl (cell_two_new _ _ _ _) (by simp [Value.oneCell']) (by omega) (by simp; omega) ?_; intro g9 cap9 w4 o1 o2 o3))
          go_roundw
          case rel => exact ⟨m + 1, by go_num, by omega, by rw [HS.out]; exact OwnF.app o1, ((B.out.trans (b2.mono hz)).alloc (by omega) _).trans (Below.app (World.ownsRow.alloc OW.out _) (by rw [World.size_alloc]; omega) o2)⟩
          case measure => simp [intOf]; omega
        · obtain rfl : m = k := by omega
          have hm0 : 0 < m := by omega
          have hm0' : (0 : Int) < (m : Int) := by omega
          obtain ⟨g8, c8, rfl, hg8⟩ := O8.out.shape (by omega)
          have kb := O8.out.blk
          have x1 := kb.f0 (k := 0) (by rw [nw_len]; omega)
          have x2 := kb.f1 (k := 0) (by rw [nw_len]; omega)
          rw [gq_nw hm0] at x1 x2
          simp only [Nat.zero_mul, Nat.zero_add] at x1 x2
          obtain ⟨q, hq⟩ : ∃ q, dd xs ys 0 0 = q := ⟨_, rfl⟩
          rw [hq] at x1 x2
          have HQ := Lib.hid hq
          have KB := Lib.hid (show Blk wr g8 31 (fc (tab (fun p => dd xs ys 0 p) m)) from kb)
          have hlt8 := kb.lt
          clear kb hq O8
          go_upto_region 16 with fail
          obtain ⟨g11, hg11⟩ : ∃ g, wr.heap.size = g := ⟨_, rfl⟩
          rw [hg11]
          refine wp_abstract (fun W => OwnF W w1.heap.size (.slice (some ⟨g11, 0, none⟩) 1 1) 1 (cvL xs ys 1) ∧ Blk W g8 31 (fc (tab (fun p => dd xs ys 0 p) m)) ∧ Below w1.heap.size w1 W) ⟨by subst hg11; have := ownF_one' wr w1.heap.size q hz; rw [← HQ.out] at this ⊢; exact this, KB.out.below below_alloc, B.out.alloc hz _⟩ ?_
          rintro W2 ⟨o11, k8, b2⟩
          have O11 := Lib.hid o11
          have K8 := Lib.hid k8
          have B2 := Lib.hid b2
          have hne : g11 ≠ g8 := by omega
          clear o11 k8 b2 KB B hz x1 x2 hg11 hlt8 HQ
          go_wp2_with fail
          go_loopw [11, 12] (fun v11 v12 wr => ∃ (d g11 c11 : Nat) (F : Nat → Rat), v12 = .int .i64 d ∧ 1 ≤ d ∧ d ≤ m ∧ v11 = .slice (some ⟨g11, 0, none⟩) d c11 ∧ g11 ≠ g8 ∧ OwnF wr w1.heap.size v11 d (cvL xs ys d) ∧ Blk wr g8 31 (fc (tab F m)) ∧ (∀ p, p + d ≤ m → F p = dd xs ys (d - 1) p) ∧ Below w1.heap.size w1 wr) (fun _ v12 _ => m - (intOf v12).toNat)
          case atStart => exact ⟨1, g11, 1, _, rfl, by omega, by omega, rfl, hne, O11.out, K8.out, fun p _ => rfl, B2.out⟩
          case round =>
            clear O11 K8 B2 hne
            obtain ⟨d, g11, c11, F, rfl, hd1, hd, rfl, hne, o11, k8, hF, hb⟩ := hrel
            have O11 := Lib.hid o11
            have K8 := Lib.hid k8
            have HFF := Lib.hid hF
            have B := Lib.hid hb
            have hz := hb.size
            clear o11 k8 hF hb
            by_cases hld : d < m
            · obtain ⟨nd, hnd⟩ : ∃ nd, m - d = nd := ⟨_, rfl⟩
              have qn : IntKind.i64.wrap ((m : Int) - (d : Int)) = (nd : Int) := by rw [IntWalk.i64_in _ (by omega)]; omega
              have hnd1 : nd + d ≤ m := by omega
              have hnd2 : m ≤ nd + d := by omega
              obtain ⟨e, he⟩ : ∃ e, d - 1 = e := ⟨_, rfl⟩
              have HEE := Lib.hid he
              have he1 : e + 1 ≤ d := by omega
              have he2 : d ≤ e + 1 := by omega
              rw [he] at HFF
              clear hnd he
              go_wp2_with fail
              go_loopw [57] (fun v57 wr => ∃ (i : Nat) (F : Nat → Rat), v57 = .int .i64 i ∧ i ≤ nd ∧ OwnF wr w1.heap.size (.slice (some ⟨g11, 0, none⟩) d c11) d (cvL xs ys d) ∧ Blk wr g8 31 (fc (tab F m)) ∧ (∀ p, p < i → F p = dd xs ys d p) ∧ (∀ p, i ≤ p → p + d ≤ m → F p = dd xs ys e p) ∧ Below w1.heap.size w1 wr) (fun v57 _ => nd - (intOf v57).toNat)
              case atStart => exact ⟨0, F, rfl, Nat.zero_le _, O11.out, K8.out, fun p hp => absurd hp (Nat.not_lt_zero _), fun p _ hp => HFF.out p hp, B.out⟩
              case round =>
                clear O11 K8 HFF B hz
                obtain ⟨i, F, rfl, hi, o11, k8, hF1, hF2, hb⟩ := hrel
                have O11 := Lib.hid o11
                have K8 := Lib.hid k8
                have HF1 := Lib.hid hF1
                have HF2 := Lib.hid hF2
                have B := Lib.hid hb
                have hz := hb.size
                have l11 := o11.ge
                have l8 := k8.lt
                clear o11 k8 hF1 hF2 hb
                by_cases hli : i < nd
                · obtain ⟨i1, hi1⟩ : ∃ i1, i + 1 = i1 := ⟨_, rfl⟩
                  have q0 : IntKind.i64.wrap ((i : Int) + 1) = (i1 : Int) := by rw [IntWalk.i64_in _ (by omega)]; omega
                  obtain ⟨s2, hs2⟩ : ∃ s, i + d = s := ⟨_, rfl⟩
                  have q1 : IntKind.i64.wrap ((i : Int) + (d : Int)) = (s2 : Int) := by rw [IntWalk.i64_in _ (by omega)]; omega
                  have ls2 : s2 < m := by omega
                  have ls2' : (s2 : Int) < (m : Int) := by omega
                  have li1 : i1 < m := by omega
                  have li1' : (i1 : Int) < (m : Int) := by omega
                  have lik : i < m := by omega
                  have lik' : (i : Int) < (m : Int) := by omega
                  have R1' := Lib.hid (R1.out.below B.out)
                  have c1 := CX.out s2 ls2 _ R1'.out
                  have c2 := CX.out i lik _ R1'.out
                  have bx1 := BX.out s2 ls2
                  have bx2 := BX.out i lik
                  have dn := DN.out i s2 (by omega) ls2
                  have dv := DV.out i s2 (by omega) ls2
                  have x1 := K8.out.f0 (k := i1) (by rw [tab_length]; omega)
                  have x2 := K8.out.f1 (k := i1) (by rw [tab_length]; omega)
                  have x3 := K8.out.f0 (k := i) (by rw [tab_length]; omega)
                  have x4 := K8.out.f1 (k := i) (by rw [tab_length]; omega)
                  rw [gq_tab li1, HF2.out i1 (by omega) (by omega)] at x1 x2
                  rw [gq_tab lik, HF2.out i (by omega) (by omega)] at x3 x4
                  have sp := DS.out e i1 (by omega) (by omega)
                  have sq := DS.out e i (by omega) (by omega)
                  have e1 : dd xs ys d i = (dd xs ys e i1 - dd xs ys e i) * qd 1 (gi xs s2 - gi xs i) := by
                    obtain rfl : d = e + 1 := by omega
                    rw [← hi1, ← hs2]
                    rfl
                  obtain ⟨p, hp⟩ : ∃ p, dd xs ys e i1 = p := ⟨_, rfl⟩
                  obtain ⟨q, hq⟩ : ∃ p, dd xs ys e i = p := ⟨_, rfl⟩
                  obtain ⟨r, hr⟩ : ∃ p, dd xs ys d i = p := ⟨_, rfl⟩
                  rw [hp] at x1 x2 sp e1
                  rw [hq] at x3 x4 sq e1
                  rw [hr] at e1
                  have HR := Lib.hid hr
                  obtain ⟨u1, hu1⟩ : ∃ u, gi xs s2 = u := ⟨_, rfl⟩
                  obtain ⟨u2, hu2⟩ : ∃ u, gi xs i = u := ⟨_, rfl⟩
                  rw [hu1] at c1 bx1 e1 dn dv
                  rw [hu2] at c2 bx2 e1 dn dv
                  obtain ⟨du, hdu⟩ : ∃ u, u1 - u2 = u := ⟨_, rfl⟩
                  have q3 : IntKind.i64.wrap (u1 - u2) = du := by rw [← hdu]; exact IntWalk.i64_in _ (by omega)
                  rw [hdu] at e1 dv
                  obtain ⟨qu, hqu⟩ : ∃ u, qd du 1 = u := ⟨_, rfl⟩
                  obtain ⟨dq, hdq⟩ : ∃ u, qd 1 du = u := ⟨_, rfl⟩
                  rw [hdq] at e1 dv
                  obtain ⟨t, ht⟩ : ∃ t, p - q = t := ⟨_, rfl⟩
                  rw [ht] at e1
                  have st : Sm (1327104 * 191102976 + 1327104 * 191102976) (191102976 * 191102976) t := ht ▸ sm_sub sp sq
                  have squ : Sm 24 1 qu := hqu ▸ sm_int (by omega) (by omega)
                  have eu : up qu = du := by rw [← hqu, up_qd]
                  have m1 := sm_mul sp sq
                  have WU := Lib.hid (whole_a du qu hqu)
                  have MW := Lib.hid (fun w => minus_any p q t ht w (by omega) (by omega))
                  have OV := Lib.hid (fun w => over_any t qu dq r (1327104 * 191102976 + 1327104 * 191102976) (191102976 * 191102976) 24 1 (by rw [← hdq, ← hqu, up_qd, dn_qd]) e1.symm w (by rw [eu]; omega) st squ (by omega) (by omega) (by omega) (by omega) (by omega) (by omega))
                  have HI1 := Lib.hid hi1
                  clear hp hq hr hu1 hu2 hdu hqu hdq ht st squ eu m1 sp sq dv dn e1 bx1 bx2 hs2 hi1
                  go_upto_region 22 with fail
                  obtain ⟨ι, W, hW0, hWm, hWb⟩ := good_worlds wr
                  have hWn : Nonempty ι := hW0.elim fun i _ => ⟨i⟩
                  have y1 : ∀ i', (W i').cell? ⟨g8, i1 * 2, none⟩ = some (.int .i64 (up p)) := fun i' => keepC (hWb i') x1
                  have y2 : ∀ i', (W i').cell? ⟨g8, i1 * 2 + 1, none⟩ = some (.int .i64 (dn p)) := fun i' => keepC (hWb i') x2
                  have y3 : ∀ i', (W i').cell? ⟨g8, i * 2, none⟩ = some (.int .i64 (up q)) := fun i' => keepC (hWb i') x3
                  have y4 : ∀ i', (W i').cell? ⟨g8, i * 2 + 1, none⟩ = some (.int .i64 (dn q)) := fun i' => keepC (hWb i') x4
                  have y5 : ∀ i', (W i').cell? ⟨b, o + s2, none⟩ = some (.int .i64 u1) := fun i' => keepC (hWb i') c1
                  have y6 : ∀ i', (W i').cell? ⟨b, o + i, none⟩ = some (.int .i64 u2) := fun i' => keepC (hWb i') c2
                  have y7 : ∀ i', (W i').frozen? ⟨g8, i * 2, none⟩ = false := fun i' => (K8.out.below (hWb i')).frozen _
                  have y8 : ∀ i', (W i').frozen? ⟨g8, i * 2 + 1, none⟩ = false := fun i' => (K8.out.below (hWb i')).frozen _
                  clear x1 x2 x3 x4 c1 c2 R1'
                  (refine region_quiet_tail (C := fun w' => ∃ i, w' = W i) 26 (by kernel_rfl) (by kernel_rfl) hW0 ?_; simp only [List.take_succ_cons, List.take_zero, List.drop_succ_cons, List.drop_zero]; (repeat (go_big_quiet_step (first
                    | (go_at_call 58; exact (MW.out _).mono fun e w'' h => ⟨h.1, hWm _ _ h.2⟩)
                    | (go_at_call 51; exact (WU.out _).mono fun e w'' h => ⟨h.1, hWm _ _ h.2⟩)
                    | (go_at_call 71; exact (OV.out _).mono fun e w'' h => ⟨h.1, hWm _ _ h.2⟩)))); refine wpQuiet_nil ?_; rintro _ ⟨iw, rfl⟩)
                  have hbi := hWb iw
                  have zi := hbi.size
                  have K8' := Lib.hid (K8.out.below hbi)
                  have O11' := Lib.hid (O11.out.below hbi)
                  have BW := Lib.hid (B.out.trans (hbi.mono hz))
                  have z1' := y7 iw
                  have z2' := y8 iw
                  have z3' := y3 iw
                  have z4' := y4 iw
                  have hi1 := HI1.out
                  clear hbi hWb hWm hW0 hWn y1 y2 y3 y4 y5 y6 y7 y8
                  go_wp2_with fail
                  go_roundw
                  case rel =>
                    refine ⟨i1, fun p => if p = i then r else F p, rfl, by omega, ((O11'.out).grown (grownBy_set (grownBy_refl _ _) _) (one_block hne)).grown (grownBy_set (grownBy_refl _ _) _) (one_block hne), blk_seti K8'.out r, fun p hp => ?_, fun p hp1 hp2 => ?_, (BW.out.setCell hg8 _).setCell hg8 _⟩
                    · dsimp only
                      by_cases e : p = i
                      · rw [if_pos e, e]; exact HR.out.symm
                      · rw [if_neg e]; exact HF1.out p (by omega)
                    · dsimp only
                      rw [if_neg (by omega)]
                      exact HF2.out p (by omega) hp2
                  case measure => simp [intOf]; omega
                · obtain rfl : i = nd := by omega
                  have x1 := K8.out.f0 (k := 0) (by rw [tab_length]; omega)
                  have x2 := K8.out.f1 (k := 0) (by rw [tab_length]; omega)
                  rw [gq_tab (by omega), HF1.out 0 (by omega)] at x1 x2
                  simp only [Nat.zero_mul, Nat.zero_add] at x1 x2
                  have hs := cvL_succ xs ys d
                  obtain ⟨q, hq⟩ : ∃ q, dd xs ys d 0 = q := ⟨_, rfl⟩
                  rw [hq] at x1 x2 hs
                  have HS := Lib.hid hs
                  have HFN := Lib.hid (show ∀ p, p + (d + 1) ≤ m → F p = dd xs ys (d + 1 - 1) p from fun p hp => by rw [show d + 1 - 1 = d by omega]; exact HF1.out p (by omega))
                  clear hs hq
                  go_wp2_with (at_builtin; refine wpList_app1 rfl (.tmp 87) (.tmp 91) 23 rfl w1.heap.size 31 (.agg #[.int .i64 0, .int .i64 0]) 2 16 Try.underlying23 infoF rfl (by decide) (by decide) _ _ _ rfl (World.ownsRow.alloc O11.out _) ⟨_, 0, none⟩ 1 [.int .i64 (up q), .int .i64 (dn q)] rfl rfl (cell_two_new _ _ _ _) (by simp [Value.oneCell']) (by omega) (by simp; omega) ?_; intro g9 cap9 w4 o1 o2 o3)
                  have P2 := show World.grownBy _ w4 (some g11) from o2
                  have P3 := show some g11 = some g9 ∨ _ ≤ g9 from o3
                  have hne' : g9 ≠ g8 := by
                    rcases P3 with e | e
                    · have := Option.some.inj e; omega
                    · rw [World.size_alloc] at e; omega
                  go_roundw
                  case rel => exact ⟨d + 1, g9, cap9, F, by go_num, by omega, by omega, rfl, hne', by rw [HS.out]; exact OwnF.app o1, (K8.out.below below_alloc).grown P2 (fun e => hne e.symm), HFN.out, (B.out.alloc hz _).trans (Below.app (World.ownsRow.alloc O11.out _) (by rw [World.size_alloc]; omega) o2)⟩
                  case measure => simp [intOf]; omega
            · obtain rfl : d = m := by omega
              have hcap := O11.out.cap
              have kb := O11.out.blk
              have l11 := O11.out.ge
              have KB := Lib.hid kb
              clear kb
              go_wp2_with (go_at_call 80; refine (clipFr_any _ _ _ _ (by omega) hcap).mono ?_; rintro e w9 ⟨rfl, rfl⟩)
              go_ret2
              exact ⟨_, by rw [EF.out]; rfl, .inr ⟨EF.out, g11, rfl, by omega, KB.out⟩, B1.out.trans (B.out.mono z1)⟩

end Go.Proofs.Ytoioafadenniiaa
