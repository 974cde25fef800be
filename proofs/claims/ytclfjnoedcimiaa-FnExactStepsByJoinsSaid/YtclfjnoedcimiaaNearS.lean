/- spec.JoinsOf: the joins by rising heights. -/
import Derived.Test.YtclfjnoedcimiaaNearP
namespace Go.Proofs.Ytclfjnoedcimiaa
open Go.RowKit

theorem ini_snoc (k : Nat) : ini k ++ [(k : Int)] = ini (k + 1) := (tabI_succ (fun i => (i : Int)) k).symm
/-- What the reference holds: its list of joins, its labels. -/
def SWj (w wr : World) (nb gg n : Nat) (v : Value) (O : List Jn) : Prop := OwnJ wr nb v O.length O ∧ Blk wr gg 3 (ic (gS n O)) ∧ nb ≤ wr.heap.size ∧ Below w.heap.size w wr
theorem SWj.draws {w wr : World} {nb gg n : Nat} {v : Value} {O : List Jn} (h : SWj w wr nb gg n v O) (k : Nat) : SWj w (wr.drewN k) nb gg n v O := by
  have hb : Below wr.heap.size wr (wr.drewN k) := Below.drewN (Below.refl _ _) k
  exact ⟨h.1.below hb, h.2.1.below hb, Nat.le_trans h.2.2.1 hb.size, h.2.2.2.trans (hb.mono h.2.2.2.size)⟩

theorem OwnJ.mutv {w : World} {base : Nat} {v : Value} {n : Nat} {fs : List Jn} (h : OwnJ w base v n fs) : Mut 35 w base v n (jc fs) := by
  rcases h.2 with ⟨rfl, rfl⟩ | ⟨g, cap, cur, rfl, hb, hg, hnc, _⟩
  · exact .inl ⟨rfl, rfl, by have := h.len; rw [List.eq_nil_of_length_eq_zero this]; rfl⟩
  · exact .inr ⟨g, cap, rfl, hb, (Blk.of_own h).1⟩

set_option maxRecDepth 100000 in
set_option maxHeartbeats 8000000 in
theorem sjoins_any (g n : Nat) (cg : Nat) (H Cp : Nat → Nat) (xss : List (List Int)) (w : World) (h : MatC w g H Cp xss) (hg : Gp xss) (hn : xss.length = n) :
    Calls Try.prog 43 #[.slice (some ⟨g, 0, none⟩) n cg] w fun e w' => ∃ v, e = .returned v ∧ Mut 35 w' w.heap.size v (n - 1) (jc (oF (fNear xss) n (n - 1))) ∧ Below w.heap.size w w' := by
  have HM := Lib.hid h
  have HG := Lib.hid hg
  have HN := Lib.hid hn
  have n6 := hg.n6
  have n0 := hg.n0
  rw [hn] at n6 n0
  clear h hg hn
  go_enter Try.func43, Try.ntmps43
  go_wp2_with fail
  go_loopw [4, 5] (fun v4 v5 wr => ∃ (k gg cap : Nat), v5 = .int .i64 k ∧ k ≤ n ∧ v4 = .slice (some ⟨gg, 0, none⟩) k cap ∧ OwnI wr w.heap.size v4 k (ini k) ∧ Below w.heap.size w wr) (fun _ v5 _ => n - (intOf v5).toNat)
  case atStart => exact ⟨0, w.heap.size, 0, rfl, by omega, rfl, World.ownsRow_made w #[] 0 (Nat.le_refl _) (by unfold maxLen; omega) rfl, by (repeat' (first | (with_reducible exact Below.refl _ _) | (with_reducible assumption) | (with_reducible refine Below.drewN ?_ _) | (with_reducible refine Below.alloc ?_ ?_ _) | (with_reducible refine Below.drew ?_) | (with_reducible refine Below.setCell ?_ ?_ _) | (with_reducible refine Below.trans ?_ (Below.mono (by assumption) ?_)) | go_size | (with_reducible refine Nat.le_trans ?_ (Below.size (by assumption)))))⟩
  case round =>
    obtain ⟨k, gg, cap, rfl, hk, rfl, hown, hb⟩ := hrel
    have HO := Lib.hid hown
    have HB := Lib.hid hb
    have hz := hb.size
    clear hown hb
    by_cases hlt : k < n
    · go_wp2_with (at_builtin; refine wpList_app1 rfl (.tmp 21) (.tmp 23) 36 rfl w.heap.size 3 (.int .i64 0) 1 8 Try.underlying36 infoI rfl (by decide) (by decide) _ _ _ rfl (World.ownsRow.alloc HO.out _) ⟨wr.heap.size, 0, none⟩ 1 [.int .i64 k] rfl rfl (cell_one_new _ _ _) (by simp [Value.oneCell']) (by omega) (by simp; omega) ?_; intro g6 cap6 w6 o1 o2 o3)
      have hb1 : Below w.heap.size w w6 := (HB.out.alloc hz _).trans (Below.app (World.ownsRow.alloc HO.out _) (by simp; omega) o2)
      have HO6 := Lib.hid (OwnI.app o1)
      have HB6 := Lib.hid hb1
      clear o1 o2 o3 hb1
      go_roundw
      case rel => exact ⟨k + 1, g6, cap6, by go_num, by omega, rfl, by rw [← ini_snoc]; exact HO6.out, HB6.out⟩
      case measure => simp [intOf]; omega
    · have e : k = n := by omega
      subst e
      have kb := (Blk.of_own HO.out).1
      have lg := kb.lt
      have KB := Lib.hid kb
      have hgg := (Blk.of_own HO.out).2
      clear kb HO
      obtain ⟨nb, hnb⟩ : ∃ nb, wr.heap.size = nb := ⟨_, rfl⟩
      have SW0 := Lib.hid (show SWj w (wr.alloc (.cells #[] 35)) nb gg k (.slice (some ⟨nb, 0, none⟩) 0 0) [] from by
        rw [← hnb]
        exact ⟨World.ownsRow_made wr #[] 0 (Nat.le_refl _) (by unfold maxLen; omega) rfl, KB.out.below below_alloc, by simp, HB.out.alloc hz _⟩)
      have JS0 := Lib.hid (js_ini HG.out HN.out)
      have lg2 : gg < nb := by omega
      go_wp2_with fail
      clear hnb hz HB KB lg
      go_loopw [6, 7] (fun v6 v7 wr => ∃ (h : Nat) (O : List Jn), v7 = .int .i64 h ∧ 1 ≤ h ∧ h ≤ 41 ∧ JS xss k O h 0 1 ∧ SWj w wr nb gg k v6 O) (fun _ v7 _ => 41 - (intOf v7).toNat)
      case atStart => exact ⟨1, [], rfl, Nat.le_refl _, by omega, JS0.out, SW0.out⟩
      case round =>
        clear JS0 SW0
        obtain ⟨h, O, rfl, h1, h41, hjs, hsw⟩ := hrel
        have JSH := Lib.hid hjs
        have SWH := Lib.hid hsw
        clear hjs hsw
        by_cases hlh : h < 41
        · have th : decide ((h : Int) ≤ 40) = true := by simp; omega
          go_wp2_with fail
          go_loopw [6, 8] (fun v6 v8 wr => ∃ (a : Nat) (O : List Jn), v8 = .int .i64 a ∧ a ≤ k ∧ JS xss k O h a (a + 1) ∧ SWj w wr nb gg k v6 O) (fun _ v8 _ => k - (intOf v8).toNat)
          case atStart => exact ⟨0, O, rfl, Nat.zero_le _, JSH.out, SWH.out⟩
          case round =>
            clear JSH SWH
            obtain ⟨a, O, rfl, ha, hjs, hsw⟩ := hrel
            have JSH := Lib.hid hjs
            have SWH := Lib.hid hsw
            clear hjs hsw
            by_cases hla : a < k
            · go_wp2_with fail
              go_loopw [6, 9] (fun v6 v9 wr => ∃ (b : Nat) (O : List Jn), v9 = .int .i64 b ∧ a < b ∧ b ≤ k ∧ JS xss k O h a b ∧ SWj w wr nb gg k v6 O) (fun _ v9 _ => k - (intOf v9).toNat)
              case atStart => exact ⟨a + 1, O, by go_num, by omega, by omega, JSH.out, SWH.out⟩
              case round =>
                clear JSH SWH
                obtain ⟨b, O, rfl, hab, hb, hjs, hsw⟩ := hrel
                have JSH := Lib.hid hjs
                have SWH := Lib.hid hsw
                have hol := js_short hjs
                clear hjs hsw
                by_cases hlb : b < k
                · obtain ⟨y1, r1⟩ := (HM.out.below SWH.out.2.2.2).row (show a < xss.length by have := HN.out; omega)
                  have l1 := HG.out.len a (by have := HN.out; omega)
                  have x1 := r1.cell b (by have := HN.out; omega)
                  rw [Nat.zero_add] at x1
                  have HGL := Lib.hid (gS_length k O)
                  have x2 := SWH.out.2.1.cell (get_ic (xs := gS k O) (k := a) (by rw [gS_length]; exact hla))
                  have x3 := SWH.out.2.1.cell (get_ic (xs := gS k O) (k := b) (by rw [gS_length]; exact hlb))
                  obtain ⟨x, hx⟩ : ∃ x, gi (gl xss a) b = x := ⟨_, rfl⟩
                  have HX := Lib.hid (show gm xss a b = x from hx)
                  obtain ⟨u, hu⟩ : ∃ u, gi (gS k O) a = u := ⟨_, rfl⟩
                  obtain ⟨v, hv⟩ : ∃ v, gi (gS k O) b = v := ⟨_, rfl⟩
                  rw [hx] at x1
                  rw [hu] at x2
                  rw [hv] at x3
                  have HU := Lib.hid hu
                  have HV := Lib.hid hv
                  obtain ⟨m, hm⟩ : ∃ m, (gl xss a).length = m := ⟨_, rfl⟩
                  rw [hm] at y1 l1
                  have q3 : (b : Int) < (m : Int) := by have := HN.out; omega
                  have q4 : (a : Int) < (k : Int) := by omega
                  have q5 : (b : Int) < (k : Int) := by omega
                  clear r1 hx hu hv hm l1
                  by_cases txh : x = (h : Int)
                  · have t1 : (x != (h : Int)) = false := by simp [txh]
                    by_cases tuv : u = v
                    · have t2 : (u == v) = true := by simpa using tuv
                      have JS2 := Lib.hid (js_skip JSH.out (.inr (by rw [HU.out, HV.out]; exact tuv)))
                      clear txh tuv
                      go_wp2_with fail
                      go_quiet (fail)
                      go_wp2_with fail
                      go_roundw
                      case rel => exact ⟨b + 1, O, by go_num, by omega, by omega, JS2.out, SWH.out.draws _⟩
                      case measure => simp [intOf]; omega
                    · have t2 : (u == v) = false := by simpa using tuv
                      have JS2 := Lib.hid (js_join JSH.out hab hlb (by omega) (by rw [HX.out]; exact txh) (by rw [HU.out, HV.out]; exact tuv))
                      obtain ⟨mn, hmn⟩ : ∃ mn, (if v < u then v else u) = mn := ⟨_, rfl⟩
                      obtain ⟨mx, hmx⟩ : ∃ mx, (if u < v then v else u) = mx := ⟨_, rfl⟩
                      have HMG := Lib.hid (show gS k (O ++ [(a, b, (h : Int))]) = reL mx mn (gS k O) from by rw [gS_snoc]; exact mgS_is (by rw [HU.out, HV.out]; exact hmn) (by rw [HU.out, HV.out]; exact hmx))
                      clear txh tuv
                      go_wp2_with fail
                      go_quiet (fail)
                      have SW1 := Lib.hid (SWH.out.draws nq)
                      have SW1 := Lib.hid (show SWj w ((wr.drewN nq).drew.drew) nb gg k _ O from (SWH.out.draws nq).draws 2)
                      go_wp2_with fail
                      (refine region_tail 8 (by kernel_rfl) (by kernel_rfl) ?_; simp only [List.take_succ_cons, List.take_zero, List.drop_succ_cons, List.drop_zero]; (repeat (go_big_quiet_step (fail))); refine wpQuiet_nil ?_)
                      go_wp2_with fail
                      (refine region_tail 8 (by kernel_rfl) (by kernel_rfl) ?_; simp only [List.take_succ_cons, List.take_zero, List.drop_succ_cons, List.drop_zero]; (repeat (go_big_quiet_step (fail))); refine wpQuiet_nil ?_)
                      go_wp2_with (at_builtin; refine wpList_app1 rfl (.tmp 80) (.tmp 85) 30 rfl nb 35 (.agg #[.int .i64 0, .int .i64 0, .int .i64 0]) 3 24 Try.underlying30 infoJ rfl (by decide) (by decide) _ _ _ rfl (World.ownsRow.alloc SW1.out.1 _) ⟨_, 0, none⟩ 1 [.int .i64 (a : Int), .int .i64 (b : Int), .int .i64 (h : Int)] rfl rfl (cell_three_new _ _ _ _ _) (by simp [Value.oneCell']) (by omega) (by have := SW1.out.2.2.1; simp at this; simp; omega) ?_; intro g7 cap7 w7 o1 o2 o3)
                      have lgg := SW1.out.2.1.lt
                      have z7 := o2.size
                      have k7 : Blk w7 gg 3 (ic (gS k O)) := (SW1.out.2.1.below below_alloc).of_eq (o2.block gg (by simp at lgg; simp; omega) (fun e => by have := (SW1.out.1.lt gg e.symm).1; omega))
                      have b7 : Below w.heap.size w w7 := (SW1.out.2.2.2.alloc SW1.out.2.2.2.size _).trans (Below.app (B := w.heap.size) (own_mono' (World.ownsRow.alloc SW1.out.1 _) (by omega)) (by have := SW1.out.2.2.2.size; simp at this; simp; omega) o2)
                      have HO7 := Lib.hid (OwnJ.app (q := (a, b, (h : Int))) o1)
                      have K7 := Lib.hid k7
                      have B7 := Lib.hid b7
                      have zn : nb ≤ w7.heap.size := by have := SW1.out.2.2.1; simp at this z7; omega
                      clear o1 o2 o3 k7 b7 hmx hmn lgg z7
                      go_wp2_with fail
                      go_loopw [12] (fun v12 wr => ∃ c : Nat, c ≤ k ∧ v12 = .int .i64 c ∧ (∃ L : List Int, L.length = k ∧ (∀ j, j < c → gi L j = gi (reL mx mn (gS k O)) j) ∧ (∀ j, c ≤ j → j < k → gi L j = gi (gS k O) j) ∧ Blk wr gg 3 (ic L)) ∧ w7.grownBy wr (some gg)) (fun v12 _ => k - (intOf v12).toNat)
                      case atStart => exact ⟨0, Nat.zero_le _, rfl, ⟨gS k O, HGL.out, fun j hj => absurd hj (Nat.not_lt_zero _), fun _ _ _ => rfl, K7.out⟩, grownBy_refl _ _⟩
                      case round =>
                        obtain ⟨c, hc, rfl, ⟨L, hl1, hl2, hl3, hbk⟩, hgr⟩ := hrel
                        have H1 := Lib.hid hl1
                        have H2 := Lib.hid hl2
                        have H3 := Lib.hid hl3
                        have HB := Lib.hid hbk
                        have HGR := Lib.hid hgr
                        by_cases hlt : c < k
                        · have c1 := hbk.cell (get_ic (xs := L) (k := c) (by omega))
                          have f1 := hbk.frozen c
                          have e1 : gi L c = gi (gS k O) c := hl3 c (Nat.le_refl _) hlt
                          rw [e1] at c1
                          have hgk : gi (reL mx mn (gS k O)) c = if gi (gS k O) c = mx then mn else gi (gS k O) c := gi_reL (by rw [HGL.out]; exact hlt)
                          have HGK := Lib.hid hgk
                          obtain ⟨z, hz⟩ : ∃ z, gi (gS k O) c = z := ⟨_, rfl⟩
                          rw [hz] at c1
                          have HZ := Lib.hid hz
                          clear hl1 hl2 hl3 hbk hgr e1 hgk hz
                          by_cases t : z = mx
                          · subst t
                            have t9 : (z == z) = true := by simp
                            go_wp2_with fail
                            go_roundw
                            case rel =>
                              refine ⟨c + 1, by omega, by go_num, ⟨L.set c mn, by rw [List.length_set]; exact H1.out, fun j hj => ?_, fun j hj1 hj2 => ?_, ?_⟩, grownBy_set HGR.out _⟩
                              · have hl1 := H1.out
                                by_cases e : j = c
                                · subst e
                                  rw [HGK.out, HZ.out, if_pos rfl, gi_eq (by rw [List.length_set]; omega)]
                                  simp
                                · have := H2.out j (by omega)
                                  rw [← this, gi_eq (by rw [List.length_set]; omega), gi_eq (by omega), List.getElem_set_ne (fun h => e h.symm)]
                              · have hl1 := H1.out
                                have := H3.out j (by omega) hj2
                                rw [← this, gi_eq (by rw [List.length_set]; omega), gi_eq (by omega), List.getElem_set_ne (by omega)]
                              · have := HB.out.set c (.int .i64 mn)
                                rwa [show (ic L).set c (.int .i64 mn) = ic (L.set c mn) from by unfold ic; rw [List.map_set]] at this
                            case measure => simp [intOf]; omega
                          · have t9 : (z == mx) = false := by simpa using t
                            have HT := Lib.hid t
                            clear t
                            go_wp2_with fail
                            go_roundw
                            case rel =>
                              refine ⟨c + 1, by omega, by go_num, ⟨L, H1.out, fun j hj => ?_, fun j hj1 hj2 => H3.out j (by omega) hj2, HB.out⟩, HGR.out⟩
                              by_cases e : j = c
                              · subst e
                                rw [HGK.out, HZ.out, if_neg HT.out, H3.out j (Nat.le_refl _) hlt, HZ.out]
                              · exact H2.out j (by omega)
                            case measure => simp [intOf]; omega
                        · have e : c = k := by omega
                          have e2 : L = reL mx mn (gS k O) := eq_of_gi (by rw [reL_length, hl1, HGL.out]) (fun j hj => hl2 j (by omega))
                          have HE := Lib.hid (show Blk wr gg 3 (ic (gS k (O ++ [(a, b, (h : Int))]))) from by rw [HMG.out, ← e2]; exact hbk)
                          have z9 := hgr.size
                          have HL := Lib.hid (show (O ++ [(a, b, (h : Int))]).length = O.length + 1 from by simp)
                          clear hl1 hl2 hl3 hbk hgr e2 e
                          go_wp2_with fail
                          go_roundw
                          case rel => exact ⟨b + 1, O ++ [(a, b, (h : Int))], by go_num, by omega, by omega, JS2.out, by rw [HL.out]; exact HO7.out.grown HGR.out lg2, HE.out, by omega, B7.out.trans ⟨HGR.out.os, HGR.out.tape, HGR.out.output, HGR.out.size, fun j hj => HGR.out.block j (Nat.lt_of_lt_of_le hj B7.out.size) (fun e => by have e := Option.some.inj e; omega)⟩⟩
                          case measure => simp [intOf]; omega
                  · have t1 : (x != (h : Int)) = true := by rw [bne_iff_ne]; exact txh
                    have JS2 := Lib.hid (js_skip JSH.out (.inl (by rw [HX.out]; exact txh)))
                    clear txh
                    go_wp2_with fail
                    go_quiet (fail)
                    go_wp2_with fail
                    go_roundw
                    case rel => exact ⟨b + 1, O, by go_num, by omega, by omega, JS2.out, SWH.out.draws _⟩
                    case measure => simp [intOf]; omega
                · have e : b = k := by omega
                  have JS2 := Lib.hid (js_row JSH.out (by omega))
                  clear e
                  go_wp2_with fail
                  go_roundw
                  case rel => exact ⟨a + 1, O, by go_num, by omega, JS2.out, SWH.out⟩
                  case measure => simp [intOf]; omega
            · have JS2 := Lib.hid (js_height JSH.out (by omega))
              go_wp2_with fail
              go_roundw
              case rel => exact ⟨h + 1, O, by go_num, by omega, by omega, by have := JS2.out; simpa using this, SWH.out⟩
              case measure => simp [intOf]; omega
        · have e : h = 41 := by omega
          have th : decide ((41 : Int) ≤ 40) = false := by decide
          have HE := Lib.hid (js_end (show JS xss k O 41 0 1 from by have := JSH.out; rw [e] at this; exact this) HG.out HN.out)
          have HL := Lib.hid (show O.length = k - 1 from by rw [HE.out, oF_length])
          subst e
          go_wp2_with fail
          go_ret
          refine ⟨_, rfl, ?_, SWH.out.2.2.2⟩
          rw [← HE.out, ← HL.out]
          exact (OwnJ.mutv SWH.out.1).mono (by omega)

set_option maxHeartbeats 1000000 in
theorem sjoinsOf_anyC (g : Nat) (cg : Nat) (H Cp : Nat → Nat) (xss : List (List Int)) (w : World) (h : MatC w g H Cp xss) (hn : xss.length ≤ 1048576) :
    Calls Try.prog 15 #[.slice (some ⟨g, 0, none⟩) xss.length cg] w fun e w' => ∃ v, e = .returned v ∧ Mut 35 w' w.heap.size v (jnV xss).length (jc (jnV xss)) ∧ Below w.heap.size w w' := by
  have HM := Lib.hid h
  have CV := Lib.hid (svalidGaps_anyC g cg H Cp xss w h hn)
  clear h
  cases hv : gpB xss with
  | false =>
    have e : jnV xss = [] := by simp [jnV, hv]
    rw [e]
    rw [hv] at CV
    clear e hv
    go_enter Try.func15, Try.ntmps15
    go_wp2_with (go_at_call 37; refine CV.out.mono ?_; rintro e w1 ⟨rfl, hb1⟩)
    go_ret
    exact ⟨_, rfl, Mut.nil _ _ _, hb1⟩
  | true =>
    have e : jnV xss = oF (fNear xss) xss.length (xss.length - 1) := by simp [jnV, hv]
    rw [e, oF_length]
    have CN := Lib.hid (fun (w1 : World) (hb : Below w.heap.size w w1) => sjoins_any g xss.length cg H Cp xss w1 (HM.out.below hb) (gp_of hv) rfl)
    rw [hv] at CV
    clear e hv
    go_enter Try.func15, Try.ntmps15
    go_wp2_with (first
      | (go_at_call 37; refine CV.out.mono ?_; rintro e w1 ⟨rfl, hb1⟩; have z1 := hb1.size)
      | (go_at_call 43; refine (CN.out _ hb1).mono ?_; rintro e w2 ⟨v, rfl, hm, hb2⟩))
    go_ret
    exact ⟨v, rfl, hm.mono z1, hb1.trans (hb2.mono z1)⟩

theorem sjoinsOf_any (g : Nat) (H : Nat → Nat) (xss : List (List Int)) (w : World) (h : Mat w g H xss) (hn : xss.length ≤ 1048576) :
    Calls Try.prog 15 #[.slice (some ⟨g, 0, none⟩) xss.length xss.length] w fun e w' => ∃ v, e = .returned v ∧ Mut 35 w' w.heap.size v (jnV xss).length (jc (jnV xss)) ∧ Below w.heap.size w w' :=
  sjoinsOf_anyC g _ H _ xss w h hn

end Go.Proofs.Ytclfjnoedcimiaa
