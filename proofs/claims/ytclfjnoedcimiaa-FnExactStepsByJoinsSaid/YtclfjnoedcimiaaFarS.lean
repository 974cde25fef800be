/- spec.FarJoins. -/
import Derived.Test.YtclfjnoedcimiaaFarP
import Derived.Test.YtclfjnoedcimiaaNearS
namespace Go.Proofs.Ytclfjnoedcimiaa
open Go.RowKit

/-- What the reference holds: its list of joins, its labels. -/
def SWf (w wr : World) (nb gg n : Nat) (v : Value) (O : List Jn) : Prop := OwnJ wr nb v O.length O ∧ Blk wr gg 3 (ic (gI n O)) ∧ nb ≤ wr.heap.size ∧ Below w.heap.size w wr

set_option maxRecDepth 100000 in
set_option maxHeartbeats 8000000 in
theorem sfarJoin_any (g n : Nat) (cg : Nat) (H Cp : Nat → Nat) (xss : List (List Int)) (w : World) (h : MatC w g H Cp xss) (hg : Gp xss) (hn : xss.length = n) :
    Calls Try.prog 47 #[.slice (some ⟨g, 0, none⟩) n cg] w fun e w' => ∃ v, e = .returned v ∧ Mut 35 w' w.heap.size v (n - 1) (jc (oF (fFar xss) n (n - 1))) ∧ Below w.heap.size w w' := by
  have HM := Lib.hid h
  have HG := Lib.hid hg
  have HN := Lib.hid hn
  have n6 := hg.n6
  have n0 := hg.n0
  rw [hn] at n6 n0
  clear h hg hn
  go_enter Try.func47, Try.ntmps47
  go_wp2_with fail
  go_loopw [4, 5] (fun v4 v5 wr => ∃ (k gg cap : Nat), v5 = .int .i64 k ∧ k ≤ n ∧ v4 = .slice (some ⟨gg, 0, none⟩) k cap ∧ OwnI wr w.heap.size v4 k (ini k) ∧ Below w.heap.size w wr) (fun _ v5 _ => n - (intOf v5).toNat)
  case atStart => exact ⟨0, w.heap.size, 0, rfl, by omega, rfl, World.ownsRow_made w #[] 0 (Nat.le_refl _) (by unfold maxLen; omega) rfl, by (repeat' (first | (with_reducible exact Below.refl _ _) | (with_reducible assumption) | (with_reducible refine Below.drewN ?_ _) | (with_reducible refine Below.alloc ?_ ?_ _) | (with_reducible refine Below.drew ?_) | (with_reducible refine Below.setCell ?_ ?_ _) | (with_reducible refine Below.trans ?_ (Below.mono (by assumption) ?_)) | go_size | (with_reducible refine Nat.le_trans ?_ (Below.size (by assumption)))))⟩
  case round =>
    obtain ⟨k, gg, cap, rfl, hk, rfl, hown, hb⟩ := hrel
    have HO := Lib.hid hown
    have HB := Lib.hid hb
    have hz := hb.size
    clear hown hb
    by_cases hlt : k < n
    · go_wp2_with (at_builtin; refine wpList_app1 rfl (.tmp 22) (.tmp 24) 36 rfl w.heap.size 3 (.int .i64 0) 1 8 Try.underlying36 infoI rfl (by decide) (by decide) _ _ _ rfl (World.ownsRow.alloc HO.out _) ⟨wr.heap.size, 0, none⟩ 1 [.int .i64 k] rfl rfl (cell_one_new _ _ _) (by simp [Value.oneCell']) (by omega) (by simp; omega) ?_; intro g6 cap6 w6 o1 o2 o3)
      have hb1 : Below w.heap.size w w6 := (HB.out.alloc hz _).trans (Below.app (World.ownsRow.alloc HO.out _) (by simp; omega) o2)
      have HO6 := Lib.hid (OwnI.app o1)
      have HB6 := Lib.hid hb1
      clear o1 o2 o3 hb1
      go_roundw
      case rel => exact ⟨k + 1, g6, cap6, by go_num, by omega, rfl, by rw [← ini_snoc]; exact HO6.out, HB6.out⟩
      case measure => simp [intOf]; omega
    · have e : k = n := by omega
      subst e
      have kb := (Blk.of_own HO.out).1
      have lg := kb.lt
      have KB := Lib.hid kb
      have hgg := (Blk.of_own HO.out).2
      clear kb HO
      obtain ⟨nb, hnb⟩ : ∃ nb, wr.heap.size = nb := ⟨_, rfl⟩
      have SW0 := Lib.hid (show SWf w (wr.alloc (.cells #[] 35)) nb gg k (.slice (some ⟨nb, 0, none⟩) 0 0) [] from by
        rw [← hnb]
        exact ⟨World.ownsRow_made wr #[] 0 (Nat.le_refl _) (by unfold maxLen; omega) rfl, KB.out.below below_alloc, by simp, HB.out.alloc hz _⟩)
      have FS0 := Lib.hid (fs_ini xss k)
      have lg2 : gg < nb := by omega
      go_wp2_with fail
      clear hnb hz HB KB lg
      go_loopw [6] (fun v6 wr => ∃ (m gv cv : Nat) (O : List Jn), m = O.length ∧ v6 = .slice (some ⟨gv, 0, none⟩) m cv ∧ FS xss k O ∧ SWf w wr nb gg k v6 O) (fun v6 _ => match v6 with | .slice _ m _ => k - m | _ => 0)
      case atStart => exact ⟨0, nb, 0, [], rfl, rfl, FS0.out, SW0.out⟩
      case round =>
        clear FS0 SW0
        obtain ⟨m, gv, cv, O, hm, rfl, hfs, hsw⟩ := hrel
        have FSH := Lib.hid hfs
        have SWH := Lib.hid hsw
        have HML := Lib.hid hm
        have hml : m ≤ k - 1 := by rw [hm]; exact hfs.short
        clear hfs hsw hm
        by_cases hlm : m + 1 < k
        · obtain ⟨sa, sb, sx, e1, e2, e3, e4, e5, e6, e7⟩ := fs_find FSH.out HG.out (by rw [← HML.out]; exact hlm)
          have FS2 := Lib.hid (fs_step FSH.out (by rw [← HML.out]; exact hlm) e2 e3 e4 e5 e6)
          have hgl : (gI k O).length = k := gI_length _ _
          have HGS := Lib.hid (show gI k (O ++ [(sa, sb, sx)]) = reL (sb : Int) (sa : Int) (gI k O) from by rw [gI_snoc]; exact mgI_fixed e5 e6)
          obtain ⟨G, hG⟩ : ∃ G, gI k O = G := ⟨_, rfl⟩
          have GG := Lib.hid hG
          have SO := Lib.hid SWH.out.1
          have SK := Lib.hid SWH.out.2.1
          have SB := Lib.hid SWH.out.2.2.2
          have snb := SWH.out.2.2.1
          rw [hG] at e1 HGS hgl SK
          have HGL := Lib.hid hgl
          have E1 := Lib.hid e1
          clear hG e1 e2 e5 e6 SWH hgl
          obtain ⟨wo, hwo⟩ : ∃ wo : World, wo = wr := ⟨_, rfl⟩
          rw [← hwo] at SO SK SB snb
          rw [← hwo]
          clear hwo
          have th : decide ((m : Int) + 1 < (k : Int)) = true := by simp; omega
          go_wp2_with fail
          obtain ⟨gb, hgb⟩ : ∃ gb, wo.heap.size = gb := ⟨_, rfl⟩
          rw [hgb]
          have HGB := Lib.hid hgb
          have hgb2 : gg < gb := by omega
          go_loopw [8] (fun v8 wr => ∃ a : Nat, v8 = .int .i64 a ∧ a ≤ k ∧ Blk wr gb 35 (match scAS (fFar xss G) k a with | (p, q, r) => [.int .i64 (p : Int), .int .i64 (q : Int), .int .i64 r]) ∧ Below wo.heap.size wo wr) (fun v8 _ => k - (intOf v8).toNat)
          case atStart =>
            refine ⟨0, rfl, Nat.zero_le _, ?_, ?_⟩
            · rw [← hgb]
              first
                | exact Blk.made' _ rfl rfl
                | exact Blk.three (Blk.made' _ rfl rfl) _ _ _
            · first
                | exact below_alloc
                | exact ((below_alloc.setCell (Nat.le_refl _) _).setCell (Nat.le_refl _) _).setCell (Nat.le_refl _) _
          case round =>
            clear hgb
            obtain ⟨a, rfl, ha, hkb, hbo⟩ := hrel
            have HKB := Lib.hid hkb
            have HBO := Lib.hid hbo
            have hzo := hbo.size
            clear hkb hbo
            by_cases hla : a < k
            · go_wp2_with fail
              go_loopw [9] (fun v9 wr => ∃ d : Nat, v9 = .int .i64 (a + 1 + d : Nat) ∧ a + 1 + d ≤ k ∧ Blk wr gb 35 (match scRS (fFar xss G) (scAS (fFar xss G) k a) a d with | (p, q, r) => [.int .i64 (p : Int), .int .i64 (q : Int), .int .i64 r]) ∧ Below wo.heap.size wo wr) (fun v9 _ => k - (intOf v9).toNat)
              case atStart => exact ⟨0, by go_num, by omega, HKB.out, HBO.out⟩
              case round =>
                clear HKB HBO hzo
                obtain ⟨d, rfl, hd, hkb, hbo⟩ := hrel
                have hsc : scRS (fFar xss G) (scAS (fFar xss G) k a) a (d + 1) = stS (fFar xss G) (scRS (fFar xss G) (scAS (fFar xss G) k a) a d) a (a + 1 + d) := rfl
                have hfin : a + 1 + d = k → scAS (fFar xss G) k (a + 1) = scRS (fFar xss G) (scAS (fFar xss G) k a) a d := fun e => by rw [scAS, show k - 1 - a = d by omega]
                obtain ⟨b, hb⟩ : ∃ b, a + 1 + d = b := ⟨_, rfl⟩
                obtain ⟨s, hs⟩ : ∃ s, scRS (fFar xss G) (scAS (fFar xss G) k a) a d = s := ⟨_, rfl⟩
                rw [hb, hs] at hsc hfin
                rw [hs] at hkb
                rw [hb] at hd ⊢
                obtain ⟨s1, s2, s3⟩ := s
                dsimp only at hkb
                have HKB := Lib.hid hkb
                have HBO := Lib.hid hbo
                have HSC := Lib.hid hsc
                have HFIN := Lib.hid hfin
                have HD := Lib.hid hb
                clear hkb hbo hsc hfin hs hb
                by_cases hlb : b < k
                · have gk := SK.out.below HBO.out
                  have x2 := gk.cell (get_ic (xs := G) (k := a) (by rw [HGL.out]; exact hla))
                  have x3 := gk.cell (get_ic (xs := G) (k := b) (by rw [HGL.out]; exact hlb))
                  obtain ⟨u, hu⟩ : ∃ x, gi G a = x := ⟨_, rfl⟩
                  obtain ⟨v, hv⟩ : ∃ x, gi G b = x := ⟨_, rfl⟩
                  rw [hu] at x2
                  rw [hv] at x3
                  clear gk
                  by_cases ta : u = (a : Int)
                  · have t1 : (u != (a : Int)) = false := by simp [ta]
                    by_cases tb : v = (b : Int)
                    · have t2 : (v != (b : Int)) = false := by simp [tb]
                      have ef : fFar xss G a b = (fi xss G a b k k, true) := by unfold fFar; rw [if_pos ⟨hu.trans ta, hv.trans tb⟩, HN.out]
                      have EF := Lib.hid ef
                      clear hu hv ta tb ef
                      go_wp2_with fail
                      go_loopw [10, 11] (fun v10 v11 wr => ∃ i : Nat, i ≤ k ∧ v11 = .int .i64 i ∧ v10 = .int .i64 (fi xss G a b k i) ∧ Blk wr gb 35 [.int .i64 (s1 : Int), .int .i64 (s2 : Int), .int .i64 s3] ∧ Below wo.heap.size wo wr) (fun _ v11 _ => k - (intOf v11).toNat)
                      case atStart => exact ⟨0, Nat.zero_le _, rfl, rfl, HKB.out, HBO.out⟩
                      case round =>
                        clear HKB HBO
                        obtain ⟨i, hi, rfl, rfl, hkb, hb⟩ := hrel
                        have HB := Lib.hid hb
                        have HKB := Lib.hid hkb
                        have hs : fi xss G a b k (i + 1) = fk xss G a b i (fi xss G a b k i) k := rfl
                        obtain ⟨m2, hm⟩ : ∃ m, fi xss G a b k i = m := ⟨_, rfl⟩
                        have HMI := Lib.hid hm
                        rw [hm] at hs ⊢
                        have HS := Lib.hid hs
                        clear hb hs hm hkb
                        by_cases hli : i < k
                        · go_wp2_with fail
                          go_loopw [10, 12] (fun v10 v12 wr => ∃ j : Nat, j ≤ k ∧ v12 = .int .i64 j ∧ v10 = .int .i64 (fk xss G a b i m2 j) ∧ Blk wr gb 35 [.int .i64 (s1 : Int), .int .i64 (s2 : Int), .int .i64 s3] ∧ Below wo.heap.size wo wr) (fun _ v12 _ => k - (intOf v12).toNat)
                          case atStart => exact ⟨0, Nat.zero_le _, rfl, rfl, HKB.out, HB.out⟩
                          case round =>
                            clear HB HKB
                            obtain ⟨j, hj, rfl, rfl, hkb, hb⟩ := hrel
                            have HB := Lib.hid hb
                            have HKB := Lib.hid hkb
                            have hs : fk xss G a b i m2 (j + 1) = if gi G i = (a : Int) ∧ gi G j = (b : Int) then max (fk xss G a b i m2 j) (gm xss i j) else fk xss G a b i m2 j := rfl
                            obtain ⟨s, hss⟩ : ∃ s, fk xss G a b i m2 j = s := ⟨_, rfl⟩
                            by_cases hlj : j < k
                            · rw [hss] at hs ⊢
                              obtain ⟨y1, r1⟩ := (HM.out.below (SB.out.trans (hb.mono SB.out.size))).row (show i < xss.length by rw [HN.out]; exact hli)
                              have l1 := HG.out.len i (by rw [HN.out]; exact hli)
                              rw [HN.out] at l1
                              have x1 := r1.cell j (by omega)
                              rw [Nat.zero_add, show gi (gl xss i) j = gm xss i j from rfl] at x1
                              obtain ⟨x, hx⟩ : ∃ x, gm xss i j = x := ⟨_, rfl⟩
                              rw [hx] at x1 hs
                              have gk := SK.out.below hb
                              have x4 := gk.cell (get_ic (xs := G) (k := i) (by rw [HGL.out]; exact hli))
                              have x5 := gk.cell (get_ic (xs := G) (k := j) (by rw [HGL.out]; exact hlj))
                              obtain ⟨p1, hp1⟩ : ∃ x, gi G i = x := ⟨_, rfl⟩
                              obtain ⟨p2, hpp2⟩ : ∃ x, gi G j = x := ⟨_, rfl⟩
                              rw [hp1] at x4 hs
                              rw [hpp2] at x5 hs
                              obtain ⟨lm, hlm2⟩ : ∃ m, (gl xss i).length = m := ⟨_, rfl⟩
                              rw [hlm2] at y1 l1
                              have q3 : (j : Int) < (lm : Int) := by omega
                              have HS2 := Lib.hid hs
                              clear r1 hx hp1 hpp2 hlm2 hss hb hs l1 hkb gk
                              by_cases t3 : p1 = (a : Int)
                              · have t3' : (p1 == (a : Int)) = true := by simpa using t3
                                by_cases t4 : p2 = (b : Int)
                                · have t4' : (p2 == (b : Int)) = true := by simpa using t4
                                  obtain ⟨r, hr⟩ : ∃ r, (if s < x then x else s) = r := ⟨_, rfl⟩
                                  have S := Lib.hid (show fk xss G a b i m2 (j + 1) = r from by rw [HS2.out, if_pos ⟨t3, t4⟩, ← hr]; split <;> omega)
                                  clear t3 t4
                                  go_wp2_with fail
                                  go_roundw
                                  case rel => exact ⟨j + 1, by omega, by go_num, by rw [S.out], HKB.out, HB.out⟩
                                  case measure => simp [intOf]; omega
                                · have t4' : (p2 == (b : Int)) = false := by simpa using t4
                                  have S := Lib.hid (show fk xss G a b i m2 (j + 1) = s from by rw [HS2.out, if_neg fun h => t4 h.2])
                                  clear t3 t4
                                  go_wp2_with fail
                                  go_roundw
                                  case rel => exact ⟨j + 1, by omega, by go_num, by rw [S.out], HKB.out, HB.out⟩
                                  case measure => simp [intOf]; omega
                              · have t3' : (p1 == (a : Int)) = false := by simpa using t3
                                have S := Lib.hid (show fk xss G a b i m2 (j + 1) = s from by rw [HS2.out, if_neg fun h => t3 h.1])
                                clear t3
                                go_wp2_with fail
                                go_roundw
                                case rel => exact ⟨j + 1, by omega, by go_num, by rw [S.out], HKB.out, HB.out⟩
                                case measure => simp [intOf]; omega
                            · have e : j = k := by omega
                              have S := Lib.hid (show fi xss G a b k (i + 1) = s from by rw [HS.out, ← hss, e])
                              rw [hss]
                              clear hss hs e hb hkb
                              go_wp2_with fail
                              go_roundw
                              case rel => exact ⟨i + 1, by omega, by go_num, by rw [S.out], HKB.out, HB.out⟩
                              case measure => simp [intOf]; omega
                        · have e : i = k := by omega
                          have EF2 := Lib.hid (show fFar xss G a b = (m2, true) from by rw [EF.out, ← HMI.out, e])
                          have c1 := HKB.out.cell (j := 0) rfl
                          have c2 := HKB.out.cell (j := 1) rfl
                          have c3 := HKB.out.cell (j := 2) rfl
                          have f1 := HKB.out.frozen 0
                          have f2 := HKB.out.frozen 1
                          have f3 := HKB.out.frozen 2
                          have hgb3 : wo.heap.size ≤ gb := by rw [HGB.out]; exact Nat.le_refl _
                          clear e
                          by_cases t5 : s3 < 0
                          · have t5' : decide (s3 < 0) = true := by simpa using t5
                            have S := Lib.hid (show scRS (fFar xss G) (scAS (fFar xss G) k a) a (d + 1) = (a, b, m2) from by rw [HSC.out]; unfold stS; rw [EF2.out]; exact if_pos ⟨rfl, .inl t5⟩)
                            clear t5
                            go_wp2_with fail
                            go_roundw
                            case rel => exact ⟨d + 1, by have := HD.out; go_num, by have := HD.out; omega, by rw [S.out]; exact Blk.three HKB.out _ _ _, ((HB.out.setCell hgb3 _).setCell hgb3 _).setCell hgb3 _⟩
                            case measure => simp [intOf]; omega
                          · have t5' : decide (s3 < 0) = false := by simpa using t5
                            by_cases t6 : m2 < s3
                            · have t6' : decide (m2 < s3) = true := by simpa using t6
                              have S := Lib.hid (show scRS (fFar xss G) (scAS (fFar xss G) k a) a (d + 1) = (a, b, m2) from by rw [HSC.out]; unfold stS; rw [EF2.out]; exact if_pos ⟨rfl, .inr t6⟩)
                              clear t5 t6
                              go_wp2_with fail
                              go_roundw
                              case rel => exact ⟨d + 1, by have := HD.out; go_num, by have := HD.out; omega, by rw [S.out]; exact Blk.three HKB.out _ _ _, ((HB.out.setCell hgb3 _).setCell hgb3 _).setCell hgb3 _⟩
                              case measure => simp [intOf]; omega
                            · have t6' : decide (m2 < s3) = false := by simpa using t6
                              have S := Lib.hid (show scRS (fFar xss G) (scAS (fFar xss G) k a) a (d + 1) = (s1, s2, s3) from by rw [HSC.out]; unfold stS; rw [EF2.out]; exact if_neg fun h => by rcases h.2 with q | q; (· exact t5 q); exact t6 q)
                              clear t5 t6
                              go_wp2_with fail
                              go_roundw
                              case rel => exact ⟨d + 1, by have := HD.out; go_num, by have := HD.out; omega, by rw [S.out]; exact HKB.out, HB.out⟩
                              case measure => simp [intOf]; omega
                    · have t2 : (v != (b : Int)) = true := by rw [bne_iff_ne]; exact tb
                      have S := Lib.hid (show scRS (fFar xss G) (scAS (fFar xss G) k a) a (d + 1) = (s1, s2, s3) from by rw [HSC.out]; unfold stS; exact if_neg fun h => tb (hv.symm.trans (fFar_ok.1 h.1).2))
                      clear hu hv ta tb
                      go_wp2_with fail
                      go_roundw
                      case rel => exact ⟨d + 1, by have := HD.out; go_num, by have := HD.out; omega, by rw [S.out]; exact HKB.out, HBO.out⟩
                      case measure => simp [intOf]; omega
                  · have t1 : (u != (a : Int)) = true := by rw [bne_iff_ne]; exact ta
                    have S := Lib.hid (show scRS (fFar xss G) (scAS (fFar xss G) k a) a (d + 1) = (s1, s2, s3) from by rw [HSC.out]; unfold stS; exact if_neg fun h => ta (hu.symm.trans (fFar_ok.1 h.1).1))
                    clear hu hv ta
                    go_wp2_with fail
                    go_roundw
                    case rel => exact ⟨d + 1, by have := HD.out; go_num, by have := HD.out; omega, by rw [S.out]; exact HKB.out, HBO.out⟩
                    case measure => simp [intOf]; omega
                · have e : b = k := by omega
                  have S := Lib.hid (HFIN.out e)
                  have hab : a + 1 ≤ k := by omega
                  clear e
                  go_wp2_with fail
                  go_roundw
                  case rel => exact ⟨a + 1, by go_num, by omega, by rw [S.out]; exact HKB.out, HBO.out⟩
                  case measure => simp [intOf]; omega
            · have e : a = k := by omega
              have hkb : Blk wr gb 35 [.int .i64 (sa : Int), .int .i64 (sb : Int), .int .i64 sx] := by have := HKB.out; rw [e, E1.out] at this; exact this
              have SK2 := Lib.hid (SK.out.below HBO.out)
              have SO2 := Lib.hid (SO.out.below HBO.out)
              have SB2 := Lib.hid (SB.out.trans (HBO.out.mono SB.out.size))
              have KB2 := Lib.hid hkb
              obtain ⟨w5, hw5⟩ : ∃ w5 : World, w5 = wr := ⟨_, rfl⟩
              rw [← hw5] at SK2 SO2 SB2 KB2 hzo
              rw [← hw5]
              clear e hkb HKB HBO hw5
              go_wp2_with fail
              go_loopw [13] (fun v13 wr => ∃ c : Nat, c ≤ k ∧ v13 = .int .i64 c ∧ (∃ L : List Int, L.length = k ∧ (∀ j, j < c → gi L j = gi (reL (sb : Int) (sa : Int) G) j) ∧ (∀ j, c ≤ j → j < k → gi L j = gi G j) ∧ Blk wr gg 3 (ic L)) ∧ w5.grownBy wr (some gg)) (fun v13 _ => k - (intOf v13).toNat)
              case atStart => exact ⟨0, Nat.zero_le _, rfl, ⟨G, HGL.out, fun j hj => absurd hj (Nat.not_lt_zero _), fun _ _ _ => rfl, SK2.out⟩, grownBy_refl _ _⟩
              case round =>
                obtain ⟨c, hc, rfl, ⟨L, hl1, hl2, hl3, hbk⟩, hgr⟩ := hrel
                have H1 := Lib.hid hl1
                have H2 := Lib.hid hl2
                have H3 := Lib.hid hl3
                have HB := Lib.hid hbk
                have HGR := Lib.hid hgr
                have KB3 := Lib.hid (KB2.out.grown hgr (by omega))
                have c1 := KB3.out.cell (j := 0) rfl
                have c2 := KB3.out.cell (j := 1) rfl
                have c3 := KB3.out.cell (j := 2) rfl
                by_cases hlt : c < k
                · have d1 := hbk.cell (get_ic (xs := L) (k := c) (by omega))
                  have f1 := hbk.frozen c
                  have e1 : gi L c = gi G c := hl3 c (Nat.le_refl _) hlt
                  rw [e1] at d1
                  have hgk : gi (reL (sb : Int) (sa : Int) G) c = if gi G c = (sb : Int) then (sa : Int) else gi G c := gi_reL (by rw [HGL.out]; exact hlt)
                  have HGK := Lib.hid hgk
                  obtain ⟨z, hz⟩ : ∃ z, gi G c = z := ⟨_, rfl⟩
                  rw [hz] at d1
                  have HZ := Lib.hid hz
                  clear hl1 hl2 hl3 hbk hgr e1 hgk hz
                  by_cases t : z = (sb : Int)
                  · have t9 : (z == (sb : Int)) = true := by simpa using t
                    have HT := Lib.hid t
                    clear t
                    go_wp2_with fail
                    go_quiet (fail)
                    have dd1 := Blk.cell (HB.out.below (Below.drewN (Below.refl wr.heap.size wr) nq)) (get_ic (xs := L) (k := c) (by rw [H1.out]; exact hlt))
                    have cc1 := (KB3.out.below (Below.drewN (Below.refl wr.heap.size wr) nq)).cell (j := 0) rfl
                    go_wp2_with fail
                    go_roundw
                    case rel =>
                      refine ⟨c + 1, by omega, by go_num, ⟨L.set c (sa : Int), by rw [List.length_set]; exact H1.out, fun j hj => ?_, fun j hj1 hj2 => ?_, ?_⟩, grownBy_set (grown_draws HGR.out _) _⟩
                      · have hl1 := H1.out
                        by_cases e : j = c
                        · subst e
                          rw [HGK.out, HZ.out, if_pos HT.out, gi_eq (by rw [List.length_set]; omega)]
                          simp
                        · have := H2.out j (by omega)
                          rw [← this, gi_eq (by rw [List.length_set]; omega), gi_eq (by omega), List.getElem_set_ne (fun h => e h.symm)]
                      · have hl1 := H1.out
                        have := H3.out j (by omega) hj2
                        rw [← this, gi_eq (by rw [List.length_set]; omega), gi_eq (by omega), List.getElem_set_ne (by omega)]
                      · have := (HB.out.below (Below.drewN (Below.refl wr.heap.size wr) nq)).set c (.int .i64 (sa : Int))
                        rwa [show (ic L).set c (.int .i64 (sa : Int)) = ic (L.set c (sa : Int)) from by unfold ic; rw [List.map_set]] at this
                    case measure => simp [intOf]; omega
                  · have t9 : (z == (sb : Int)) = false := by simpa using t
                    have HT := Lib.hid t
                    clear t
                    go_wp2_with fail
                    go_quiet (fail)
                    go_wp2_with fail
                    go_roundw
                    case rel =>
                      refine ⟨c + 1, by omega, by go_num, ⟨L, H1.out, fun j hj => ?_, fun j hj1 hj2 => H3.out j (by omega) hj2, HB.out.below (Below.drewN (Below.refl _ _) _)⟩, grown_draws HGR.out _⟩
                      by_cases e : j = c
                      · subst e
                        rw [HGK.out, HZ.out, if_neg HT.out, H3.out j (Nat.le_refl _) hlt, HZ.out]
                      · exact H2.out j (by omega)
                    case measure => simp [intOf]; omega
                · have e : c = k := by omega
                  have e2 : L = reL (sb : Int) (sa : Int) G := eq_of_gi (by rw [reL_length, hl1, HGL.out]) (fun j hj => hl2 j (by omega))
                  have k9 : Blk wr gg 3 (ic (gI k (O ++ [(sa, sb, sx)]))) := by rw [HGS.out, ← e2]; exact hbk
                  have K9 := Lib.hid k9
                  have O9 := Lib.hid (SO2.out.grown hgr lg2)
                  have z9 := hgr.size
                  have b9 : Below w.heap.size w wr := SB2.out.trans ⟨hgr.os, hgr.tape, hgr.output, hgr.size, fun j hj => hgr.block j (Nat.lt_of_lt_of_le hj SB2.out.size) (fun e => by have e := Option.some.inj e; omega)⟩
                  have B9 := Lib.hid b9
                  have lt9 := k9.lt
                  clear hl1 hl2 hl3 hbk hgr e2 e k9 b9
                  rw [← HML.out] at O9
                  go_wp2_with (at_builtin; refine wpList_app1 rfl (.tmp 122) (.tmp 124) 30 rfl nb 35 (.agg #[.int .i64 0, .int .i64 0, .int .i64 0]) 3 24 Try.underlying30 infoJ rfl (by decide) (by decide) _ _ _ rfl (World.ownsRow.alloc O9.out _) ⟨_, 0, none⟩ 1 [.int .i64 (sa : Int), .int .i64 (sb : Int), .int .i64 sx] rfl rfl (cell_three_new _ _ _ _ _) (by simp [Value.oneCell']) (by omega) (by simp; omega) ?_; intro g7 cap7 w7 o1 o2 o3)
                  have z7 := o2.size
                  have k7 : Blk w7 gg 3 (ic (gI k (O ++ [(sa, sb, sx)]))) := (K9.out.below below_alloc).of_eq (o2.block gg (by simp; omega) (fun e => by have := (O9.out.lt gg e.symm).1; omega))
                  have b7 : Below w.heap.size w w7 := (B9.out.alloc B9.out.size _).trans (Below.app (B := w.heap.size) (own_mono' (World.ownsRow.alloc O9.out _) (by omega)) (by have := B9.out.size; simp; omega) o2)
                  have HO7 := Lib.hid (OwnJ.app (q := (sa, sb, sx)) o1)
                  have K7 := Lib.hid k7
                  have B7 := Lib.hid b7
                  have hlen := Lib.hid (show m + 1 = (O ++ [(sa, sb, sx)]).length from by rw [List.length_append, ← HML.out]; rfl)
                  have zz : nb ≤ w7.heap.size := by simp at z7; omega
                  clear o1 o2 o3 k7 b7 z7
                  go_roundw
                  case rel => exact ⟨m + 1, g7, cap7, O ++ [(sa, sb, sx)], hlen.out, rfl, FS2.out, by rw [← hlen.out]; exact HO7.out, K7.out, zz, B7.out⟩
                  case measure => simp; omega
        · have HE := Lib.hid (fs_end FSH.out (by rw [← HML.out]; exact hlm))
          have e : m = k - 1 := by omega
          have HME := Lib.hid e
          have th : decide ((m : Int) + 1 < (k : Int)) = false := by simp; omega
          go_wp2_with fail
          go_ret
          refine ⟨_, rfl, ?_, SWH.out.2.2.2⟩
          have ho := SWH.out.1.mutv
          rw [← HML.out, HME.out, HE.out] at ho
          rw [HME.out]
          exact ho.mono (by omega)

set_option maxHeartbeats 1000000 in
theorem sfarJoins_anyC (g : Nat) (cg : Nat) (H Cp : Nat → Nat) (xss : List (List Int)) (w : World) (h : MatC w g H Cp xss) (hn : xss.length ≤ 1048576) :
    Calls Try.prog 20 #[.slice (some ⟨g, 0, none⟩) xss.length cg] w fun e w' => ∃ v, e = .returned v ∧ Mut 35 w' w.heap.size v (jfV xss).length (jc (jfV xss)) ∧ Below w.heap.size w w' := by
  have HM := Lib.hid h
  have CV := Lib.hid (svalidGaps_anyC g cg H Cp xss w h hn)
  clear h
  cases hv : gpB xss with
  | false =>
    have e : jfV xss = [] := by simp [jfV, hv]
    rw [e]
    rw [hv] at CV
    clear e hv
    go_enter Try.func20, Try.ntmps20
    go_wp2_with (go_at_call 37; refine CV.out.mono ?_; rintro e w1 ⟨rfl, hb1⟩)
    go_ret
    exact ⟨_, rfl, Mut.nil _ _ _, hb1⟩
  | true =>
    have e : jfV xss = oF (fFar xss) xss.length (xss.length - 1) := by simp [jfV, hv]
    rw [e, oF_length]
    have CN := Lib.hid (fun (w1 : World) (hb : Below w.heap.size w w1) => sfarJoin_any g xss.length cg H Cp xss w1 (HM.out.below hb) (gp_of hv) rfl)
    rw [hv] at CV
    clear e hv
    go_enter Try.func20, Try.ntmps20
    go_wp2_with (first
      | (go_at_call 37; refine CV.out.mono ?_; rintro e w1 ⟨rfl, hb1⟩; have z1 := hb1.size)
      | (go_at_call 47; refine (CN.out _ hb1).mono ?_; rintro e w2 ⟨v, rfl, hm, hb2⟩))
    go_ret
    exact ⟨v, rfl, hm.mono z1, hb1.trans (hb2.mono z1)⟩

theorem sfarJoins_any (g : Nat) (H : Nat → Nat) (xss : List (List Int)) (w : World) (h : Mat w g H xss) (hn : xss.length ≤ 1048576) :
    Calls Try.prog 20 #[.slice (some ⟨g, 0, none⟩) xss.length xss.length] w fun e w' => ∃ v, e = .returned v ∧ Mut 35 w' w.heap.size v (jfV xss).length (jc (jfV xss)) ∧ Below w.heap.size w w' :=
  sfarJoins_anyC g _ H _ xss w h hn

end Go.Proofs.Ytclfjnoedcimiaa
