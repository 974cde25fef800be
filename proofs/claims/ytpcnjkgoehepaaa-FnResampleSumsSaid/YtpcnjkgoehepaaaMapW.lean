/- impl.ResampleSums: the map of the ways, and what is drawn from it. -/
import Derived.Test.YtpcnjkgoehepaaaMapQ
import Derived.Test.YtpcnjkgoehepaaaSrt
import Derived.Test.YtpcnjkgoehepaaaData
import Derived.Test.YtpcnjkgoehepaaaClip
import Derived.Maps.RangeWalk
import Derived.Maps.OwnOps
import Derived.Deep.DeepCutAuto
import Derived.Deep.CutBlock
namespace Go.Proofs.Ytpcnjkgoehepaaa
open Go.RowKit Go.Maps

theorem lawI : Keyed Try.prog 3 := int_keyed Try.underlying3
theorem zeroI (w : World) : (zeroValue 3).run Try.prog w = .ok (.int .i64 0) w := by kernel_rfl

/-- An entry of a map's literal. -/
theorem wpList_insert_own {H : Type} {P : Program} (w : World) {ops : Array Oper} {rest : List Oper} {o : Oper} {a : Act} {Q : Exit → Act → World → Prop}
    (hg : o.guard = none) (m x v : Operand) (t : TypeId) (hop : o.op = Op.insert t m x v)
    (k e : TypeId) (K : Keyed P k) (ht : P.underlying t = some (.map k e)) (R : Value → Option (DataW H × List MemPlace)) (b n : Nat) (D : DataW H)
    (hm : a.eval m = .map (some b)) (hown : w.ownsMap P k R b n D) (hn : n < maxLen) (key val : Value) (kl : Lit) (hx : a.eval x = key) (hv : a.eval v = val) (hkey : keyOf P k key = some kl)
    (d : DataW H) (ps : List MemPlace) (hval : R val = some (d, ps))
    (hK : ∀ w', w'.ownsMap P k R b (n + 1) (D.put kl d) → w.grownBy w' (some b) → wpList P ops Q rest (a.put o.dst undef) w') :
    wpList P ops Q (o :: rest) a w := by
  refine wpList_plain hg fun K' hK' => ?_
  obtain ⟨w', hrun, r1, r2⟩ := hown.update K ht hn hkey hval
  unfold Oper.wp
  simp [execOp, hop, hm, hx, hv, hrun, Result.andThen]
  exact hK' _ _ (hK w' r1 r2)
theorem ownsMap_size {w : World} {b n : Nat} {D : DataW Unit} (h : w.ownsMap Try.prog 3 (plainElem Try.prog 3) b n D) : Maps.size D ≤ n := by
  obtain ⟨es, clock, hb, F, hs, rfl⟩ := h
  simp [Maps.size, length_sorted]
  exact hs

abbrev MapW (w : World) (b n : Nat) (D : DataW Unit) : Prop := w.ownsMap Try.prog 3 (plainElem Try.prog 3) b n D
abbrev RngW (w : World) (b r n : Nat) (D : DataW Unit) (left : Lit → Bool) (cnt : Nat) : Prop := w.ranges Try.prog 3 (plainElem Try.prog 3) b r n D left cnt

set_option maxHeartbeats 8000000 in
set_option maxRecDepth 100000 in
theorem ways_any (b o c n : Nat) (xs : List Int) (w : World) (h : RowI w b o xs) (hlen : xs.length = n) (hv : vdB xs = true) (hn1 : 1 ≤ n) (hn4 : n ≤ 4) :
    Calls Try.prog 13 #[.slice (some ⟨b, o, none⟩) n c] w fun e w' => ∃ g1 g2, e = .returned (.tuple #[.slice (some ⟨g1, 0, none⟩) (dF (gi xs) n n 0 []).length (dF (gi xs) n n 0 []).length, .slice (some ⟨g2, 0, none⟩) (dF (gi xs) n n 0 []).length (dF (gi xs) n n 0 []).length]) ∧
      w.heap.size ≤ g1 ∧ g1 < g2 ∧ Blk w' g1 3 (ic (fS (dF (gi xs) n n 0 []))) ∧ Blk w' g2 3 (ic (sS (dF (gi xs) n n 0 []))) ∧ (dF (gi xs) n n 0 []).length ≤ 256 ∧ Below w.heap.size w w' := by
  have hmm := @run_makeMap Try.prog
  have H := Lib.hid h
  have HLEN := Lib.hid hlen
  have HX := Lib.hid (show ∀ i, i < n → -200 ≤ gi xs i ∧ gi xs i ≤ 200 from fun i hi => (vd_of hv).x i (by omega))
  have HVD := Lib.hid (show Calls Try.prog 34 #[.slice (some ⟨b, o, none⟩) n c] w fun e w' => e = .returned (.bool true) ∧ Below w.heap.size w w' by
    have := validData_any b o c xs w h (by omega)
    rw [hlen, hv] at this
    exact this)
  have HIN := Lib.hid (show ∀ W : World, Calls Try.prog 25 #[.int .i64 n, .int .i64 1, .int .i64 4] W fun e w' => e = .returned (.bool true) ∧ W = w' from fun W => by
    have := in_any (n : Int) 1 4 W
    rw [show inB (n : Int) 1 4 = true from inB_iff.2 ⟨by omega, by omega⟩] at this
    exact this)
  have HDR := Lib.hid (dr_all (gi xs) hn1 hn4)
  obtain ⟨L, hL⟩ : ∃ L, dF (gi xs) n n 0 [] = L := ⟨_, rfl⟩
  rw [hL] at HDR ⊢
  clear h hlen hv hL
  go_enter Try.func13, Try.ntmps13
  go_upto_block 0 with (first
    | (go_at_call 34; refine HVD.out.mono ?_; rintro e w1 ⟨rfl, hb1⟩; have HB1 := Lib.hid hb1; clear hb1)
    | (go_at_call 25; refine (HIN.out _).mono ?_; rintro e w2 ⟨rfl, rfl⟩)
    | (refine wpList_insert_own (H := Unit) _ rfl _ _ _ 43 rfl 3 3 lawI Try.underlying43 _ _ 0 _ rfl (World.ownsMap_made _ _ _ (plainElem Try.prog 3)) (by unfold maxLen; omega) _ _ (.int .i64 0) rfl rfl (keyOf_int_mk Try.underlying3 (by decide)) _ [] (plainElem_int Try.underlying3 (by decide)) ?_; intro w3 hown3 hg3; have HOWN3 := Lib.hid hown3; have HG3 := Lib.hid hg3; clear hown3 hg3))
  have hb3 : Below w.heap.size w w3 := (HB1.out.trans ((Below.refl w1.heap.size w1).alloc (Nat.le_refl _) _ |>.mono HB1.out.size)).grown HG3.out (by have := HB1.out.size; simp; omega) (fun j hj => by cases hj; exact HB1.out.size)
  have HB3 := Lib.hid hb3
  have z1 : w.heap.size ≤ w1.heap.size := HB1.out.size
  have HRD0 := Lib.hid (show Rd ((DataW.map []).put (.int .i64 0) (.lit (.int .i64 1))) (Ct (gi xs) n 0) from (Rd.empty.put 0 1 (by omega)).ext fun t => by rw [Ct])
  clear hb3
  go_cut [4] (fun v4 wx => ∃ (B : Nat) (D : DataW Unit), v4 = .map (some B) ∧ w.heap.size ≤ B ∧ MapW wx B (4 ^ n) D ∧ Rd D (Ct (gi xs) n n) ∧ Below w.heap.size w wx)
  case first =>
    go_wp2_with fail
    go_loopw [4, 28] (fun v4 v28 wr => ∃ (k B : Nat) (D : DataW Unit), k ≤ n ∧ v28 = .int .i64 k ∧ v4 = .map (some B) ∧ w.heap.size ≤ B ∧ MapW wr B (4 ^ k) D ∧ Rd D (Ct (gi xs) n k) ∧ Below w.heap.size w wr) (fun _ v28 _ => n - (intOf v28).toNat)
    case atStart => exact ⟨0, _, _, Nat.zero_le _, rfl, rfl, z1, HOWN3.out, HRD0.out, HB3.out⟩
    case round =>
      obtain ⟨k, B, D, hk, rfl, rfl, hB, hown, hrd, hb⟩ := hrel
      obtain ⟨wo, rfl⟩ : ∃ wo : World, wo = wr := ⟨_, rfl⟩
      have HOWN := Lib.hid hown
      have HRD := Lib.hid hrd
      have HB := Lib.hid hb
      have zr := hb.size
      clear hown hrd hb
      by_cases hkn : k < n
      · have hkn' : (k : Int) < (n : Int) := by omega
        have hsz := ownsMap_size HOWN.out
        have hlB := HOWN.out.lt
        have hp4 : 4 ^ k ≤ 64 := by
          have : k = 0 ∨ k = 1 ∨ k = 2 ∨ k = 3 := by omega
          rcases this with rfl | rfl | rfl | rfl <;> decide
        have e1 : (wo.alloc (.map #[] 0)).heap.size = wo.heap.size + 1 := by simp
        go_wp2_with (first
          | (at_range; refine wpList_range_own _ rfl _ 43 rfl 3 3 lawI Try.underlying43 _ B (4 ^ k) D rfl (HOWN.out.alloc _) ?_; intro w0 hrg0 hg0 hs0))
        go_frame
        rw [e1] at hrg0 hs0 ⊢
        have HB0 := Lib.hid (show Below wo.heap.size wo w0 from ((Below.refl _ _).alloc (Nat.le_refl _) _).grown hg0 (by simp) (fun j hj => by cases hj))
        have HRG0 := Lib.hid hrg0
        have HN0 := Lib.hid (show MapW w0 wo.heap.size 0 (.map []) from (World.ownsMap_made _ _ _ _).kept hg0 (by simp))
        clear hrg0 hs0 hg0
        go_loopw [6] (fun _ wi => ∃ (left : Lit → Bool) (cnt : Nat) (Dn : DataW Unit), RngW wi B (wo.heap.size + 1) (4 ^ k) D left cnt ∧ cnt ≤ Maps.size D ∧ MapW wi wo.heap.size (4 * (Maps.size D - cnt)) Dn ∧ Rd Dn (Gs (Ct (gi xs) n k) (gi xs) n left) ∧ Below wo.heap.size wo wi) (fun _ wi => wi.rangeLeft B (wo.heap.size + 1))
        case atStart => exact ⟨_, _, _, HRG0.out, Nat.le_refl _, HN0.out.mono (Nat.zero_le _), Rd.empty.ext fun t => (Gs_start HRD.out _ n t).symm, HB0.out⟩
        case round =>
          obtain ⟨left, cnt, Dn, hrg, hcs, hout, hrdn, hbi⟩ := hrel
          obtain ⟨wi, rfl⟩ : ∃ wi : World, wi = wr := ⟨_, rfl⟩
          have HRG := Lib.hid hrg
          have HOUT := Lib.hid hout
          have HRN := Lib.hid hrdn
          have HBI := Lib.hid hbi
          clear hrg hout hrdn hbi
          go_wp2_with (first
            | (at_next; refine wpList_next_ranges_ii _ rfl _ rfl 3 3 .i64 .i64 lawI Try.underlying3 Try.underlying3 B (wo.heap.size + 1) (4 ^ k) _ _ _ rfl HRG.out ?_ ?_))
          · intro hc0 hl0
            have HL0 := Lib.hid hl0
            clear hl0
            go_wp2_with fail
            go_roundw
            case rel => exact ⟨k + 1, wo.heap.size, Dn, by omega, by go_num, rfl, zr, HOUT.out.mono (by rw [Nat.pow_succ]; omega), HRN.out.ext fun t => by rw [Gs_end HL0.out, Ct_sum], HB.out.trans (HBI.out.mono zr)⟩
            case measure => simp [intOf] <;> omega
          · intro s cc w1' cnt1 hwx hwc hlx hat hrg1 hlt hg1 hs1 hen
            have hcc : cc = Ct (gi xs) n k s := HRD.out.at_inj hat
            have hhas := Maps.has_true_of_atKey hat
            rw [HRD.out.has] at hhas
            have hne : Ct (gi xs) n k s ≠ 0 := by simpa using hhas
            have hsf := Ct_far (gi xs) n HX.out k s hne
            have hcb := Ct_bd (gi xs) n hn4 k s
            have hpi : (4 : Int) ^ k ≤ 64 := by exact_mod_cast hp4
            have c1 : 1 ≤ cc := by omega
            have c2 : cc ≤ 64 := by omega
            have s1 : -800 ≤ s := by omega
            have s2 : s ≤ 800 := by omega
            have HCC := Lib.hid hcc
            have HLX := Lib.hid hlx
            have HRG1 := Lib.hid hrg1
            have HO1 := Lib.hid (show MapW w1' wo.heap.size (4 * (Maps.size D - cnt)) Dn from HOUT.out.kept hg1 (by simp))
            have HB1' := Lib.hid (show Below wo.heap.size wo w1' from HBI.out.grown hg1 HBI.out.size (fun j hj => by cases hj; exact Nat.le_succ _))
            clear hcc hhas hne hsf hcb hpi hlx hat hrg1 hg1 hs1 hwx hwc
            go_wp2_with fail
            go_loopw [40] (fun v40 wj => ∃ (i : Nat) (Dj : DataW Unit), i ≤ n ∧ v40 = .int .i64 i ∧ RngW wj B (wo.heap.size + 1) (4 ^ k) D (fun z => left z && !z.sameKey (.int .i64 s)) cnt1 ∧ MapW wj wo.heap.size (4 * (Maps.size D - cnt) + i) Dj ∧ Rd Dj (fun t => Gs (Ct (gi xs) n k) (gi xs) n left t + Ad (gi xs) s cc i t) ∧ Below wo.heap.size wo wj) (fun v40 _ => n - (intOf v40).toNat)
            case atStart => exact ⟨0, Dn, Nat.zero_le _, rfl, HRG1.out, HO1.out, HRN.out.ext fun t => by simp [Ad, sX], HB1'.out⟩
            case round =>
              obtain ⟨i, Dj, hi, rfl, hrg2, hout2, hrd2, hb2⟩ := hrel
              have HRG2 := Lib.hid hrg2
              have HOUT2 := Lib.hid hout2
              have HRD2 := Lib.hid hrd2
              have HB2 := Lib.hid hb2
              clear hrg2 hout2 hrd2 hb2
              by_cases hin : i < n
              · have hin' : (i : Int) < (n : Int) := by omega
                have cl := (H.out.below (HB.out.trans (HB2.out.mono zr))).cell i (by have := HLEN.out; omega)
                have hy := HX.out i hin
                obtain ⟨y, hye⟩ : ∃ y, gi xs i = y := ⟨_, rfl⟩
                rw [hye] at cl hy
                have HY := Lib.hid hye
                have hfb : ∀ t, 0 ≤ Ct (gi xs) n k t ∧ Ct (gi xs) n k t ≤ 64 := fun t => by
                  have h1 := Ct_bd (gi xs) n hn4 k t
                  have hpi : (4 : Int) ^ k ≤ 64 := by exact_mod_cast hp4
                  omega
                have hgb := Gs_bd (f := Ct (gi xs) n k) (M := 64) (by omega) hfb (gi xs) hn4 left (s + y)
                have hab := Ad_bd (c := cc) (M := 64) (by omega) (gi xs) s (show i ≤ 4 by omega) (s + y)
                obtain ⟨old, hold⟩ : ∃ old, Gs (Ct (gi xs) n k) (gi xs) n left (s + y) + Ad (gi xs) s cc i (s + y) = old := ⟨_, rfl⟩
                have o1 : 0 ≤ old := by omega
                have o2 : old ≤ 1000 := by omega
                have HOLD := Lib.hid hold
                clear hgb hab hold hye hfb
                have HMORE := Lib.hid (show Rd (Dj.put (.int .i64 (s + y)) (.lit (.int .i64 (old + cc)))) (fun t => Gs (Ct (gi xs) n k) (gi xs) n left t + Ad (gi xs) s cc (i + 1) t) by
                  have := HRD2.out.more c1
                  rw [HY.out, HOLD.out] at this
                  exact this)
                have HAT := Lib.hid (show Dj.atKey (.int .i64 (s + y)) (.lit (.int .i64 0)) = .lit (.int .i64 old) by rw [HRD2.out.at0, HOLD.out])
                have w1f : (Lit.int .i64 (s + y)).wf = true := WalkArith.wf_i64 (by omega)
                have w2f : (Lit.int .i64 (old + cc)).wf = true := WalkArith.wf_i64 (by omega)
                have W1 := Lib.hid w1f
                have W2 := Lib.hid w2f
                clear w1f w2f
                go_wp2_with (first
                  | (at_lookup; refine wpList_lookup_own_int _ rfl _ _ 43 rfl 3 3 .i64 lawI Try.underlying43 Try.underlying3 (zeroI _) wo.heap.size _ _ rfl HOUT2.out _ _ rfl (keyOf_int_mk Try.underlying3 W1.out) ?_; intro c9 hat9 hwc9; rw [HAT.out] at hat9; injection hat9 with hat9; injection hat9 with _ hat9; subst hat9; clear hwc9)
                  | (at_mapUpdate; refine wpList_mapUpdate_own _ rfl _ _ _ 43 rfl 3 3 lawI Try.underlying43 _ wo.heap.size _ _ rfl HOUT2.out (by unfold maxLen; omega) _ _ _ rfl rfl (keyOf_int_mk Try.underlying3 W1.out) _ [] (plainElem_int Try.underlying3 W2.out) ?_; intro w9 hout9 hg9; have HOUT9 := Lib.hid hout9; have HG9 := Lib.hid hg9; clear hout9 hg9))
                go_roundw
                case rel => exact ⟨i + 1, _, by omega, by go_num, HRG2.out.kept HG9.out (fun e => by have := Option.some.inj e; omega) (fun e => by have := Option.some.inj e; omega), HOUT9.out, HMORE.out, HB2.out.grown HG9.out HB2.out.size (fun j hj => by cases hj; exact Nat.le_refl _)⟩
                case measure => simp [intOf]; omega
              · obtain rfl : i = n := by omega
                go_wp2_with fail
                go_roundw
                case rel => exact ⟨_, cnt1, Dj, HRG2.out, by omega, HOUT2.out.mono (by omega), HRD2.out.ext fun t => by rw [Gs_step HLX.out, HCC.out], HB2.out⟩
                case measure => rw [HRG2.out.left_eq, HRG.out.left_eq]; exact hlt
      · obtain rfl : k = n := by omega
        go_wp2_with fail
        go_meet
        exact ⟨B, D, rfl, hB, HOWN.out, HRD.out, HB.out⟩
  case rest =>
    obtain ⟨B, D, rfl, hB, hown, hrd, hb⟩ := hcut
    have HOWN := Lib.hid hown
    have HRD := Lib.hid hrd
    have HB := Lib.hid hb
    have zr := hb.size
    clear hown hrd hb HOWN3 HG3 HB3 HRD0 HB1 z1
    obtain ⟨wo, rfl⟩ : ∃ wo : World, wo = wc := ⟨_, rfl⟩
    have hsz := ownsMap_size HOWN.out
    have hlB := HOWN.out.lt
    have hp4 : 4 ^ n ≤ 256 := by
      have : n = 1 ∨ n = 2 ∨ n = 3 ∨ n = 4 := by omega
      rcases this with rfl | rfl | rfl | rfl <;> decide
    obtain ⟨f, hf⟩ : ∃ f, Ct (gi xs) n n = f := ⟨_, rfl⟩
    have HMEM := Lib.hid HDR.out.mem
    have HCNT := Lib.hid HDR.out.cnt
    have HASC := Lib.hid HDR.out.asc
    have HFAR := Lib.hid (show ∀ t, Ct (gi xs) n n t ≠ 0 → -800 ≤ t ∧ t ≤ 800 from fun t ht => by have := Ct_far (gi xs) n HX.out n t ht; omega)
    have hL1 := HDR.out.pos
    rw [hf] at HRD HMEM HCNT HFAR
    clear hf HX HLEN HVD HIN H HDR
    go_upto_block 6 with (first
      | (at_range; refine wpList_range_own _ rfl _ 43 rfl 3 3 lawI Try.underlying43 _ B (4 ^ n) D rfl HOWN.out ?_; intro w0 hrg0 hg0 hs0))
    go_frame
    have HB0 := Lib.hid (show Below wo.heap.size wo w0 from (Below.refl _ _).grown hg0 (Nat.le_refl _) (fun j hj => by cases hj))
    have HRG0 := Lib.hid hrg0
    have hz0 : wo.heap.size + 1 ≤ w0.heap.size := by omega
    clear hrg0 hs0 hg0
    go_cut [10] (fun v10 wx => ∃ (g cap : Nat) (ss : List Int), v10 = .slice (some ⟨g, 0, none⟩) ss.length cap ∧ OwnI wx (wo.heap.size + 1) (.slice (some ⟨g, 0, none⟩) ss.length cap) ss.length ss ∧ ss.length ≤ 256 ∧ srt ss = fS L ∧ MapW wx B (4 ^ n) D ∧ Below wo.heap.size wo wx)
    case first =>
      go_wp2_with fail
      go_loopw [10] (fun v10 wi => ∃ (left : Lit → Bool) (cnt : Nat) (ss : List Int), RngW wi B wo.heap.size (4 ^ n) D left cnt ∧ ss.length + cnt ≤ Maps.size D ∧ OwnI wi (wo.heap.size + 1) v10 ss.length ss ∧ Col f left ss ∧ Below wo.heap.size wo wi ∧ wo.heap.size + 1 ≤ wi.heap.size) (fun _ wi => wi.rangeLeft B wo.heap.size)
      case atStart => exact ⟨_, _, [], HRG0.out, by simp, OwnI.nil _ _, Col.start HRD.out, HB0.out, hz0⟩
      case round =>
        obtain ⟨left, cnt, ss, hrg, hcs, hss, hcol, hbi, hzi⟩ := hrel
        obtain ⟨wi, rfl⟩ : ∃ wi : World, wi = wr := ⟨_, rfl⟩
        have HRG := Lib.hid hrg
        have HSS := Lib.hid hss
        have HCOL := Lib.hid hcol
        have HBI := Lib.hid hbi
        clear hrg hss hcol hbi
        go_wp2_with (first
          | (at_next; refine wpList_next_ranges_ii _ rfl _ rfl 3 3 .i64 .i64 lawI Try.underlying3 Try.underlying3 B wo.heap.size (4 ^ n) _ _ _ rfl HRG.out ?_ ?_))
        · intro hc0 hl0
          have hsr := HCOL.out.srt hl0 HASC.out HMEM.out
          have hsl : ss.length = L.length := by rw [← srt_length, hsr, fS_length]
          have hkm : MapW wi B (4 ^ n) D := HRG.out.owns
          obtain ⟨g, cap, he, hgb⟩ := OwnI.shape HSS.out (by omega)
          have hss' := HSS.out
          rw [he] at hss'
          have HE := Lib.hid he
          clear hl0 he
          go_wp2_with fail
          go_meet
          exact ⟨g, cap, ss, HE.out, hss', by omega, hsr, hkm, HBI.out⟩
        · intro s cc w1' cnt1 hwx hwc hlx hat hrg1 hlt hg1 hs1 hen
          have hhas := Maps.has_true_of_atKey hat
          rw [HRD.out.has] at hhas
          have hne : f s ≠ 0 := by simpa using hhas
          have HCOL1 := Lib.hid (HCOL.out.step hlx hne)
          have hss1 : OwnI w1' (wo.heap.size + 1) u10 ss.length ss := World.ownsRow.kept HSS.out hg1 (.inr fun e => by have := (HSS.out.lt _ e).1; omega)
          have HSS1 := Lib.hid hss1
          have HRG1 := Lib.hid hrg1
          have HB1' := Lib.hid (show Below wo.heap.size wo w1' from HBI.out.grown hg1 HBI.out.size (fun j hj => by cases hj; exact Nat.le_refl _))
          have hz1' : wo.heap.size + 1 ≤ w1'.heap.size := by omega
          clear hhas hne hlx hat hrg1 hg1 hs1 hwx hwc hss1
          go_wp2_with (at_builtin; refine wpList_app1 rfl (.tmp 60) (.tmp 62) 23 rfl (wo.heap.size + 1) 3 (.int .i64 0) 1 8 Try.underlying23 infoI rfl (by decide) (by decide) _ _ _ rfl (World.ownsRow.alloc HSS1.out _) ⟨_, 0, none⟩ 1 [.int .i64 _] rfl rfl (cell_one_new _ _ _) (by simp [Value.oneCell']) (by omega) (by simp; omega) ?_; intro g6 cap6 w6 o1 o2 o3)
          have hrg6 := (HRG1.out.alloc (.cells #[.int .i64 s] 3)).kept o2 (fun e => by have := (HSS1.out.lt _ e.symm).1; omega) (fun e => by have := (HSS1.out.lt _ e.symm).1; omega)
          have HRG6 := Lib.hid hrg6
          have O1 := Lib.hid o1
          have b6 : Below wo.heap.size wo w6 := (HB1'.out.alloc HB1'.out.size _).grown o2 (by simp; omega) (fun j hj => by have := (HSS1.out.lt _ hj).1; omega)
          have z6 : wo.heap.size + 1 ≤ w6.heap.size := Nat.le_trans (by simp; omega) o2.size
          have B6 := Lib.hid b6
          clear o1 o2 o3 hrg6 b6
          go_roundw
          case rel => exact ⟨_, cnt1, ss ++ [s], HRG6.out, by simp; omega, by simpa using OwnI.app O1.out, HCOL1.out, B6.out, z6⟩
          case measure => rw [HRG6.out.left_eq, HRG.out.left_eq]; exact hlt
    case rest =>
      obtain ⟨g, cap, ss, rfl, hss, hss2, hsr, hkm, hbi⟩ := hcut
      have hsl : ss.length = L.length := by rw [← srt_length, hsr, fS_length]
      have hlen5 : (fS L).length = L.length := fS_length L
      have hlens : (sS L).length = L.length := sS_length L
      have hlL : L.length ≤ 256 := by omega
      have hlB2 := hkm.lt
      have hbk := Blk.of_own hss
      have CS := Lib.hid (show Calls Try.prog 35 #[.slice (some ⟨g, 0, none⟩) L.length cap] wc fun e w' => e = .returned (.tuple #[]) ∧ OwnI w' (wo.heap.size + 1) (.slice (some ⟨g, 0, none⟩) L.length cap) L.length (fS L) ∧ wc.grownBy w' (some g) by
        have := sort_own (wo.heap.size + 1) g cap ss wc hss (by omega)
        rw [hsr, hsl] at this
        exact this)
      have HKM := Lib.hid hkm
      have HBI := Lib.hid hbi
      have zc := hbi.size
      have hgb := hbk.2
      rw [hsl]
      clear hss hsr hkm hbi hsl hbk HRG0 HB0 hz0 HASC HOWN hss2
      go_upto_block 8 with (go_at_call 35; refine CS.out.mono ?_; rintro e w5 ⟨rfl, ho5, hg5⟩; have HO5 := Lib.hid ho5; have HG5 := Lib.hid hg5; clear ho5 hg5)
      have z5 := HG5.out.size
      have hgl := (Blk.of_own HO5.out).1.lt
      have hcap5 := OwnI.cap HO5.out
      have HKM5 := Lib.hid (show MapW w5 B (4 ^ n) D from HKM.out.kept HG5.out (fun e => by have := Option.some.inj e; omega))
      have HB5 := Lib.hid (show Below w.heap.size w w5 from (HB.out.trans (HBI.out.mono zr)).grown HG5.out (by omega) (fun j hj => by cases hj; omega))
      have HROW5 := Lib.hid (Blk.of_own HO5.out).1
      clear HKM HG5 HO5 CS HBI
      go_cut [11] (fun v11 wx => ∃ (g2 cap2 : Nat), v11 = .slice (some ⟨g2, 0, none⟩) L.length cap2 ∧ L.length ≤ cap2 ∧ w5.heap.size ≤ g2 ∧ Blk wx g2 3 (ic (sS L)) ∧ Below w5.heap.size w5 wx)
      case first =>
        go_wp2_with fail
        go_loopw [11, 68] (fun v11 v68 wi => ∃ (j : Nat), j ≤ L.length ∧ v68 = .int .i64 j ∧ OwnI wi w5.heap.size v11 j ((sS L).take j) ∧ Below w5.heap.size w5 wi) (fun _ v68 _ => L.length - (intOf v68).toNat)
        case atStart => exact ⟨0, Nat.zero_le _, rfl, by rw [List.take_zero]; exact OwnI.nil _ _, Below.refl _ _⟩
        case round =>
          obtain ⟨j, hj, rfl, hov, hbj⟩ := hrel
          have HOV := Lib.hid hov
          have HBJ := Lib.hid hbj
          have zj := hbj.size
          clear hov hbj
          by_cases hjl : j < L.length
          · have hjl' : (j : Int) < (L.length : Int) := by omega
            have c1 := (HROW5.out.below HBJ.out).cell (get_ic (xs := fS L) (k := j) (by omega))
            have hkmj : MapW wr B (4 ^ n) D := HKM5.out.kept (row := none) ⟨HBJ.out.os, HBJ.out.tape, HBJ.out.output, HBJ.out.size, fun k hk _ => HBJ.out.block k hk⟩ (by simp)
            have HKMJ := Lib.hid hkmj
            have hcn := HCNT.out j hjl
            have hmm2 : f (gi (fS L) j) ≠ 0 := (HMEM.out _).1 (gi_eq (xs := fS L) (k := j) (by omega) ▸ List.getElem_mem _)
            obtain ⟨y, hy⟩ : ∃ y, gi (fS L) j = y := ⟨_, rfl⟩
            obtain ⟨z, hz⟩ : ∃ z, gi (sS L) j = z := ⟨_, rfl⟩
            have htk : (sS L).take (j + 1) = (sS L).take j ++ [z] := by
              rw [List.take_succ_eq_append_getElem (by omega), ← hz, gi_eq (by omega)]
            rw [hy] at c1 hcn hmm2
            rw [hz] at hcn
            have HTK := Lib.hid htk
            have HAT := Lib.hid (show D.atKey (.int .i64 y) (.lit (.int .i64 0)) = .lit (.int .i64 z) by rw [HRD.out.at0, hcn])
            have W1 := Lib.hid (show (Lit.int .i64 y).wf = true from WalkArith.wf_i64 (by have := HFAR.out y hmm2; omega))
            clear hkmj hcn hmm2 hy hz htk
            go_wp2_with (first
              | (at_lookup; refine wpList_lookup_own_int _ rfl _ _ 43 rfl 3 3 .i64 lawI Try.underlying43 Try.underlying3 (zeroI _) B (4 ^ n) D rfl HKMJ.out _ _ rfl (keyOf_int_mk Try.underlying3 W1.out) ?_; intro c9 hat9 hwc9; rw [HAT.out] at hat9; injection hat9 with hat9; injection hat9 with _ hat9; subst hat9; clear hwc9)
              | (at_builtin; refine wpList_app1 rfl (.tmp 72) (.tmp 76) 23 rfl w5.heap.size 3 (.int .i64 0) 1 8 Try.underlying23 infoI rfl (by decide) (by decide) _ _ _ rfl (World.ownsRow.alloc HOV.out _) ⟨_, 0, none⟩ 1 [.int .i64 _] rfl rfl (cell_one_new _ _ _) (by simp [Value.oneCell']) (by omega) (by simp; omega) ?_; intro g6 cap6 w6 o1 o2 o3))
            go_roundw
            case rel => exact ⟨j + 1, by omega, by go_num, by rw [HTK.out]; exact OwnI.app o1, (HBJ.out.alloc zj _).trans (Below.app (World.ownsRow.alloc HOV.out _) (by simp; omega) o2)⟩
            case measure => simp [intOf]; omega
          · obtain rfl : j = L.length := by omega
            obtain ⟨g2, cap2, he, hgb2⟩ := OwnI.shape HOV.out (by omega)
            have hov := HOV.out
            rw [he, List.take_of_length_le (by omega)] at hov
            have HE := Lib.hid he
            clear he
            go_wp2_with fail
            go_meet
            exact ⟨g2, cap2, HE.out, OwnI.cap hov, hgb2, (Blk.of_own hov).1, HBJ.out⟩
      case rest =>
        obtain ⟨g2, cap2, rfl, hc2, hg2, hb2, hbj⟩ := hcut
        have K1 := Lib.hid (show Blk wc g 3 (ic (fS L)) from HROW5.out.below hbj)
        have K2 := Lib.hid hb2
        have HBZ := Lib.hid (show Below w.heap.size w wc from HB5.out.trans (hbj.mono (by omega)))
        have C1 := Lib.hid (clipI_any g L.length cap wc (by omega) hcap5)
        have C2 := Lib.hid (clipI_any g2 L.length cap2 wc (by omega) hc2)
        clear hb2 hbj
        go_wp2_with (first
          | (go_at_call 36; refine C1.out.mono ?_; rintro e w7 ⟨rfl, rfl⟩)
          | (go_at_call 36; refine C2.out.mono ?_; rintro e w7 ⟨rfl, rfl⟩))
        go_ret2
        exact ⟨g, g2, rfl, by omega, by omega, K1.out, K2.out, hlL, HBZ.out⟩

end Go.Proofs.Ytpcnjkgoehepaaa
