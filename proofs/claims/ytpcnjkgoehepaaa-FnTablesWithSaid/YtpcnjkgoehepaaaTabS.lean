/- spec.countTables: walked. -/
import Derived.Test.YtpcnjkgoehepaaaTabN
import Derived.Test.YtpcnjkgoehepaaaTabT
import Derived.Test.YtpcnjkgoehepaaaTabI
namespace Go.Proofs.Ytpcnjkgoehepaaa
open Go.RowKit

theorem sX_shift (f : Nat → Int) : ∀ n, sX f (n + 1) = f 0 + sX (fun i => f (i + 1)) n
  | 0 => by simp [sX]
  | n + 1 => by
    have := sX_shift f n
    show sX f (n + 1) + f (n + 1) = f 0 + (sX (fun i => f (i + 1)) n + f (n + 1))
    rw [this]; omega
theorem sX_iN : ∀ L : List Nat, sX (gi (iN L)) L.length = ((sm L : Nat) : Int)
  | [] => rfl
  | c :: L => by
    rw [List.length_cons, sX_shift]
    have e : (fun i => gi (iN (c :: L)) (i + 1)) = gi (iN L) := by
      funext i
      rw [gi_iN, gi_iN]
      simp
    rw [e, sX_iN L, gi_iN, sm]
    simp
theorem gi_iN_le {L : List Nat} {b : Nat} (h : ∀ x ∈ L, x ≤ b) : ∀ i, i < L.length → 0 ≤ gi (iN L) i ∧ gi (iN L) i ≤ b := by
  intro i hi
  rw [gi_iN, List.getD_eq_getElem?_getD, List.getElem?_eq_getElem hi]
  have := h _ (List.getElem_mem hi)
  simp only [Option.getD_some]
  omega
theorem RowI.cellsO {w : World} {b o : Nat} {xs : List Int} (h : RowI w b o xs) : ∀ j v, (ic xs)[j]? = some v → w.cell? ((⟨b, o, none⟩ : Addr).add j) = some v := by
  intro j v hj
  by_cases hk : j < xs.length
  · have := h.cell j hk
    rw [get_ic hk] at hj
    cases hj
    rw [← this]
    by_cases h0 : j = 0
    · subst h0; rfl
    · simp [Addr.add, h0]
  · rw [List.getElem?_eq_none (by rw [ic_length]; omega)] at hj
    cases hj
/-- What spec.countTables does with these rows. -/
def TBS (rows : List Nat) : Prop := ∀ (cols : List Nat) (br o1 cr bc oc cc : Nat) (w : World), TOk rows cols → RowI w br o1 (iN rows) → RowI w bc oc (iN cols) → rows.length ≤ cr → cr ≤ 9223372036854775807 → cols.length ≤ cc → cc ≤ 9223372036854775807 →
  Calls Try.prog 30 #[.slice (some ⟨br, o1, none⟩) rows.length cr, .slice (some ⟨bc, oc, none⟩) cols.length cc] w
    fun e w' => e = .returned (.tuple #[.int .i64 (tN rows cols : Nat), .int .i64 (wN rows cols : Nat)]) ∧ Below w.heap.size w w'

set_option maxHeartbeats 1000000 in
theorem count_nil : TBS [] := by
  intro cols br o1 cr bc oc cc w hok _ rC _ _ _ _
  have h0 : sm cols = 0 := hok.eq ▸ rfl
  have e1 : tN [] cols = 1 := by rw [tN, if_pos h0]
  have e2 : wN [] cols = 1 := by rw [wN, if_pos h0]
  rw [e1, e2]
  have CL := ssum_s bc oc cc (iN cols) w rC (by rw [iN_length]; have := hok.nc; omega) (fun i hi => by have := gi_iN_le hok.c6 i (by rw [iN_length] at hi; exact hi); omega)
  rw [iN_length, sX_iN, h0] at CL
  obtain ⟨n, hn⟩ : ∃ n, cols.length = n := ⟨_, rfl⟩
  rw [hn] at CL ⊢
  have HCL := Lib.hid CL
  show Calls Try.prog 30 #[.slice (some ⟨br, o1, none⟩) 0 cr, .slice (some ⟨bc, oc, none⟩) n cc] w _
  clear CL hn e1 e2 h0 rC hok
  go_enter Try.func30, Try.ntmps30
  go_wp2_with (go_at_call 24; refine HCL.out.mono ?_; rintro e w1 ⟨rfl, rfl⟩)
  go_ret2
  exact ⟨rfl, Below.refl _ _⟩

set_option maxHeartbeats 8000000 in
set_option maxRecDepth 100000 in
theorem count_cons (r : Nat) (R : List Nat) (HT : TBS R) : TBS (r :: R) := by
  intro cols br o1 cr bc oc cc w hok rR rC hcr hcr2 hcc hcc2
  have hr6 := hok.r6 r (by simp)
  have c1 := hok.c1
  have nc := hok.nc
  have hc6 : ∀ k, k < cols.length → cols.getD k 0 ≤ 6 := fun k hk => by
    rw [List.getD_eq_getElem?_getD, List.getElem?_eq_getElem hk]
    exact hok.c6 _ (List.getElem_mem hk)
  have CF := Lib.hid (fun x (hx : x ≤ 18) W => sfactorial_any x W hx)
  have hfull : (en r cols).take (en r cols).length = en r cols := List.take_length
  have FT := Lib.hid (show pS (fun x => tN R (lf cols x)) ((en r cols).take (en r cols).length) = tN (r :: R) cols by rw [hfull, tN_en])
  have FW := Lib.hid (show pS (fun x => here (fct r) x * wN R (lf cols x)) ((en r cols).take (en r cols).length) = wN (r :: R) cols by rw [hfull, wN_en])
  have HCR := Lib.hid (rowsFrom_any cols r bc oc cc w c1 nc rC hcc hcc2 (by omega) (fun x hx => by have := hok.c6 x hx; omega))
  have HPS := Lib.hid (fun i => (show pS (fun x => tN R (lf cols x)) ((en r cols).take i) ≤ 6402373705728000 from Nat.le_trans (pS_take_le _ _ i) (by rw [← tN_en]; exact hok.t)))
  have HPW := Lib.hid (fun i => (show pS (fun x => here (fct r) x * wN R (lf cols x)) ((en r cols).take i) ≤ 6402373705728000 from Nat.le_trans (pS_take_le _ _ i) (by rw [← wN_en]; exact hok.w)))
  obtain ⟨TT, hTT⟩ : ∃ TT, tN (r :: R) cols = TT := ⟨_, rfl⟩
  obtain ⟨TW, hTW⟩ : ∃ TW, wN (r :: R) cols = TW := ⟨_, rfl⟩
  rw [hTT] at FT ⊢
  rw [hTW] at FW ⊢
  have hKf := en_few r nc (fun x hx => by have := hok.c6 x hx; omega)
  obtain ⟨K, hK⟩ : ∃ K, (en r cols).length = K := ⟨_, rfl⟩
  rw [hK] at hKf
  rw [hK] at FT FW HCR
  have HK := Lib.hid hK
  have hr0 := rR.cell 0 (by rw [iN_length]; simp)
  rw [gi_iN, Nat.add_zero] at hr0
  have e0 : (r :: R).getD 0 0 = r := rfl
  rw [e0] at hr0
  have RR := Lib.hid rR
  have RC := Lib.hid rC
  have HOK := Lib.hid hok
  have hh720 : fct r ≤ 720 := by
    have : ∀ n, n < 7 → fct n ≤ 720 := by decide
    exact this r (by omega)
  have LZ := Lib.hid (lk_zero cols)
  have LS := Lib.hid (fun row k => lk_succ cols row (k := k) (n := cols.length))
  have HN0 := Lib.hid (show cols.length = cols.length from rfl)
  obtain ⟨n, hn⟩ : ∃ n, cols.length = n := ⟨_, rfl⟩
  have HN := Lib.hid hn
  rw [hn] at HCR LZ LS c1 nc hc6 hcc ⊢
  obtain ⟨nr, hnr⟩ : ∃ nr, (r :: R).length = nr := ⟨_, rfl⟩
  have HNR := Lib.hid (show R.length = nr - 1 by rw [← hnr]; simp)
  have hnr1 : 1 ≤ nr := by rw [← hnr]; simp
  have hnr3 : nr ≤ 3 := by rw [← hnr]; exact hok.nr
  rw [hnr] at hcr ⊢
  have hnb : ((nr : Int) == 0) = false := by rw [beq_eq_false_iff_ne]; omega
  have HC6 := Lib.hid hc6
  have HHT := Lib.hid HT
  clear hok hfull hTT hTW hK rR rC e0 HN0 hn hnr hc6 HT
  go_enter Try.func30, Try.ntmps30
  go_wp2_with (go_at_call 44; refine HCR.out.mono ?_; rintro e w1 ⟨g8, c8, rfl, hr8, hb8⟩)
  have G8 := Lib.hid hr8
  have B8 := Lib.hid hb8
  have z8 := hb8.size
  clear hr8 hb8 HCR
  go_loopw [6, 7, 9] (fun v6 v7 v9 wr => ∃ i : Nat, i ≤ K ∧ v9 = .int .i64 i ∧ v6 = .int .i64 (pS (fun x => tN R (lf cols x)) ((en r cols).take i) : Nat) ∧ v7 = .int .i64 (pS (fun x => here (fct r) x * wN R (lf cols x)) ((en r cols).take i) : Nat) ∧ Below w1.heap.size w1 wr) (fun _ _ v9 _ => K - (intOf v9).toNat)
  case atStart => exact ⟨0, Nat.zero_le _, rfl, rfl, rfl, Below.refl _ _⟩
  case round =>
    obtain ⟨i, hi, rfl, rfl, rfl, hb⟩ := hrel
    have HB := Lib.hid hb
    have hz := hb.size
    by_cases hlt : i < K
    · obtain ⟨row, hrow⟩ : ∃ row, (en r cols)[i]? = some row := ⟨(en r cols)[i]'(by rw [HK.out]; exact hlt), List.getElem?_eq_getElem _⟩
      obtain ⟨hrl, q, ch, y1, q1', q2', rowq⟩ := (G8.out.below hb).at' hrow
      have hmem := List.mem_of_getElem? hrow
      obtain ⟨_, _, hfit⟩ := en_fit cols r row hmem
      rw [HN.out] at hfit
      have hok2 := HOK.out.next hmem
      have bT := HOK.out.atT hrow
      have bW := HOK.out.atW hrow
      have sT := pS_take (f := fun x => tN R (lf cols x)) hrow
      have sW := pS_take (f := fun x => here (fct r) x * wN R (lf cols x)) hrow
      have LAL := lk_all (cols := cols) (row := row) (by rw [hrl, HN.out])
      have LTL := lf_len (cols := cols) (w := row) (by rw [hrl, HN.out])
      rw [HN.out] at LAL LTL
      obtain ⟨m, hm⟩ : ∃ m, pS (fun x => tN R (lf cols x)) ((en r cols).take i) = m := ⟨_, rfl⟩
      obtain ⟨s, hs⟩ : ∃ s, pS (fun x => here (fct r) x * wN R (lf cols x)) ((en r cols).take i) = s := ⟨_, rfl⟩
      rw [hm] at bT sT ⊢
      rw [hs] at bW sW ⊢
      obtain ⟨a, ha⟩ : ∃ a, tN R (lf cols row) = a := ⟨_, rfl⟩
      obtain ⟨d, hd⟩ : ∃ d, wN R (lf cols row) = d := ⟨_, rfl⟩
      obtain ⟨H, hH⟩ : ∃ H, here (fct r) row = H := ⟨_, rfl⟩
      have sT2 : pS (fun x => tN R (lf cols x)) ((en r cols).take (i + 1)) = m + a := by rw [sT, ← ha]
      obtain ⟨p, hp⟩ : ∃ p, H * d = p := ⟨_, rfl⟩
      have sW2 : pS (fun x => here (fct r) x * wN R (lf cols x)) ((en r cols).take (i + 1)) = s + p := by rw [sW, ← hp, ← hH, ← hd]
      rw [ha] at bT
      have bW2 : s + p ≤ 6402373705728000 := by rw [← hp, ← hH, ← hd]; exact bW
      have HP := Lib.hid (show H ≤ 720 → IntKind.i64.wrap ((H : Int) * (d : Int)) = (p : Int) from fun _ => by rw [← hp, Int.natCast_mul]; exact IntWalk.i64_in _ (by rw [← Int.natCast_mul, hp]; omega))
      have q2 : IntKind.i64.wrap ((m : Int) + (a : Int)) = (m : Int) + (a : Int) := IntWalk.i64_in _ (by omega)
      have q3 : IntKind.i64.wrap ((s : Int) + (p : Int)) = (s : Int) + (p : Int) := IntWalk.i64_in _ (by omega)
      have ST := Lib.hid sT2
      have SW := Lib.hid sW2
      have HA := Lib.hid ha
      have HD := Lib.hid hd
      have HH := Lib.hid hH
      have HFIT := Lib.hid hfit
      have HOK2 := Lib.hid hok2
      have HLA := Lib.hid LAL
      have HLT := Lib.hid LTL
      have HRL := Lib.hid hrl
      have BW0 := B8.out.trans (hb.mono z8)
      have RRw := Lib.hid (RR.out.below BW0)
      have RCw := Lib.hid (RC.out.below BW0)
      have cR := keepC BW0 hr0
      have Y1 := Lib.hid y1
      have RQ := Lib.hid rowq
      have lq := rowq.blk
      have l8 : g8 < wr.heap.size := World.block_lt_of_cell? wr _ y1
      clear sT sW sT2 sW2 ha hd hH hp bW bW2 bT hm hs hfit hok2 LAL LTL hrl hmem BW0 y1 rowq hrow q1' q2'
      go_wp2_with (first
        | (at_builtin; refine wpList_appR rfl (.tmp 32) (.tmp 33) 23 rfl wr.heap.size 3 (.int .i64 0) 8 Try.underlying23 infoI rfl (by decide) _ 0 [] rfl (World.ownsRow_made (size := 1) wr #[] 0 (Nat.le_refl _) (by unfold maxLen; omega) rfl) ⟨bc, oc, none⟩ n cc (ic (iN cols)) rfl (by rw [ic_length, iN_length]; exact HN.out) (RCw.out.below below_alloc).cellsO ic_one (by omega) below_alloc.size ?_; intro v5 w5 p1 p2 p3; obtain ⟨ga, capa, hv5, hga, hla⟩ := World.ownsRow.form p1 (by omega); subst hv5; rw [Nat.zero_add, List.nil_append] at p1; rw [Nat.zero_add]; have b5 : Below wr.heap.size wr w5 := below_alloc.trans (Below.app (B := wr.heap.size) (World.ownsRow_made (size := 1) wr #[] 0 (Nat.le_refl _) (by unfold maxLen; omega) rfl) below_alloc.size p2); have z5 := b5.size; have cR5 := keepC b5 cR; have O1 := Lib.hid p1; have B5 := Lib.hid b5; clear p1 p2 p3 b5)
        | (go_at_call 45; refine (CF.out r (by omega) _).mono ?_; rintro e w2 ⟨rfl, rfl⟩))
      have hcap : n ≤ capa := OwnI.cap (xs := iN cols) O1.out
      have hcap2 : capa ≤ 9223372036854775807 := by
        rcases O1.out.2 with ⟨h0, _⟩ | ⟨g', cap', cur, hv, hb, hg, hnc, hcm, _⟩
        · cases h0
        · cases hv; unfold maxLen at hcm; omega
      have KA := Lib.hid (Blk.of_own O1.out).1
      have n1 : ¬ ga = g8 := by omega
      have n2 : ¬ g8 = ga := by omega
      have n3 : ¬ ga = q := by omega
      have n4 : ¬ q = ga := by omega
      clear O1 cR5
      obtain ⟨wo, rfl⟩ : ∃ wo : World, wo = wr := ⟨_, rfl⟩
      go_loopw [11, 12] (fun v11 v12 wi => ∃ k : Nat, k ≤ n ∧ v12 = .int .i64 k ∧ v11 = .int .i64 (here (fct r) (row.take k) : Nat) ∧ Blk wi ga 3 (ic (tabI (lk cols row k) n)) ∧ Below wo.heap.size wo wi) (fun _ v12 _ => n - (intOf v12).toNat)
      case atStart => exact ⟨0, Nat.zero_le _, rfl, rfl, by rw [LZ.out]; exact KA.out, B5.out⟩
      case round =>
        obtain ⟨k, hk, rfl, rfl, hkb, hbi⟩ := hrel
        obtain ⟨wi, rfl⟩ : ∃ wi : World, wi = wr := ⟨_, rfl⟩
        have KB := Lib.hid hkb
        have HBI := Lib.hid hbi
        have zi := hbi.size
        have hh : here (fct r) (row.take k) ≤ 720 := Nat.le_trans (here_le _ _) hh720
        by_cases hkn : k < n
        · have u1 := keepC hbi Y1.out
          have u2 := (RQ.out.below hbi).cell k (by rw [iN_length, HRL.out]; exact hkn)
          rw [gi_iN, Nat.zero_add] at u2
          have x1 := hkb.cell (get_ic (xs := tabI (lk cols row k) n) (k := k) (by rw [tabI_length]; exact hkn))
          rw [gi_tabI hkn] at x1
          have f1 := hkb.frozen k
          have l1 := hkb.lt
          have e1 : lk cols row k k = ((cols.getD k 0 : Nat) : Int) := by simp [lk]
          rw [e1] at x1
          have h1 := HFIT.out k hkn
          have h2 := HC6.out k hkn
          have hst := here_take (w := row) (a := fct r) (k := k) (by rw [HRL.out]; exact hkn)
          have hset := LS.out row k hkn
          obtain ⟨x, hx⟩ : ∃ x, row.getD k 0 = x := ⟨_, rfl⟩
          obtain ⟨y, hy⟩ : ∃ y, cols.getD k 0 = y := ⟨_, rfl⟩
          obtain ⟨Hk, hHk⟩ : ∃ H, here (fct r) (row.take k) = H := ⟨_, rfl⟩
          rw [hx] at u2 h1 hst hset
          rw [hy] at x1 h1 h2 hset
          rw [hHk] at hh hst ⊢
          have hf := fct_pos x
          have CX := CF.out x (by omega)
          obtain ⟨F, hF⟩ : ∃ F, fct x = F := ⟨_, rfl⟩
          rw [hF] at hf hst CX
          obtain ⟨D, hD⟩ : ∃ D, Hk / F = D := ⟨_, rfl⟩
          obtain ⟨z, hz⟩ : ∃ z, y - x = z := ⟨_, rfl⟩
          have q0 : IntKind.i64.wrap ((y : Int) - (x : Int)) = (z : Int) := by rw [IntWalk.i64_in _ (by omega)]; omega
          have q1 : (Hk : Int).tdiv (F : Int) = (D : Int) := by rw [← hD, Int.tdiv_eq_ediv_of_nonneg (by omega)]; rfl
          have hdl : D ≤ Hk := by rw [← hD]; exact Nat.div_le_self _ _
          have q5 : IntKind.i64.wrap (D : Int) = (D : Int) := IntWalk.i64_in _ (by omega)
          have q6 : ¬ (F : Int) = 0 := by omega
          rw [hz] at hset
          rw [hD] at hst
          have HSET := Lib.hid hset
          have HST := Lib.hid hst
          have HCX := Lib.hid CX
          clear hx hy hHk hF hD hz hset hst hkb hbi h1 h2 CX e1
          go_wp2_with fail
          (refine region_tail 15 (by kernel_rfl) (by kernel_rfl) ?_; simp only [List.take_succ_cons, List.take_zero, List.drop_succ_cons, List.drop_zero]; (repeat (go_big_quiet_step (fail))); refine wpQuiet_nil ?_)
          go_wp2_with (go_at_call 45; refine (HCX.out _).mono ?_; rintro e w3 ⟨rfl, rfl⟩)
          go_roundw
          case rel => exact ⟨k + 1, by omega, by go_num, by rw [HST.out], by rw [← HSET.out]; exact (KB.out.below below_drew).set _ _, (HBI.out.drew).setCell hga _⟩
          case measure => simp [intOf]; omega
        · obtain rfl : k = n := by omega
          have et : row.take k = row := List.take_of_length_le (by rw [HRL.out]; exact Nat.le_refl _)
          rw [et, HH.out] at hh
          rw [et, HH.out]
          have q1 := HP.out hh
          have rr := RRw.out.below hbi
          obtain ⟨o2, ho2, hrow2⟩ : ∃ o2, o2 = (if cr = 1 then o1 else o1 + 1) ∧ RowI wi br o2 (iN R) := by
            by_cases hc1 : cr = 1
            · refine ⟨o1, by rw [if_pos hc1], rr.blk, fun k hk => ?_⟩
              rw [iN_length] at hk
              have := HNR.out
              omega
            · refine ⟨o1 + 1, by rw [if_neg hc1], rr.blk, fun k hk => ?_⟩
              have := rr.cell (k + 1) (by rw [iN_length] at hk ⊢; simpa using hk)
              rw [show o1 + 1 + k = o1 + (k + 1) by omega]
              exact this
          rw [HLA.out] at hkb
          have CT := HHT.out (lf cols row) br o2 (cr - 1) ga 0 capa wi HOK2.out hrow2 hkb.row (by have := HNR.out; omega) (by omega) (by rw [HLT.out]; exact hcap) hcap2
          rw [HNR.out, HLT.out, HA.out, HD.out] at CT
          have HCT := Lib.hid CT
          have HBO := Lib.hid (HB.out.trans (hbi.mono hz))
          clear CT hkb hbi rr hrow2 et KB HBI KA
          by_cases hc1 : cr = 1
          · rw [if_pos hc1] at ho2
            subst ho2
            obtain rfl : nr = 1 := by omega
            subst hc1
            go_wp2_with (go_at_call 30; refine HCT.out.mono ?_; rintro e w9 ⟨rfl, hb9⟩)
            go_roundw
            case rel =>
              repeat apply Exists.intro
              refine ⟨⟨i + 1, by omega, ?_, ?_, ?_, HBO.out.trans (hb9.mono (by omega))⟩, rfl⟩
              · go_num
              · rw [ST.out, Int.natCast_add]
              · rw [SW.out, Int.natCast_add]
            case measure => simp [intOf]; omega
          · rw [if_neg hc1] at ho2
            subst ho2
            have hc2 : ¬ (1 : Nat) = cr := fun h => hc1 h.symm
            go_wp2_with (go_at_call 30; refine HCT.out.mono ?_; rintro e w9 ⟨rfl, hb9⟩)
            go_roundw
            case rel =>
              refine ⟨i + 1, by omega, ?_, ?_, ?_, HBO.out.trans (hb9.mono (by omega))⟩
              · go_num
              · rw [ST.out, Int.natCast_add]
              · rw [SW.out, Int.natCast_add]
            case measure => simp [intOf]; omega
    · obtain rfl : i = K := by omega
      rw [FT.out, FW.out]
      go_wp2_with fail
      go_ret2
      exact ⟨rfl, B8.out.trans (HB.out.mono z8)⟩

theorem count_any : ∀ rows, TBS rows
  | [] => count_nil
  | r :: R => count_cons r R (count_any R)

end Go.Proofs.Ytpcnjkgoehepaaa
