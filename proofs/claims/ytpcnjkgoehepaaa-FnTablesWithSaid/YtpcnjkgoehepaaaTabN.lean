/- spec.rowsFrom: walked, all columns. -/
import Derived.Test.YtpcnjkgoehepaaaTabM
namespace Go.Proofs.Ytpcnjkgoehepaaa
open Go.RowKit

set_option maxHeartbeats 4000000 in
set_option maxRecDepth 100000 in
theorem rowsFrom_any : ∀ (cols : List Nat) (t b o c : Nat) (w : World), 1 ≤ cols.length → cols.length ≤ 3 → RowI w b o (iN cols) → cols.length ≤ c → c ≤ 9223372036854775807 → t ≤ 100 → (∀ x ∈ cols, x ≤ 100) →
    Calls Try.prog 44 #[.slice (some ⟨b, o, none⟩) cols.length c, .int .i64 t] w fun e w' => ∃ g cg, e = .returned (.slice (some ⟨g, 0, none⟩) (en t cols).length cg) ∧ RM w' w.heap.size g cg cols.length (en t cols) ∧ Below w.heap.size w w'
  | [], _, _, _, _, _, h, _, _, _, _, _, _ => by simp at h
  | [d], t, b, o, c, w, _, _, hr, hc, _, ht, hx => rowsFrom_one d t b o c w hr ht (hx d (by simp)) hc
  | d :: d2 :: L0, t, b, o, c, w, _, hl, hr, hc, hc2, ht, hx => by
    obtain ⟨L, hL⟩ : ∃ L, d2 :: L0 = L := ⟨_, rfl⟩
    have hL1 : 1 ≤ L.length := by rw [← hL]; simp
    have IH := fun t o c w => rowsFrom_any (d2 :: L0) t b o c w
    rw [hL] at IH hl hr hc hx ⊢
    clear hL
    have hd := hx d (by simp)
    have hfew := en_few t hl hx
    obtain ⟨g, hg⟩ : ∃ g : Nat → List (List Nat), g = fun v => en (t - v) L := ⟨_, rfl⟩
    obtain ⟨mn, hmn⟩ : ∃ mn, min t d = mn := ⟨_, rfl⟩
    obtain ⟨M, hM⟩ : ∃ M, mn + 1 = M := ⟨_, rfl⟩
    have hen : en t (d :: L) = enF g M := by rw [hg, ← hM, ← hmn]; rfl
    rw [hen] at hfew ⊢
    have m1 : (if (d : Int) < (t : Int) then (d : Int) else (t : Int)) = (mn : Int) := by rw [← hmn]; split <;> omega
    have m2 : (if d < t then (d : Int) else (t : Int)) = (mn : Int) := by rw [← hmn]; split <;> omega
    have m1' : min (t : Int) (d : Int) = (mn : Int) := by rw [← hmn]; omega
    obtain ⟨m, hm⟩ : ∃ m, L.length = m := ⟨_, rfl⟩
    obtain ⟨n, hn⟩ : ∃ n, m + 1 = n := ⟨_, rfl⟩
    have hln : (d :: L).length = n := by rw [List.length_cons, hm, hn]
    rw [hln] at hl hc ⊢
    have hmt : mn ≤ t := by omega
    have c0 := hr.cell 0 (by rw [iN_length]; simp)
    rw [gi_iN, Nat.add_zero] at c0
    have e0 : (d :: L).getD 0 0 = d := rfl
    rw [e0] at c0
    have hr1 : RowI w b (o + 1) (iN L) := ⟨hr.blk, fun k hk => by
      have := hr.cell (k + 1) (by rw [iN_length] at hk ⊢; simpa using hk)
      rw [show o + 1 + k = o + (k + 1) by omega]
      exact this⟩
    have hc1 : ¬ c = 1 := by omega
    have hc1' : ¬ (1 : Nat) = c := by omega
    have HX := Lib.hid (show ∀ x ∈ L, x ≤ 100 from fun x h => hx x (by simp [h]))
    have hnm : n - 1 = m := by omega
    have HIH := Lib.hid (fun (k : Nat) (hk : k ≤ 100) (W : World) (hW : Below w.heap.size w W) => IH k (o + 1) (c - 1) W hL1 (by omega) (hr1.below hW) (by omega) (by omega) hk HX.out)
    rw [hm, ← hnm] at HIH
    have HG := Lib.hid hg
    have HEN := Lib.hid hen
    have HFEW := Lib.hid hfew
    have HMM := Lib.hid hM
    have HNM := Lib.hid hnm
    have HC0 := Lib.hid c0
    have hn2 : 2 ≤ n := by omega
    have hnb : ((n : Int) == 1) = false := by rw [beq_eq_false_iff_ne]; omega
    have hMt : M ≤ t + 1 := by omega
    clear hg hen hfew hmn hM hm hn hln c0 e0 hr1 IH hx hr hL1 hnm
    go_enter Try.func44, Try.ntmps44
    have c0 := keepC (below_alloc (o := .cells #[] 23)) HC0.out
    go_wp2_with fail
    clear c0
    go_loopw [5, 6] (fun v5 v6 wr => ∃ x g5 c5 : Nat, x ≤ M ∧ v6 = .int .i64 x ∧ v5 = .slice (some ⟨g5, 0, none⟩) (enF g x).length c5 ∧ RM wr w.heap.size g5 c5 n (enF g x) ∧ Below w.heap.size w wr) (fun _ v6 _ => M - (intOf v6).toNat)
    case atStart => exact ⟨0, w.heap.size, 0, Nat.zero_le _, rfl, rfl, RM.nil w w.heap.size n (Nat.le_refl _), by (repeat' (first | (with_reducible exact Below.refl _ _) | (with_reducible assumption) | (with_reducible refine Below.drewN ?_ _) | (with_reducible refine Below.alloc ?_ ?_ _) | (with_reducible refine Below.drew ?_) | (with_reducible refine Below.setCell ?_ ?_ _) | (with_reducible refine Below.trans ?_ (Below.mono (by assumption) ?_)) | go_size | (with_reducible refine Nat.le_trans ?_ (Below.size (by assumption)))))⟩
    case round =>
      obtain ⟨x, g5, c5, hxM, rfl, rfl, hrm, hb⟩ := hrel
      have cw := keepC hb HC0.out
      obtain ⟨N0, hN0⟩ : ∃ N0, (enF g x).length = N0 := ⟨_, rfl⟩
      rw [hN0]
      have HN0 := Lib.hid hN0
      have G := Lib.hid hrm
      have HB := Lib.hid hb
      have hz := hb.size
      have hgb := hrm.base
      clear hN0 hrm hb
      by_cases hlt : x < M
      · have hxm : x ≤ mn := by have := HMM.out; omega
        have q0 : (x : Int) ≤ (mn : Int) := by omega
        obtain ⟨k, hk⟩ : ∃ k, t - x = k := ⟨_, rfl⟩
        have q1 : IntKind.i64.wrap ((t : Int) - (x : Int)) = (k : Int) := by rw [IntWalk.i64_in _ (by omega)]; omega
        have hgx : g x = en k L := by rw [HG.out, ← hk]
        have HGX := Lib.hid hgx
        have hk100 : k ≤ 100 := by omega
        have hfew2 : N0 + (en k L).length ≤ 1030301 := by
          obtain ⟨B, hB⟩ := enF_len (f := g) (x + 1) M hlt
          have h1 := HFEW.out
          rw [hB, List.length_append, enF, List.length_append, List.length_map, hgx, HN0.out] at h1
          omega
        clear hk hgx
        go_wp2_with (go_at_call 44; refine (HIH.out k hk100 _ HB.out).mono ?_; rintro e w1 ⟨g7, c7, rfl, hr7, hb7⟩)
        obtain ⟨wo, rfl⟩ : ∃ wo : World, wo = wr := ⟨_, rfl⟩
        have z7 := hb7.size
        have gb7 := hr7.base
        have R7 := Lib.hid hr7
        have hgo : g5 < wo.heap.size := hgb.2
        have RM1 := Lib.hid (G.out.below hb7)
        have HB1 := Lib.hid (HB.out.trans (hb7.mono hz))
        have HLN := Lib.hid (show (en k L).length = (en k L).length from rfl)
        obtain ⟨K, hK⟩ : ∃ K, (en k L).length = K := ⟨_, rfl⟩
        rw [hK] at hfew2 ⊢
        have HK := Lib.hid hK
        have HNM2 := Lib.hid HNM.out
        have hfew3 := hfew2
        clear hK hr7 hb7 HIH HLN cw G
        go_loopw [5, 8] (fun v5 v8 wi => ∃ i g5 c5 : Nat, i ≤ K ∧ v8 = .int .i64 i ∧ v5 = .slice (some ⟨g5, 0, none⟩) (N0 + i) c5 ∧ RM wi w.heap.size g5 c5 n (enF g x ++ ((en k L).take i).map (x :: ·)) ∧ Below w.heap.size w wi ∧ (g5 < wo.heap.size ∨ w1.heap.size ≤ g5) ∧ w1.heap.size ≤ wi.heap.size ∧ ∀ q, wo.heap.size ≤ q → q < w1.heap.size → wi.heap[q]? = w1.heap[q]?) (fun _ v8 _ => K - (intOf v8).toNat)
        case atStart => exact ⟨0, g5, c5, Nat.zero_le _, rfl, rfl, by simpa using RM1.out, HB1.out, .inl hgo, Nat.le_refl _, fun _ _ _ => rfl⟩
        case round =>
          clear RM1 HB1
          obtain ⟨i, g6, c6, hi, rfl, rfl, hrm, hbi, hgi, hwi, heq⟩ := hrel
          obtain ⟨wi, rfl⟩ : ∃ wi : World, wi = wr := ⟨_, rfl⟩
          by_cases hlt2 : i < K
          · obtain ⟨r, hr⟩ : ∃ r, (en k L)[i]? = some r := ⟨(en k L)[i]'(by rw [HK.out]; exact hlt2), List.getElem?_eq_getElem _⟩
            obtain ⟨hrl, q, ch, y1, q1', q2', rowq⟩ := R7.out.at' hr
            have y2 : wi.cell? ⟨g7, i, none⟩ = _ := (World.cell?_of_block (a := ⟨g7, i, none⟩) (heq g7 gb7.1 gb7.2)).trans y1
            have rowi : RowI wi q 0 (iN r) := rowq.of_eq hwi (heq q q1' q2')
            obtain ⟨cs, o0, hcs⟩ := hrm
            have hrows : (enF g x ++ ((en k L).take i).map (x :: ·)).length = N0 + i := by
              rw [List.length_append, HN0.out, List.length_map, List.length_take, HK.out]
              omega
            have hcl : cs.length = (enF g x ++ ((en k L).take i).map (x :: ·)).length := by have := o0.1; omega
            rw [hrows] at o0
            have Y2 := Lib.hid y2
            have ROW := Lib.hid rowi
            have O0 := Lib.hid o0
            have HCS := Lib.hid hcs
            have HCL := Lib.hid hcl
            have HRL := Lib.hid hrl
            have HRS := Lib.hid hrows
            have HEQ := Lib.hid heq
            have HBI := Lib.hid hbi
            have HGI := Lib.hid hgi
            have HR := Lib.hid hr
            have hgl := (Blk.of_own o0).1.lt
            have hzi := hbi.size
            have y3 := keepC (below_alloc (o := .cells #[.int .i64 (x : Int)] 3)) y2
            clear y1 y2 rowq rowi o0 hcs hcl hrl hrows heq hbi hgi hr
            go_wp2_with (first
              | (at_builtin; refine wpList_appR rfl (.tmp 45) (.tmp 49) 23 rfl wi.heap.size 3 (.int .i64 0) 8 Try.underlying23 infoI rfl (by decide) _ 1 [.int .i64 (x : Int)] rfl (own_one _ rfl (Nat.le_refl _)) ⟨q, 0, none⟩ (n - 1) ch (ic (iN r)) rfl (by rw [ic_length, iN_length]; exact HRL.out) (ROW.out.below below_alloc).cellsR ic_one (by omega) below_alloc.size ?_; intro v5 w5 o1 o2 o3; obtain ⟨ga, capa, hv5, hga, hla⟩ := World.ownsRow.form o1 (by omega); subst hv5; rw [show 1 + (n - 1) = n by omega] at o1 ⊢; have b5 : Below wi.heap.size wi w5 := below_alloc.trans (Below.app (B := wi.heap.size) (own_one _ rfl (Nat.le_refl _)) below_alloc.size o2); have z5 := b5.size; have O1 := Lib.hid o1; have B5 := Lib.hid b5; clear o1 o2 o3 b5)
              | (at_builtin; refine wpList_app1 rfl (.tmp 43) (.tmp 51) 51 rfl w.heap.size 23 (.slice none 0 0) 1 24 Try.underlying51 infoSS rfl (by decide) (by decide) _ _ _ rfl (own_belowM (own_belowM O0.out B5.out) below_alloc) ⟨_, 0, none⟩ 1 [.slice (some ⟨ga, 0, none⟩) n capa] rfl rfl (cell_one_new _ _ _) (by simp [Value.oneCell']) (by omega) (by simp; omega) ?_; intro g8 cap8 w8 p1 p2 p3))
            have z8 := p2.size
            rw [World.size_alloc] at z8
            have p3' : some g6 = some g8 ∨ w5.heap.size + 1 ≤ g8 := by
              rcases p3 with h | h
              · exact .inl h
              · right; rw [World.size_alloc] at h; exact h
            have hb8 : Below w5.heap.size w5 (w5.alloc (.cells #[.slice (some ⟨ga, 0, none⟩) n capa] 23)) := below_alloc
            have hbw : Below wi.heap.size wi (w5.alloc (.cells #[.slice (some ⟨ga, 0, none⟩) n capa] 23)) := B5.out.trans (hb8.mono z5)
            have rxr : RowI (w5.alloc (.cells #[.slice (some ⟨ga, 0, none⟩) n capa] 23)) ga 0 (iN (x :: r)) := (Blk.row (xs := iN (x :: r)) (Blk.of_own O1.out).1).below hb8
            have G8 := Lib.hid (RM.app (base := w.heap.size) (g := g6) (rows := enF g x ++ ((en k L).take i).map (x :: ·)) (r := x :: r) (n := n) hbw (by omega) (by omega) (by rw [List.length_cons, HRL.out]; omega) rxr HCL.out HCS.out (by rw [HRS.out]; exact p1) p2 (by rw [World.size_alloc]; exact p3'))
            have HB8 := Lib.hid ((HBI.out.trans (hbw.mono hzi)).trans (Below.app (B := w.heap.size) (own_belowM (own_belowM O0.out B5.out) hb8) (by rw [World.size_alloc]; omega) p2))
            have HQ8 := Lib.hid (show ∀ q, wo.heap.size ≤ q → q < w1.heap.size → w8.heap[q]? = w1.heap[q]? from fun q h1 h2 => by
              rw [← HEQ.out q h1 h2, ← hbw.block q (by omega)]
              refine p2.block q (by rw [World.size_alloc]; omega) (fun e => ?_)
              have e2 : q = g6 := Option.some.inj e
              rcases HGI.out with h | h <;> omega)
            have hg8 : g8 < wo.heap.size ∨ w1.heap.size ≤ g8 := by
              rcases p3' with h | h
              · have : g6 = g8 := Option.some.inj h
                rw [← this]; exact HGI.out
              · right; omega
            have HT8 := Lib.hid (show enF g x ++ ((en k L).take (i + 1)).map (x :: ·) = (enF g x ++ ((en k L).take i).map (x :: ·)) ++ [x :: r] by
              rw [List.take_add_one, HR.out, List.map_append, List.append_assoc]; rfl)
            clear p1 p2 p3 hb8 hbw rxr
            go_wp2_with fail
            go_roundw
            case rel => exact ⟨i + 1, g8, cap8, by omega, by go_num, rfl, by rw [HT8.out]; exact G8.out, HB8.out, hg8, by omega, HQ8.out⟩
            case measure => simp [intOf]; omega
          · obtain rfl : i = K := by omega
            have e1 : enF g (x + 1) = enF g x ++ ((en k L).take i).map (x :: ·) := by rw [enF, HGX.out, List.take_of_length_le (by rw [HK.out]; exact Nat.le_refl _)]
            have e2 : (enF g (x + 1)).length = N0 + i := by rw [e1, List.length_append, HN0.out, List.length_map, List.length_take, HK.out, Nat.min_self]
            have E1 := Lib.hid e1
            have E2 := Lib.hid e2
            have G8 := Lib.hid hrm
            have HB8 := Lib.hid hbi
            clear e1 e2 hrm hbi heq
            go_wp2_with fail
            go_roundw
            case rel =>
              refine ⟨x + 1, g6, c6, by omega, ?_, ?_, by rw [E1.out]; exact G8.out, HB8.out⟩
              · go_num
              · rw [E2.out]
            case measure => simp [intOf]; omega
      · obtain rfl : x = M := by omega
        have q0 : ¬ (x : Int) ≤ (mn : Int) := by have := HMM.out; omega
        go_wp2_with fail
        go_ret
        exact ⟨g5, c5, by rw [HN0.out]; rfl, G.out, HB.out⟩

end Go.Proofs.Ytpcnjkgoehepaaa
