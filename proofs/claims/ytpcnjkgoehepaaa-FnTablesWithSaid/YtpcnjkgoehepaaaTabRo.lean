/- impl.rowsOf: walked. -/
import Derived.Test.YtpcnjkgoehepaaaTabE
namespace Go.Proofs.Ytpcnjkgoehepaaa
open Go.RowKit

/-- The number in a box. -/
def boxN (v : Value) (w : World) : Nat :=
  match v with
  | .pointer (some a) => match w.cell? a with
    | some (.int _ n) => n.toNat
    | _ => 0
  | _ => 0
theorem boxN_cell {w : World} {g : Nat} {v : Int} (h : w.cell? ⟨g, 0, none⟩ = some (.int .i64 v)) : boxN (.pointer (some ⟨g, 0, none⟩)) w = v.toNat := by simp [boxN, h]
/-- The callback of the inner call: the box of the callback, the box of the number. -/
theorem cbk_in {S : Nat → Prop} {base : Nat} {J : Nat → World → Prop} {a1 a2 : Value} {g5 g6 i v : Nat} {r : List Nat} (hS : Stb base J) (hl : r.length ≤ 10) (h5S : ¬ S g5) (h6S : ¬ S g6)
    (h : CBK S 49 (fun v => #[v, a1, a2]) J i (iN (v :: r))) (hb : ∀ W : World, W.cell? ⟨g5, 0, none⟩ = some (.func (.func 49) #[] #[a1, a2]) → base ≤ W.heap.size) :
    CBK S 49 (fun v => #[v, .pointer (some ⟨g5, 0, none⟩), .pointer (some ⟨g6, 0, none⟩)])
      (fun i (W : World) => J i W ∧ W.cell? ⟨g5, 0, none⟩ = some (.func (.func 49) #[] #[a1, a2]) ∧ W.cell? ⟨g6, 0, none⟩ = some (.int .i64 (v : Int))) i (iN r) := by
  intro W x hJ hx
  obtain ⟨j1, j2, j3⟩ := hJ
  refine (rows1_r S base J i a1 a2 x (v : Int) (iN r) g5 g6 W hS (hb W j2) (by rw [iN_length]; exact hl) h j1 hx j2 j3).mono ?_
  rintro e W' ⟨rfl, k1, k2⟩
  exact ⟨rfl, ⟨k1, k2.cell h5S j2, k2.cell h6S j3⟩, k2⟩

set_option maxHeartbeats 8000000 in
set_option maxRecDepth 100000 in
theorem rowsOf_nil_r (S : Nat → Prop) (base : Nat) (J : Nat → World → Prop) (i0 t c : Nat) (A : Option Addr) (a1 a2 : Value) (w : World) (hS : Stb base J) (hb : base ≤ w.heap.size) (hJ : J i0 w)
    (hc : AllC S 49 (fun v => #[v, a1, a2]) J i0 (en t [])) :
    Calls Try.prog 40 #[.int .i64 t, .slice A 0 c, .func (.func 49) #[] #[a1, a2]] w
      fun e w' => e = .returned (.tuple #[]) ∧ J (i0 + (en t []).length) w' ∧ Kp S w w' := by
  by_cases h0 : t = 0
  · have h1 : CBK S 49 (fun v => #[v, a1, a2]) J i0 [] := hc 0 [] (by rw [en, if_pos h0]; rfl)
    have e : (en t []).length = 1 := by rw [en, if_pos h0]; rfl
    rw [e]
    have q : ((t : Int) == 0) = true := by simp [h0]
    have HC := Lib.hid (fun W (hW : Below w.heap.size w W) => h1 W (.slice none 0 0) (hS _ _ _ hJ (hW.mono hb)) (.inl ⟨rfl, rfl⟩))
    clear hc e h1 h0 hJ
    go_enter Try.func40, Try.ntmps40
    go_wp2_with (go_at_call 49; refine (HC.out _ (by (repeat' (first | (with_reducible exact Below.refl _ _) | (with_reducible assumption) | (with_reducible refine Below.drewN ?_ _) | (with_reducible refine Below.alloc ?_ ?_ _) | (with_reducible refine Below.drew ?_) | (with_reducible refine Below.setCell ?_ ?_ _) | (with_reducible refine Below.trans ?_ (Below.mono (by assumption) ?_)) | go_size | (with_reducible refine Nat.le_trans ?_ (Below.size (by assumption))))))).mono ?_; rintro e w1 ⟨rfl, hj, hk⟩)
    first | go_ret | (refine bodyPost_ret (results_none Try.results40 _ _ _) rfl ?_)
    exact ⟨rfl, hj, (Kp.of_below below_alloc).trans hk⟩
  · have e : (en t []).length = 0 := by rw [en, if_neg h0]; rfl
    rw [e]
    have q : ((t : Int) == 0) = false := by rw [beq_eq_false_iff_ne]; omega
    have HJ := Lib.hid hJ
    clear hc e h0 hJ
    go_enter Try.func40, Try.ntmps40
    go_wp2_with fail
    first | go_ret | (refine bodyPost_ret (results_none Try.results40 _ _ _) rfl ?_)
    exact ⟨rfl, hS _ _ _ HJ.out (by (repeat' (first | (with_reducible exact Below.refl _ _) | (with_reducible assumption) | (with_reducible refine Below.drewN ?_ _) | (with_reducible refine Below.alloc ?_ ?_ _) | (with_reducible refine Below.drew ?_) | (with_reducible refine Below.setCell ?_ ?_ _) | (with_reducible refine Below.trans ?_ (Below.mono (by assumption) ?_)) | go_size | (with_reducible refine Nat.le_trans ?_ (Below.size (by assumption)))))), Kp.of_below (by (repeat' (first | (with_reducible exact Below.refl _ _) | (with_reducible assumption) | (with_reducible refine Below.drewN ?_ _) | (with_reducible refine Below.alloc ?_ ?_ _) | (with_reducible refine Below.drew ?_) | (with_reducible refine Below.setCell ?_ ?_ _) | (with_reducible refine Below.trans ?_ (Below.mono (by assumption) ?_)) | go_size | (with_reducible refine Nat.le_trans ?_ (Below.size (by assumption))))))⟩

set_option maxHeartbeats 8000000 in
set_option maxRecDepth 100000 in
theorem rowsOf_r (S : Nat → Prop) : ∀ (cols : List Nat) (base : Nat) (J : Nat → World → Prop) (i0 t b o c : Nat) (a1 a2 : Value) (w : World), Stb base J → (∀ k, S k → k < base) → base ≤ w.heap.size → ¬ S b → RowI w b o (iN cols) → cols.length ≤ 3 → cols.length ≤ c → c ≤ 9223372036854775807 → t ≤ 100 → (∀ x ∈ cols, x ≤ 100) → J i0 w →
    AllC S 49 (fun v => #[v, a1, a2]) J i0 (en t cols) →
    Calls Try.prog 40 #[.int .i64 t, .slice (some ⟨b, o, none⟩) cols.length c, .func (.func 49) #[] #[a1, a2]] w
      fun e w' => e = .returned (.tuple #[]) ∧ J (i0 + (en t cols).length) w' ∧ Kp S w w'
  | [], base, J, i0, t, b, o, c, a1, a2, w, hS, _, hb, _, _, _, _, _, _, _, hJ, hc => rowsOf_nil_r S base J i0 t c (some ⟨b, o, none⟩) a1 a2 w hS hb hJ hc
  | d :: L, base, J, i0, t, b, o, c, a1, a2, w, hS, hSb, hb, hbS, hr, hl, hlc, hc1, ht, hx, hJ, hc => by
    have IH := Lib.hid (rowsOf_r S L)
    have hd := hx d (by simp)
    have HX := Lib.hid (show ∀ x ∈ L, x ≤ 100 from fun x h => hx x (by simp [h]))
    have HR := Lib.hid hr
    have HJ := Lib.hid hJ
    have HC := Lib.hid hc
    have hb0 : ¬ S w.heap.size := fun h => by have := hSb _ h; omega
    obtain ⟨g, hg⟩ : ∃ g : Nat → List (List Nat), g = fun v => en (t - v) L := ⟨_, rfl⟩
    obtain ⟨M, hM⟩ : ∃ M, min t d + 1 = M := ⟨_, rfl⟩
    have hen : en t (d :: L) = enF g M := by rw [hg, ← hM]; rfl
    rw [hen] at HC ⊢
    obtain ⟨n, hn⟩ : ∃ n, (d :: L).length = n := ⟨_, rfl⟩
    have HN := Lib.hid (show L.length + 1 = n from hn)
    have HG := Lib.hid hg
    have hMt : M ≤ t + 1 := by omega
    have n1 : 1 ≤ n := by rw [← hn]; simp
    rw [hn] at hl hlc ⊢
    have q0 : ((n : Int) == 0) = false := by rw [beq_eq_false_iff_ne]; omega
    clear hr hx hJ hc hen hn hg
    go_enter Try.func40, Try.ntmps40
    go_wp2_with fail
    go_loopw [6] (fun v6 wr => ∃ v p : Nat, v ≤ M ∧ v6 = .pointer (some ⟨p, 0, none⟩) ∧ w.heap.size < p ∧ Blk wr p 3 [.int .i64 v] ∧ wr.cell? ⟨w.heap.size, 0, none⟩ = some (.func (.func 49) #[] #[a1, a2]) ∧ J (i0 + (enF g v).length) wr ∧ Kp S w wr) (fun v6 wr => M - boxN v6 wr)
    case atStart =>
      refine ⟨0, w.heap.size + 1, Nat.zero_le _, rfl, Nat.lt_succ_self _, ?_, ?_, hS _ _ _ HJ.out (by (repeat' (first | (with_reducible exact Below.refl _ _) | (with_reducible assumption) | (with_reducible refine Below.drewN ?_ _) | (with_reducible refine Below.alloc ?_ ?_ _) | (with_reducible refine Below.drew ?_) | (with_reducible refine Below.setCell ?_ ?_ _) | (with_reducible refine Below.trans ?_ (Below.mono (by assumption) ?_)) | go_size | (with_reducible refine Nat.le_trans ?_ (Below.size (by assumption)))))), Kp.of_below (by (repeat' (first | (with_reducible exact Below.refl _ _) | (with_reducible assumption) | (with_reducible refine Below.drewN ?_ _) | (with_reducible refine Below.alloc ?_ ?_ _) | (with_reducible refine Below.drew ?_) | (with_reducible refine Below.setCell ?_ ?_ _) | (with_reducible refine Below.trans ?_ (Below.mono (by assumption) ?_)) | go_size | (with_reducible refine Nat.le_trans ?_ (Below.size (by assumption))))))⟩
      · have := Blk.made (w.alloc (.cells #[.func (.func 49) #[] #[a1, a2]] 44)) #[.int .i64 0] 3
        simpa using this
      · exact (below_alloc.cell (World.block_lt_of_cell? _ _ (cell_one_new w _ _ 0 _ rfl))).trans (cell_one_new w _ _ 0 _ rfl)
    case round =>
      obtain ⟨v, p, hv, rfl, hp, hkb, h5, hj, hk⟩ := hrel
      have c1 := hkb.cell (j := 0) rfl
      have cr := (hk.row hbS HR.out).cell 0 (by rw [iN_length]; simp)
      rw [show gi (iN (d :: L)) 0 = (d : Int) from rfl, Nat.add_zero] at cr
      have KB := Lib.hid hkb
      have HK := Lib.hid hk
      have H5 := Lib.hid h5
      have HJV := Lib.hid hj
      clear hkb hk h5 hj
      go_upto_region 5 with fail
      go_cut [20] (fun s20 wx => s20 = .bool (decide (v < M)) ∧ ∃ nq, wx = wr.drewN nq)
      case first =>
        by_cases hdt : (d : Int) < (t : Int)
        · by_cases hvd : (v : Int) ≤ (d : Int)
          · go_quiet (fail)
            go_wp2
            go_meet
            exact ⟨by rw [decide_eq_true (show v < M by omega)], nq, rfl⟩
          · go_quiet (fail)
            go_wp2
            go_meet
            exact ⟨by rw [decide_eq_false (show ¬ v < M by omega)], nq, rfl⟩
        · by_cases hvd : (v : Int) ≤ (t : Int)
          · go_quiet (fail)
            go_wp2
            go_meet
            exact ⟨by rw [decide_eq_true (show v < M by omega)], nq, rfl⟩
          · go_quiet (fail)
            go_wp2
            go_meet
            exact ⟨by rw [decide_eq_false (show ¬ v < M by omega)], nq, rfl⟩
      case rest =>
        obtain ⟨rfl, nq, rfl⟩ := hcut
        by_cases hvM : v < M
        · rw [decide_eq_true hvM]
          have hlt : t - v ≤ 100 := by omega
          have hrowW := HK.out.row hbS HR.out
          obtain ⟨o1, ho1, hrow1⟩ : ∃ o1, o1 = (if c = 1 then o else o + 1) ∧ RowI wr b o1 (iN L) := by
            by_cases hc1 : c = 1
            · refine ⟨o, by rw [if_pos hc1], hrowW.blk, fun k hk => ?_⟩
              rw [iN_length] at hk
              have := HN.out
              omega
            · refine ⟨o + 1, by rw [if_neg hc1], hrowW.blk, fun k hk => ?_⟩
              have := hrowW.cell (k + 1) (by rw [iN_length] at hk ⊢; simpa using hk)
              rw [show o + 1 + k = o + (k + 1) by omega]
              exact this
          have h5S : ¬ S w.heap.size := hb0
          have h6S : ¬ S p := fun h => by have := hSb _ h; omega
          have hcv : AllC S 49 (fun v => #[v, a1, a2]) J (i0 + (enF g v).length) ((g v).map (v :: ·)) := by
            obtain ⟨B, hB⟩ := enF_len (f := g) (v + 1) M (by omega)
            have h1 := HC.out
            rw [hB] at h1
            exact h1.left.right
          have HCALL := Lib.hid (fun W (hW : Below wr.heap.size wr W) => IH.out wr.heap.size (fun i (W : World) => J i W ∧ W.cell? ⟨w.heap.size, 0, none⟩ = some (.func (.func 49) #[] #[a1, a2]) ∧ W.cell? ⟨p, 0, none⟩ = some (.int .i64 (v : Int)))
            (i0 + (enF g v).length) (t - v) b o1 (c - 1) (.pointer (some ⟨w.heap.size, 0, none⟩)) (.pointer (some ⟨p, 0, none⟩)) W
            (fun i W W' h hbw => ⟨hS _ _ _ h.1 (hbw.mono (by have := HK.out.size; omega)), by
              have := World.block_lt_of_cell? wr _ H5.out
              exact (hbw.cell (p := ⟨w.heap.size, 0, none⟩) this).trans h.2.1, (hbw.cell (p := ⟨p, 0, none⟩) KB.out.lt).trans h.2.2⟩)
            (fun k h => by have := hSb k h; have := HK.out.size; omega) hW.size hbS (hrow1.below hW) (by have := HN.out; omega) (by have := HN.out; omega) (by omega) hlt HX.out
            ⟨hS _ _ _ HJV.out (hW.mono (by have := HK.out.size; omega)), (hW.cell (World.block_lt_of_cell? wr _ H5.out)).trans H5.out, (hW.cell (World.block_lt_of_cell? wr _ c1)).trans c1⟩
            (fun i r hi => cbk_in hS (by rw [en_len L _ r (List.mem_of_getElem? hi)]; have := HN.out; omega) h5S h6S (hcv i (v :: r) (by rw [List.getElem?_map, HG.out]; simp [hi])) (fun W h => by have := World.block_lt_of_cell? W _ h; simp only at this; omega)))
          have hLn : L.length = n - 1 := by have := HN.out; omega
          rw [hLn] at HCALL
          have q1 : IntKind.i64.wrap ((t : Int) - (v : Int)) = ((t - v : Nat) : Int) := by rw [IntWalk.i64_in _ (by omega)]; omega
          have nc : (n : Int) ≤ (c : Int) := by omega
          have lp := KB.out.lt
          obtain ⟨k, hkk⟩ : ∃ k, t - v = k := ⟨_, rfl⟩
          rw [hkk] at HCALL q1
          have HKK := Lib.hid hkk
          clear hLn hkk hcv hrow1 hrowW
          have lw : w.heap.size < wr.heap.size := World.block_lt_of_cell? wr _ H5.out
          by_cases hc1 : c = 1
          · rw [if_pos hc1] at ho1
            subst ho1
            obtain rfl : n = 1 := by omega
            subst hc1
            go_upto_region 7 with fail
            go_region_with (go_at_call 40; refine (HCALL.out _ (by (repeat' (first | (with_reducible exact Below.refl _ _) | (with_reducible assumption) | (with_reducible refine Below.drewN ?_ _) | (with_reducible refine Below.alloc ?_ ?_ _) | (with_reducible refine Below.drew ?_) | (with_reducible refine Below.setCell ?_ ?_ _) | (with_reducible refine Below.trans ?_ (Below.mono (by assumption) ?_)) | go_size | (with_reducible refine Nat.le_trans ?_ (Below.size (by assumption))))))).mono ?_; rintro e w8 ⟨rfl, ⟨j8, j9, j10⟩, k8⟩)
            all_goals
              have K8 := Lib.hid (show Kp S wr w8 from (Kp.of_below (by (repeat' (first | (with_reducible exact Below.refl _ _) | (with_reducible assumption) | (with_reducible refine Below.drewN ?_ _) | (with_reducible refine Below.alloc ?_ ?_ _) | (with_reducible refine Below.drew ?_) | (with_reducible refine Below.setCell ?_ ?_ _) | (with_reducible refine Below.trans ?_ (Below.mono (by assumption) ?_)) | go_size | (with_reducible refine Nat.le_trans ?_ (Below.size (by assumption))))))).trans k8)
              have J8 := Lib.hid j8
              have J9 := Lib.hid j9
              have z8 := K8.out.size
              clear j8 j9 k8
              go_wp2_with fail
              have ks := K8.out.size
              go_roundw
              case rel =>
                repeat apply Exists.intro
                refine ⟨⟨v + 1, w8.heap.size, by omega, rfl, by omega, ?_, ?_, ?_, ?_⟩, rfl⟩
                · have := Blk.made w8 #[.int .i64 ((v : Int) + 1)] 3
                  simpa using this
                · exact (below_alloc.cell (World.block_lt_of_cell? w8 _ J9.out)).trans J9.out
                · have e : (enF g (v + 1)).length = (enF g v).length + (en k L).length := by
                    have hgv : g v = en k L := by rw [HG.out, ← HKK.out]
                    rw [enF, List.length_append, List.length_map, hgv]
                  rw [e, ← Nat.add_assoc]
                  exact hS _ _ _ J8.out (below_alloc.mono (by have := HK.out.size; omega))
                · exact HK.out.trans (K8.out.trans (Kp.of_below below_alloc))
              case measure =>
                have cn := cell_one_new w8 (.int .i64 ((v : Int) + 1)) 3 0 (.int .i64 ((v : Int) + 1)) rfl
                have e1 := boxN_cell cn
                have e2 := boxN_cell c1
                have e3 : M - boxN (.pointer (some ⟨w8.heap.size, 0, none⟩)) (w8.alloc (.cells #[.int .i64 ((v : Int) + 1)] 3)) < M - boxN (.pointer (some ⟨p, 0, none⟩)) wr := by rw [e1, e2]; omega
                exact e3
          · rw [if_neg hc1] at ho1
            subst ho1
            have hc2 : ¬ (1 : Nat) = c := fun h => hc1 h.symm
            go_upto_region 7 with fail
            go_region_with (go_at_call 40; refine (HCALL.out _ (by (repeat' (first | (with_reducible exact Below.refl _ _) | (with_reducible assumption) | (with_reducible refine Below.drewN ?_ _) | (with_reducible refine Below.alloc ?_ ?_ _) | (with_reducible refine Below.drew ?_) | (with_reducible refine Below.setCell ?_ ?_ _) | (with_reducible refine Below.trans ?_ (Below.mono (by assumption) ?_)) | go_size | (with_reducible refine Nat.le_trans ?_ (Below.size (by assumption))))))).mono ?_; rintro e w8 ⟨rfl, ⟨j8, j9, j10⟩, k8⟩)
            all_goals
              have K8 := Lib.hid (show Kp S wr w8 from (Kp.of_below (by (repeat' (first | (with_reducible exact Below.refl _ _) | (with_reducible assumption) | (with_reducible refine Below.drewN ?_ _) | (with_reducible refine Below.alloc ?_ ?_ _) | (with_reducible refine Below.drew ?_) | (with_reducible refine Below.setCell ?_ ?_ _) | (with_reducible refine Below.trans ?_ (Below.mono (by assumption) ?_)) | go_size | (with_reducible refine Nat.le_trans ?_ (Below.size (by assumption))))))).trans k8)
              have J8 := Lib.hid j8
              have J9 := Lib.hid j9
              have z8 := K8.out.size
              clear j8 j9 k8
              go_wp2_with fail
              have ks := K8.out.size
              go_roundw
              case rel =>
                refine ⟨v + 1, w8.heap.size, by omega, rfl, by omega, ?_, ?_, ?_, ?_⟩
                · have := Blk.made w8 #[.int .i64 ((v : Int) + 1)] 3
                  simpa using this
                · exact (below_alloc.cell (World.block_lt_of_cell? w8 _ J9.out)).trans J9.out
                · have e : (enF g (v + 1)).length = (enF g v).length + (en k L).length := by
                    have hgv : g v = en k L := by rw [HG.out, ← HKK.out]
                    rw [enF, List.length_append, List.length_map, hgv]
                  rw [e, ← Nat.add_assoc]
                  exact hS _ _ _ J8.out (below_alloc.mono (by have := HK.out.size; omega))
                · exact HK.out.trans (K8.out.trans (Kp.of_below below_alloc))
              case measure =>
                have cn := cell_one_new w8 (.int .i64 ((v : Int) + 1)) 3 0 (.int .i64 ((v : Int) + 1)) rfl
                have e1 := boxN_cell cn
                have e2 := boxN_cell c1
                have e3 : M - boxN (.pointer (some ⟨w8.heap.size, 0, none⟩)) (w8.alloc (.cells #[.int .i64 ((v : Int) + 1)] 3)) < M - boxN (.pointer (some ⟨p, 0, none⟩)) wr := by rw [e1, e2]; omega
                exact e3
        · rw [decide_eq_false hvM]
          obtain rfl : v = M := by omega
          go_wp2_with fail
          go_end0
          exact ⟨rfl, hS _ _ _ HJV.out (by (repeat' (first | (with_reducible exact Below.refl _ _) | (with_reducible assumption) | (with_reducible refine Below.drewN ?_ _) | (with_reducible refine Below.alloc ?_ ?_ _) | (with_reducible refine Below.drew ?_) | (with_reducible refine Below.setCell ?_ ?_ _) | (with_reducible refine Below.trans ?_ (Below.mono (by assumption) ?_)) | go_size | (with_reducible refine Nat.le_trans ?_ (Below.size (by assumption)))))), HK.out.trans (Kp.of_below (by (repeat' (first | (with_reducible exact Below.refl _ _) | (with_reducible assumption) | (with_reducible refine Below.drewN ?_ _) | (with_reducible refine Below.alloc ?_ ?_ _) | (with_reducible refine Below.drew ?_) | (with_reducible refine Below.setCell ?_ ?_ _) | (with_reducible refine Below.trans ?_ (Below.mono (by assumption) ?_)) | go_size | (with_reducible refine Nat.le_trans ?_ (Below.size (by assumption)))))))⟩

end Go.Proofs.Ytpcnjkgoehepaaa
