/- The generator spec.DrawTablesWith: two rows of the call's own. -/
import Derived.Test.YtpcnjkgoehepaaaTabX
import Derived.Test.YtpcnjkgoehepaaaGrow
import Derived.Deep.DeepCutAuto
namespace Go.Proofs.Ytpcnjkgoehepaaa
open Go.RowKit

theorem OwnI.cap2 {w : World} {base g c m n : Nat} {xs : List Int} (h : OwnI w base (.slice (some ⟨g, 0, none⟩) m c) n xs) : c ≤ 9223372036854775807 := by
  rcases h.2 with ⟨h0, _⟩ | ⟨g', cap', cur, hv, hb, hg, hnc, hcm, _⟩
  · cases h0
  · cases hv; unfold maxLen at hcm; omega
theorem mem_app {P : Int → Prop} {xs : List Int} {x : Int} (h : ∀ y ∈ xs, P y) (hx : P x) : ∀ y ∈ xs ++ [x], P y := by
  intro y hy
  rcases List.mem_append.1 hy with hy | hy
  · exact h y hy
  · rw [List.mem_singleton.1 hy]; exact hx
theorem gi_mem {xs : List Int} {k : Nat} (hk : k < xs.length) : gi xs k ∈ xs := by rw [gi_eq hk]; exact List.getElem_mem hk
theorem ic_set0 (xs : List Int) (v : Int) : (ic xs).set 0 (.int .i64 v) = ic (xs.set 0 v) := by cases xs <;> simp [ic]
/-- Two rows that the generator has made. -/
def DrwT (w : World) (e : Ending) (w' : World) : Prop := ∃ g1 c1 g2 c2 R ys,
  e = .returned (.tuple #[.slice (some ⟨g1, 0, none⟩) R.length c1, .slice (some ⟨g2, 0, none⟩) ys.length c2]) ∧ TIn w' R ys g1 0 c1 g2 0 c2 ∧ Below w.heap.size w w'
theorem drwT_of {w w' : World} {g1 c1 g2 c2 k m : Nat} {xs ys : List Int} (hx : ∀ y ∈ xs, 0 ≤ y ∧ y ≤ 4) (hy : ∀ y ∈ ys, -1000 ≤ y ∧ y ≤ 1000) (h1 : xs.length = k) (h2 : ys.length = m) (k1 : 1 ≤ k) (k3 : k ≤ 3) (m1 : 1 ≤ m) (m3 : m ≤ 3)
    (r1 : RowI w' g1 0 xs) (r2 : RowI w' g2 0 ys) (hc1 : k ≤ c1) (hc1' : c1 ≤ 9223372036854775807) (hc2 : m ≤ c2) (hc2' : c2 ≤ 9223372036854775807) (hb : Below w.heap.size w w') :
    DrwT w (.returned (.tuple #[.slice (some ⟨g1, 0, none⟩) k c1, .slice (some ⟨g2, 0, none⟩) m c2])) w' := by
  have e := iN_toNat xs fun y hy => (hx y hy).1
  have el : (xs.map Int.toNat).length = k := by rw [List.length_map, h1]
  refine ⟨g1, c1, g2, c2, xs.map Int.toNat, ys, by rw [el, h2], ⟨by rw [e]; exact r1, r2, by omega, by omega, fun r hr => ?_, by omega, by omega, fun i hi => hy _ (gi_mem hi), by omega, hc1', by omega, hc2'⟩, hb⟩
  obtain ⟨y, hy, rfl⟩ := List.mem_map.1 hr
  have := hx y hy
  omega

set_option maxHeartbeats 4000000 in
set_option maxRecDepth 100000 in
theorem drawTab_any (ad : Option Addr) (n c : Nat) (w : World) (h : CodeB w w.heap.size ad n) (hn : n ≤ 9223372036854775807) (hc : n ≤ c) :
    Calls Try.prog 6 #[.slice ad n c] w (DrwT w) := by
  have H := Lib.hid h
  clear h
  have hb8 : ∀ k, k < 3 → 1 ≤ gi [2, 3, 1] k ∧ gi [2, 3, 1] k ≤ 3 := by decide
  go_enter Try.func6, Try.ntmps6
  go_upto_region 2 with (first
    | (go_at_call 21; refine (newReader_any ad n c _ H.out hn hc).mono ?_; rintro e w1 ⟨g, n', c', rfl, hg0, hr, hb1⟩; have HG0 := Lib.hid hg0; clear hg0))
  have hz1 := hb1.size
  have hl1 := hr.blk.lt
  have HR := Lib.hid hr
  have HB1 := Lib.hid hb1
  clear hr hb1 H
  go_upto_region 3 with fail
  refine wp_abstract (fun W => OwnI W w1.heap.size (.slice (some ⟨w1.heap.size, 0, none⟩) 0 0) 0 [] ∧ Below w1.heap.size w1 W) ⟨World.ownsRow_made w1 #[] 0 (Nat.le_refl _) (by unfold maxLen; omega) rfl, by (repeat' (first | (with_reducible exact Below.refl _ _) | (with_reducible assumption) | (with_reducible refine Below.drewN ?_ _) | (with_reducible refine Below.alloc ?_ ?_ _) | (with_reducible refine Below.drew ?_) | (with_reducible refine Below.setCell ?_ ?_ _) | (with_reducible refine Below.trans ?_ (Below.mono (by assumption) ?_)) | go_size | (with_reducible refine Nat.le_trans ?_ (Below.size (by assumption)))))⟩ ?_
  rintro W ⟨ht, hb⟩
  have HT := Lib.hid ht
  have HR := Lib.hid (HR.out.below hb)
  have HB := Lib.hid (grown_of_below (some g) hb)
  have hz := hb.size
  have h8 := row_made W [2, 3, 1]
  have hb9 : Below W.heap.size W (W.alloc (.cells (ic [2, 3, 1]).toArray 3)) := below_alloc
  clear ht hb
  go_wp2_with (go_at_call 22; refine (one_any g n' c' W.heap.size 0 3 ad 0 [2, 3, 1] _ (HR.out.below hb9) h8 (by omega) (by omega) (by simp) (by simp)).mono ?_; rintro e w4 ⟨k0, hk0, rfl, hr4, hg4⟩)
  obtain ⟨nn, hnn⟩ : ∃ nn, gi [2, 3, 1] k0 = nn := ⟨_, rfl⟩
  have hn8 := hb8 k0 hk0
  rw [hnn] at hn8 ⊢
  have HT4 := Lib.hid ((HT.out.below hb9).grown hg4 (by simp [Value.ownBlock]; omega))
  have HR4 := Lib.hid hr4
  have HG4 := Lib.hid (grown_trans (grown_trans HB.out (grown_of_below (some g) hb9)) hg4)
  clear hr4 hg4 hb9 h8 HT HR HB hk0 hnn
  go_loopw [5] (fun v5 wr => ∃ (k g5 c5 : Nat) (xs : List Int) (p' : Int), v5 = .slice (some ⟨g5, 0, none⟩) k c5 ∧ (k : Int) ≤ nn ∧ p' ≤ 1 + k ∧ (∀ y ∈ xs, 0 ≤ y ∧ y ≤ 4) ∧ OwnI wr w1.heap.size (.slice (some ⟨g5, 0, none⟩) k c5) k xs ∧ Rdr wr g ad n' c' p' ∧ w1.grownBy wr (some g))
    (fun v5 _ => match v5 with | .slice _ m _ => nn.toNat - m | _ => 0)
  case atStart => exact ⟨0, w1.heap.size, 0, [], 0 + 1, rfl, by omega, by omega, fun y hy => by simp at hy, HT4.out, HR4.out, HG4.out⟩
  case round =>
    clear HT4 HR4 HG4
    obtain ⟨k, g5, c5, xs, p', rfl, hk, hp', hxs, ht, hr, hg⟩ := hrel
    have HT := Lib.hid ht
    have HR := Lib.hid hr
    have HG := Lib.hid hg
    have HX := Lib.hid hxs
    have hz := hg.size
    have hgr : g < wr.heap.size := hr.blk.lt
    have hg5 := (Blk.of_own ht).2
    have hp0' := hr.p0
    clear ht hr hg hxs
    by_cases hlt : (k : Int) < nn
    · go_wp2_with (first
        | (go_at_call 23; refine (pick_any g n' c' ad p' 5 _ HR.out (by omega) (by omega) (by omega)).mono ?_; rintro e w5 ⟨v1, rfl, v10, v11, r1, h1⟩; have HT1 := Lib.hid (HT.out.grown h1 (by simp [Value.ownBlock]; omega)); have HR1 := Lib.hid r1; have HG1 := Lib.hid (grown_trans HG.out h1); have hz2 := h1.size)
        | (at_builtin; refine wpList_app1 rfl (.tmp 21) (.tmp 24) 23 rfl w1.heap.size 3 (.int .i64 0) 1 8 Try.underlying23 infoI rfl (by decide) (by decide) _ _ _ rfl (World.ownsRow.alloc HT1.out _) ⟨_, 0, none⟩ 1 [.int .i64 _] rfl rfl (cell_one_new _ _ _) (by simp [Value.oneCell']) (by omega) (by simp; omega) ?_; intro g6 cap6 w6 o1 o2 o3))
      obtain ⟨r6, g6'⟩ := app_row HR1.out HG1.out hl1 o2 hg5
      have R6 := Lib.hid r6
      have G6 := Lib.hid g6'
      have HX6 := Lib.hid (mem_app (x := v1) HX.out (by omega))
      clear r6 g6'
      go_roundw
      case rel => exact ⟨k + 1, g6, cap6, xs ++ [_], p' + 1, rfl, by omega, by omega, HX6.out, OwnI.app o1, R6.out, G6.out⟩
      case measure => simp; omega
    · have hkn : (k : Int) = nn := by omega
      have hlx := HT.out.len
      have hcap := HT.out.cap
      have hcap2 := HT.out.cap2
      have k1 : 1 ≤ k := by omega
      have k3 : k ≤ 3 := by omega
      have RW := Lib.hid (HT.out.row)
      have CS := ssum_s g5 0 c5 xs wr HT.out.row (by omega) (fun i hi => by have := HX.out _ (gi_mem hi); omega)
      have hx12 := sX_abs (g := gi xs) (M := 4) k (fun i hi => by have := HX.out _ (gi_mem (k := i) (by omega)); omega)
      have hx0 : 0 ≤ sX (gi xs) k := by
        have : ∀ j, j ≤ k → 0 ≤ sX (gi xs) j := by
          intro j
          induction j with
          | zero => intro _; exact Int.le_refl 0
          | succ j ih => intro hj; have h1 := ih (by omega); have h2 := HX.out _ (gi_mem (k := j) (by omega)); show 0 ≤ sX (gi xs) j + gi xs j; omega
        exact this k (Nat.le_refl _)
      rw [hlx] at CS
      obtain ⟨L0, hL0⟩ : ∃ L, sX (gi xs) k = L := ⟨_, rfl⟩
      rw [hL0] at CS hx12 hx0
      have HCS := Lib.hid CS
      have hg5n : ¬ g5 = g := by omega
      have lg5 := (Blk.of_own HT.out).1.lt
      clear CS HT hL0 hkn
      go_upto_region 8 with (go_at_call 24; refine HCS.out.mono ?_; rintro e w6 ⟨rfl, rfl⟩)
      obtain ⟨w2, rfl⟩ : ∃ w2 : World, w2 = wr := ⟨_, rfl⟩
      refine wp_abstract (fun W => OwnI W w2.heap.size (.slice (some ⟨w2.heap.size, 0, none⟩) 0 0) 0 [] ∧ Below w2.heap.size w2 W) ⟨World.ownsRow_made w2 #[] 0 (Nat.le_refl _) (by unfold maxLen; omega) rfl, by (repeat' (first | (with_reducible exact Below.refl _ _) | (with_reducible assumption) | (with_reducible refine Below.drewN ?_ _) | (with_reducible refine Below.alloc ?_ ?_ _) | (with_reducible refine Below.drew ?_) | (with_reducible refine Below.setCell ?_ ?_ _) | (with_reducible refine Below.trans ?_ (Below.mono (by assumption) ?_)) | go_size | (with_reducible refine Nat.le_trans ?_ (Below.size (by assumption)))))⟩ ?_
      rintro W ⟨ht, hb⟩
      have HT := Lib.hid ht
      have HR := Lib.hid (HR.out.below hb)
      have HB := Lib.hid (grown_of_below (some g) hb)
      have hz2 := hb.size
      have h8 := row_made W [2, 3, 1]
      have hb9 : Below W.heap.size W (W.alloc (.cells (ic [2, 3, 1]).toArray 3)) := below_alloc
      clear ht hb
      go_wp2_with (go_at_call 22; refine (one_any g n' c' W.heap.size 0 3 ad p' [2, 3, 1] _ (HR.out.below hb9) h8 (by omega) (by omega) (by simp) (by simp)).mono ?_; rintro e w7 ⟨k1', hk1, rfl, hr7, hg7⟩)
      obtain ⟨nm, hnm⟩ : ∃ nn, gi [2, 3, 1] k1' = nn := ⟨_, rfl⟩
      have hm8 := hb8 k1' hk1
      rw [hnm] at hm8 ⊢
      have HT7 := Lib.hid ((HT.out.below hb9).grown hg7 (by simp [Value.ownBlock]; omega))
      have HR7 := Lib.hid hr7
      have HG7 := Lib.hid (grown_trans (grown_trans HB.out (grown_of_below (some g) hb9)) hg7)
      clear hr7 hg7 hb9 h8 HT HR HB hk1 hnm
      go_loopw [7, 8] (fun v7 v8 wr => ∃ (m g8 c8 : Nat) (ys : List Int) (L p'' : Int), v7 = .int .i64 L ∧ v8 = .slice (some ⟨g8, 0, none⟩) m c8 ∧ (0 ≤ L ∧ L ≤ 12) ∧ (m : Int) + 1 ≤ nm ∧ p'' ≤ 10 + m ∧ (∀ y ∈ ys, 0 ≤ y ∧ y ≤ 12) ∧ OwnI wr w2.heap.size (.slice (some ⟨g8, 0, none⟩) m c8) m ys ∧ Rdr wr g ad n' c' p'' ∧ w2.grownBy wr (some g))
        (fun _ v8 _ => match v8 with | .slice _ m _ => nm.toNat - m | _ => 0)
      case atStart => exact ⟨0, w2.heap.size, 0, [], L0, p' + 1, rfl, rfl, by omega, by omega, by omega, fun y hy => by simp at hy, HT7.out, HR7.out, HG7.out⟩
      case round =>
        clear HT7 HR7 HG7
        obtain ⟨m, g8, c8, ys, L, p'', rfl, rfl, hL, hm, hpp, hys, ht, hr, hgw⟩ := hrel
        have HT := Lib.hid ht
        have HR := Lib.hid hr
        have HGW := Lib.hid hgw
        have HY := Lib.hid hys
        have hz3 := hgw.size
        have hgr2 : g < wr.heap.size := hr.blk.lt
        have hg8 := (Blk.of_own ht).2
        have hp0'' := hr.p0
        clear ht hr hgw hys
        by_cases hlt : (m : Int) + 1 < nm
        · obtain ⟨mn, hmn⟩ : ∃ mn : Int, min L 6 = mn := ⟨_, rfl⟩
          have m1 : (if 6 < L then 6 else L) = mn := by rw [← hmn]; split <;> omega
          have hmn1 : 0 ≤ mn ∧ mn ≤ 6 ∧ mn ≤ L := by omega
          obtain ⟨mp, hmp⟩ : ∃ mp, mn + 1 = mp := ⟨_, rfl⟩
          have q1 : IntKind.i64.wrap (mn + 1) = mp := by rw [← hmp]; exact IntWalk.i64_in _ (by omega)
          have hmp1 : 1 ≤ mp := by omega
          have hmp2 : mp ≤ L + 1 := by omega
          have hmp3 : mp ≤ 7 := by omega
          have CP := Lib.hid (fun W (h : Rdr W g ad n' c' p'') => pick_any g n' c' ad p'' mp W h (by omega) hmp1 (by omega))
          have q2 : (m : Int) + 1 < nm := hlt
          clear hmp hmn1
          go_wp2_with (first
            | (go_at_call 23; refine (CP.out _ HR.out).mono ?_; rintro e w5 ⟨v1, rfl, v10, v11, r1, h1⟩; have HT1 := Lib.hid (HT.out.grown h1 (by simp [Value.ownBlock]; omega)); have HR1 := Lib.hid r1; have HG1 := Lib.hid (grown_trans HGW.out h1); have hz4 := h1.size; have q3 : IntKind.i64.wrap (L - v1) = L - v1 := IntWalk.i64_in _ (by omega))
            | (at_builtin; refine wpList_app1 rfl (.tmp 42) (.tmp 44) 23 rfl w2.heap.size 3 (.int .i64 0) 1 8 Try.underlying23 infoI rfl (by decide) (by decide) _ _ _ rfl (World.ownsRow.alloc HT1.out _) ⟨_, 0, none⟩ 1 [.int .i64 _] rfl rfl (cell_one_new _ _ _) (by simp [Value.oneCell']) (by omega) (by simp; omega) ?_; intro g6 cap6 w6 o1 o2 o3))
          obtain ⟨r6, g6'⟩ := app_row HR1.out HG1.out (show g < w2.heap.size by omega) o2 hg8
          have R6 := Lib.hid r6
          have G6 := Lib.hid g6'
          have HX6 := Lib.hid (mem_app (x := v1) HY.out (by omega))
          clear r6 g6'
          go_roundw
          case rel => exact ⟨m + 1, g6, cap6, ys ++ [_], L - v1, p'' + 1, rfl, rfl, by omega, by omega, by omega, HX6.out, OwnI.app o1, R6.out, G6.out⟩
          case measure => simp; omega
        · have hly := HT.out.len
          have m2 : m + 1 ≤ 3 := by omega
          go_upto_region 14 with (at_builtin; refine wpList_app1 rfl (.tmp 49) (.tmp 51) 23 rfl w2.heap.size 3 (.int .i64 0) 1 8 Try.underlying23 infoI rfl (by decide) (by decide) _ _ _ rfl (World.ownsRow.alloc HT.out _) ⟨_, 0, none⟩ 1 [.int .i64 L] rfl rfl (cell_one_new _ _ _) (by simp [Value.oneCell']) (by omega) (by simp; omega) ?_; intro g9 cap9 w8 o1 o2 o3)
          obtain ⟨r8, g8'⟩ := app_row HR.out HGW.out (show g < w2.heap.size by omega) o2 hg8
          have T8 := Lib.hid (OwnI.app o1)
          have R8 := Lib.hid r8
          have G8 := Lib.hid g8'
          have HY8 := Lib.hid (mem_app (x := L) HY.out hL)
          have hg9 := (Blk.of_own (OwnI.app o1)).2
          have z8 := g8'.size
          clear r8 g8' o1 o2 o3 HT HR HGW HY hlt
          go_upto_if 55 with (go_at_call 23; refine (pick_any g n' c' ad p'' 24 _ R8.out (by omega) (by omega) (by omega)).mono ?_; rintro e w9 ⟨v1, rfl, v10, v11, r1, h1⟩)
          have T9 := Lib.hid (T8.out.grown h1 (by simp [Value.ownBlock]; omega))
          have R9 := Lib.hid r1
          have G9 := Lib.hid (grown_trans G8.out h1)
          have z9 := h1.size
          have lg9 := r1.blk.lt
          have lc9 := (Blk.of_own T9.out).1.lt
          clear r1 h1 T8 R8 G8
          have hly8 := T9.out.len
          have hcp := T9.out.cap
          have hcp2 := T9.out.cap2
          have RX := Lib.hid (RW.out.grownM G9.out hg5n)
          have BF := Lib.hid (show ∀ W, w2.grownBy W (some g) → Below w.heap.size w W from fun W h => HB1.out.grown (grown_trans HG.out h) hz1 (fun k hk => by have := Option.some.inj hk; have := HG0.out; omega))
          by_cases hv : v1 = 0
          · have t1 : (v1 == 0) = true := by rw [hv]; rfl
            have h8 : RowI (w9.alloc (.cells #[.int .i64 1, .int .i64 (-1), .int .i64 7] 3)) w9.heap.size 0 [1, -1, 7] := row_made w9 [1, -1, 7]
            have hb9 : Below w9.heap.size w9 (w9.alloc (.cells #[.int .i64 1, .int .i64 (-1), .int .i64 7] 3)) := below_alloc
            have kb := (Blk.of_own T9.out).1
            have c0 := kb.cell (j := 0) (get_ic (xs := ys ++ [L]) (k := 0) (by omega))
            have f0 := kb.frozen 0
            have y0 := HY8.out _ (gi_mem (xs := ys ++ [L]) (k := 0) (by omega))
            obtain ⟨y, hy⟩ : ∃ y, gi (ys ++ [L]) 0 = y := ⟨_, rfl⟩
            rw [hy] at c0 y0
            have HY0 := Lib.hid hy
            have HOC := Lib.hid (fun W (hW : Below (w9.alloc (.cells #[.int .i64 1, .int .i64 (-1), .int .i64 7] 3)).heap.size (w9.alloc (.cells #[.int .i64 1, .int .i64 (-1), .int .i64 7] 3)) W) =>
              one_any g n' c' w9.heap.size 0 3 ad (p'' + 1) [1, -1, 7] W (R9.out.below (hb9.trans (hW.mono hb9.size))) (h8.below hW) (by omega) (by omega) (by simp) (by simp))
            have hbb : ∀ k, k < 3 → -1 ≤ gi [1, -1, 7] k ∧ gi [1, -1, 7] k ≤ 7 := by decide
            have HBB := Lib.hid hbb
            have HB9 := Lib.hid hb9
            have hgn : ¬ g9 = g := by omega
            have KB := Lib.hid kb
            clear h8 hb9 kb hy hbb hb8 hv
            go_wp2_with fail
            go_region_with (go_at_call 22; refine (HOC.out _ (by (repeat' (first | (with_reducible exact Below.refl _ _) | (with_reducible assumption) | (with_reducible refine Below.drewN ?_ _) | (with_reducible refine Below.alloc ?_ ?_ _) | (with_reducible refine Below.drew ?_) | (with_reducible refine Below.setCell ?_ ?_ _) | (with_reducible refine Below.trans ?_ (Below.mono (by assumption) ?_)) | go_size | (with_reducible refine Nat.le_trans ?_ (Below.size (by assumption))))))).mono ?_; rintro e w10 ⟨k9, hk9, rfl, r10, g10⟩; have K10 := Blk.grown (KB.out.below (HB9.out.drew)) g10 hgn; have c10 := K10.cell (j := 0) (get_ic (xs := ys ++ [L]) (k := 0) (by omega)); have f10 := K10.frozen 0; rw [HY0.out] at c10; have hz9 := HBB.out k9 hk9; obtain ⟨z, hz0⟩ : ∃ z, gi [1, -1, 7] k9 = z := ⟨_, rfl⟩; rw [hz0] at hz9 ⊢; have q9 : IntKind.i64.wrap (y + z) = y + z := IntWalk.i64_in _ (by omega); clear hz0)
            all_goals
              have RX2 := Lib.hid (((RX.out.below (HB9.out.drew)).grownM g10 hg5n).others' (a := ⟨g9, 0, none⟩) (v := .int .i64 (y + z)) (by show g5 ≠ g9; omega))
              have KS := K10.set 0 (.int .i64 (y + z))
              rw [ic_set0] at KS
              have KY := Lib.hid KS.row
              have BX := Lib.hid (BF.out _ (grown_far (grown_trans (grown_trans G9.out (grown_of_below _ (HB9.out.drew))) g10) (grownBy_set (grownBy_refl _ (some g9)) (j := 0) (.int .i64 (y + z))) hg9))
              have HYS := Lib.hid (show ∀ q ∈ (ys ++ [L]).set 0 (y + z), -1000 ≤ q ∧ q ≤ 1000 from fun q hq => by
                rcases List.mem_or_eq_of_mem_set hq with h | h
                · have := HY8.out q h; omega
                · omega)
              clear KS K10 g10 r10
              go_wp2_with fail
              go_ret2
              exact drwT_of HX.out HYS.out hlx (by rw [List.length_set]; exact hly8) k1 k3 (by omega) m2 RX2.out KY.out hcap hcap2 hcp hcp2 BX.out
          · have t1 : (v1 == 0) = false := by simpa using hv
            go_wp2_with fail
            go_ret2
            exact drwT_of HX.out (fun y hy => by have := HY8.out y hy; omega) hlx hly8 k1 k3 (by omega) m2 RX.out T9.out.row hcap hcap2 hcp hcp2 (BF.out _ G9.out)

end Go.Proofs.Ytpcnjkgoehepaaa
