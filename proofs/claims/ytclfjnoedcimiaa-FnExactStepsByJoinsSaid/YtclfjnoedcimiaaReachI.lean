/- The tree by reaching out: impl.TreeLength. -/
import Derived.Test.YtclfjnoedcimiaaCloneR
import Derived.Test.YtclfjnoedcimiaaBlk2
namespace Go.Proofs.Ytclfjnoedcimiaa
open Go.RowKit

theorem infoB : (Try.prog.info? 4).map (fun i => (i.zero, i.size, i.bytes)) = some (some (.bool false), 1, 1) := by kernel_rfl
/-- The cells of a function's truth values. -/
def bc (f : Nat → Bool) (n : Nat) : List Value := (List.range n).map fun i => .bool (f i)
theorem bc_length (f : Nat → Bool) (n : Nat) : (bc f n).length = n := by simp [bc]
theorem get_bc {f : Nat → Bool} {n k : Nat} (h : k < n) : (bc f n)[k]? = some (.bool (f k)) := by simp [bc, h]
theorem bc_set {f g : Nat → Bool} {n x : Nat} {b : Bool} (h : ∀ i, i < n → g i = if i = x then b else f i) : (bc f n).set x (.bool b) = bc g n := by
  apply List.ext_getElem?
  intro j
  by_cases hj : j < n
  · rw [get_bc hj, h j hj]
    by_cases e : j = x
    · subst e
      rw [List.getElem?_set_self (by rw [bc_length]; exact hj), if_pos rfl]
    · rw [List.getElem?_set_ne (fun h => e h.symm), get_bc hj, if_neg e]
  · rw [List.getElem?_eq_none (by rw [List.length_set, bc_length]; omega), List.getElem?_eq_none (by rw [bc_length]; omega)]
theorem tab_set {f g : Nat → Int} {n x : Nat} {v : Int} (h : ∀ i, i < n → g i = if i = x then v else f i) : (ic (tabI f n)).set x (.int .i64 v) = ic (tabI g n) := by
  apply List.ext_getElem?
  intro j
  by_cases hj : j < n
  · rw [get_ic (by rw [tabI_length]; exact hj), gi_tabI hj, h j hj]
    by_cases e : j = x
    · subst e
      rw [List.getElem?_set_self (by rw [ic_length, tabI_length]; exact hj), if_pos rfl]
    · rw [List.getElem?_set_ne (fun h => e h.symm), get_ic (by rw [tabI_length]; exact hj), gi_tabI hj, if_neg e]
  · rw [List.getElem?_eq_none (by rw [List.length_set, ic_length, tabI_length]; omega), List.getElem?_eq_none (by rw [ic_length, tabI_length]; omega)]
theorem tabI_congr {f g : Nat → Int} {n : Nat} (h : ∀ i, i < n → f i = g i) : tabI f n = tabI g n :=
  eq_of_gi (by rw [tabI_length, tabI_length]) fun k hk => by
    rw [tabI_length] at hk
    rw [gi_tabI hk, gi_tabI hk, h k hk]
/-- How far things are when the first i have been set anew. -/
def pM (xss : List (List Int)) (n k i : Nat) (j : Nat) : Int := if j < i then pF xss n (k + 1) j else pF xss n k j
theorem pM_next (xss : List (List Int)) (n k i j : Nat) : pM xss n k (i + 1) j = if j = i then pF xss n (k + 1) i else pM xss n k i j := by
  unfold pM
  by_cases e : j = i
  · subst e; rw [if_pos (by omega), if_pos rfl]
  · rw [if_neg e]
    by_cases h : j < i
    · rw [if_pos h, if_pos (by omega)]
    · rw [if_neg h, if_neg (by omega)]
theorem pF_range {xss : List (List Int)} {n k i : Nat} (hg : Gp xss) (hn : xss.length = n) (hk : k + 1 ≤ n) (hi : i < n) : 0 ≤ pF xss n k i ∧ pF xss n k i ≤ 40 := by
  obtain ⟨⟨a, ha, _, e⟩, _⟩ := (pi_all (xss := xss) (by omega) k hk).low i hi
  have h1 := gpm_nonneg hg (a := a) (b := i) (by omega) (by omega)
  have h2 := gm_small hg (a := a) (b := i) (by omega) (by omega)
  omega
theorem suF_range {f : Nat → Int} : ∀ k, (∀ i, i < k → 0 ≤ f i ∧ f i ≤ 40) → 0 ≤ suF f k ∧ suF f k ≤ 40 * (k : Int)
  | 0, _ => by simp [suF]
  | k + 1, h => by
    have := suF_range k fun i hi => h i (by omega)
    have := h k (by omega)
    rw [suF]
    omega

set_option maxHeartbeats 8000000 in
set_option maxRecDepth 100000 in
theorem treeLength_any (g cg : Nat) (H Cp : Nat → Nat) (xss : List (List Int)) (n : Nat) (z : Int) (w : World) (h : MatC w g H Cp xss) (hv : gpB xss = true) (hn : xss.length = n) (hz : suF (pc xss n) (n - 1) = z) :
    Calls Try.prog 17 #[.slice (some ⟨g, 0, none⟩) n cg] w fun e w' => e = .returned (.int .i64 z) ∧ Below w.heap.size w w' := by
  have hg := gp_of hv
  have n0 := hg.n0
  have n6 := hg.n6
  obtain ⟨N, hN⟩ : ∃ N, n = N + 1 := ⟨n - 1, by omega⟩
  have VG := Lib.hid (fun w (h : MatC w g H Cp xss) => hn ▸ hv ▸ validGaps_anyC g cg H Cp xss w h (by omega))
  have CL := Lib.hid (fun w (h : MatC w g H Cp xss) => (by
    have e : gl xss 0 = tabI (pF xss n 0) n := eq_of_gi (by rw [tabI_length, hg.len 0 (by omega), hn]) fun k hk => by
      rw [gi_tabI (by have := hg.len 0 (by omega); omega)]
      rfl
    have hl := hg.len 0 (by omega)
    have := clone_row (H 0) 0 (Cp 0) (gl xss 0) w (h.row (by omega)).2 (by omega) (by omega)
    rw [hl, hn] at this
    rw [e] at this
    exact this : Calls Try.prog 44 #[.slice (some ⟨H 0, 0, none⟩) n (Cp 0)] w fun e w' => ∃ g cap, e = .returned (.slice (some ⟨g, 0, none⟩) n cap) ∧ OwnI w' w.heap.size (.slice (some ⟨g, 0, none⟩) n cap) n (tabI (pF xss n 0) n) ∧ Below w.heap.size w w'))
  have CR := Lib.hid (fun (j : Nat) (hj : j < n) w (h : MatC w g H Cp xss) => (by
    have := (h.row (j := j) (by omega)).1
    rw [hg.len j (by omega), hn] at this
    exact this : w.cell? ⟨g, j, none⟩ = some (.slice (some ⟨H j, 0, none⟩) n (Cp j))))
  have CC := Lib.hid (fun (j i : Nat) (hj : j < n) (hi : i < n) w (h : MatC w g H Cp xss) => (by
    have := (h.row (j := j) (by omega)).2.cell i (by rw [hg.len j (by omega)]; omega)
    rw [Nat.zero_add] at this
    exact this : w.cell? ⟨H j, i, none⟩ = some (.int .i64 (gm xss j i))))
  have PA := Lib.hid (fun k (hk : k + 1 ≤ n) => pi_all (xss := xss) (n := n) (by omega) k hk)
  have FR := Lib.hid (fun k i (hk : k + 1 ≤ n) (hi : i < n) => pF_range hg hn hk hi)
  have SR := Lib.hid (fun k (hk : k + 1 ≤ n) => suF_range (f := pc xss n) k fun i hi => by
    have x := px_of (pi_all (xss := xss) (n := n) (by omega) i (by omega)) (by omega)
    exact pF_range hg hn (by omega) x.lt)
  have HM := Lib.hid h
  have HZ := Lib.hid hz
  have hmk := run_make_row' (P := Try.prog) 52 4 (.bool false) 1 Try.underlying52 infoB rfl .i64 .i64 n (by omega) (by omega)
  have HNN := Lib.hid hN
  have m6 : n ≤ 6 := by omega
  have nn : 0 < n := by omega
  have Q1 := Lib.hid (show IntKind.i64.wrap ((n : Int) - 1) = (N : Int) by rw [IntWalk.i64_in _ (by omega)]; omega)
  clear h hv hz hg hN n0 n6 hn
  go_enter Try.func17, Try.ntmps17
  go_upto_region 3 with (go_at_call 16; refine (VG.out _ HM.out).mono ?_; rintro e w1 ⟨rfl, b1⟩)
  have B1 := Lib.hid b1
  have z1 := b1.size
  have HM1 := Lib.hid (HM.out.below b1)
  have c0 := CR.out 0 (by omega) _ HM1.out
  clear b1
  go_upto_region 4 with (go_at_call 44; refine (CL.out _ HM1.out).mono ?_; rintro e w2 ⟨gF, cF, rfl, ho, b2⟩)
  obtain ⟨ko, hof⟩ := Blk.of_own ho
  have lF := ko.lt
  have z2 := b2.size
  go_upto_region 5 with fail
  obtain ⟨gI, hgI⟩ : ∃ g, w2.heap.size = g := ⟨_, rfl⟩
  rw [hgI]
  refine wp_abstract (fun W => Blk W gF 3 (ic (tabI (pF xss n 0) n)) ∧ Blk W gI 4 (bc (fun _ => false) n) ∧ w.heap.size ≤ gF ∧ gF < gI ∧ Below w.heap.size w W) ⟨ko.allocs _, Blk.made' _ hgI.symm (by rw [toList_madeCells_one]; unfold bc; rw [List.map_const', List.length_range]), by omega, by omega, by have := B1.out; (repeat' (first | (with_reducible exact Below.refl _ _) | (with_reducible assumption) | (with_reducible refine Below.drewN ?_ _) | (with_reducible refine Below.alloc ?_ ?_ _) | (with_reducible refine Below.drew ?_) | (with_reducible refine Below.setCell ?_ ?_ _) | (with_reducible refine Below.trans ?_ (Below.mono (by assumption) ?_)) | go_size | (with_reducible refine Nat.le_trans ?_ (Below.size (by assumption)))))⟩ ?_
  rintro w3 ⟨kF, kI, l1, l2, b3⟩
  have KF := Lib.hid kF
  have KI := Lib.hid kI
  have B3 := Lib.hid b3
  have z3 := b3.size
  have d0 := kI.cell (get_bc nn)
  have f0 := kI.frozen 0
  have NE : gF ≠ gI := by omega
  have NE' : gI ≠ gF := by omega
  clear kF kI b3 ho b2 ko hof lF z2 hgI HM1 c0 B1
  go_upto_region 6 with fail
  refine wp_abstract (fun W => Blk W gF 3 (ic (tabI (pF xss n 0) n)) ∧ Blk W gI 4 (bc (pI xss n 0) n) ∧ Below w.heap.size w W) ⟨KF.out.others NE', (bc_set (f := fun _ => false) (g := pI xss n 0) (n := n) (x := 0) (b := true) (fun i _ => by show (i == 0) = _; by_cases e : i = 0 <;> simp [e])) ▸ KI.out.set 0 _, B3.out.setCell (by show w.heap.size ≤ gI; omega) _⟩ ?_
  rintro w4 ⟨kF, kI, b4⟩
  have KF := Lib.hid kF
  have KI := Lib.hid kI
  have B4 := Lib.hid b4
  have z4 := b4.size
  clear kF kI b4 d0 f0 B3 z3
  have q1 := Q1.out
  go_wp2_with fail
  go_loopw [5, 24] (fun v5 v24 wr => ∃ k : Nat, k ≤ N ∧ v24 = .int .i64 k ∧ v5 = .int .i64 (suF (pc xss n) k) ∧ Blk wr gF 3 (ic (tabI (pF xss n k) n)) ∧ Blk wr gI 4 (bc (pI xss n k) n) ∧ Below w.heap.size w wr) (fun _ v24 _ => N - (intOf v24).toNat)
  case atStart => exact ⟨0, Nat.zero_le _, rfl, rfl, KF.out, KI.out, B4.out⟩
  case round =>
    clear KF KI B4
    clear q1
    obtain ⟨k, hk, rfl, rfl, kF, kI, b⟩ := hrel
    have KF := Lib.hid kF
    have KI := Lib.hid kI
    have BR := Lib.hid b
    have zr := b.size
    clear kF kI b
    by_cases hlt : k < N
    · have hkn : k + 1 < n := by have := HNN.out; omega
      have PK := Lib.hid (px_of (PA.out k (by omega)) hkn)
      have CF := Lib.hid (fun i (hi : i < n) => FR.out k i (by omega) hi)
      obtain ⟨f, hf⟩ : ∃ f, pF xss n k = f := ⟨_, rfl⟩
      obtain ⟨s, hs⟩ : ∃ f, pI xss n k = f := ⟨_, rfl⟩
      have HF := Lib.hid hf
      have HS := Lib.hid hs
      rw [hf] at KF CF
      rw [hs] at KI
      clear hf hs
      go_wp2_with fail
      go_loopw [6, 28] (fun v6 v28 wr' => ∃ d : Nat, d ≤ n ∧ v28 = .int .i64 d ∧ v6 = .int .i64 (pN f s d) ∧ Below wr.heap.size wr wr') (fun _ v28 _ => n - (intOf v28).toNat)
      case atStart => exact ⟨0, Nat.zero_le _, rfl, rfl, Below.refl _ _⟩
      case round =>
        rename_i wi
        obtain ⟨d, hd, rfl, rfl, bi⟩ := hrel
        obtain ⟨pat, p0, p2⟩ := pN_at f s d
        have KFi := Lib.hid (KF.out.below bi)
        have KIi := Lib.hid (KI.out.below bi)
        have BI := Lib.hid bi
        have zi := bi.size
        clear bi
        by_cases hld : d < n
        · have c1 := KIi.out.cell (get_bc (f := s) hld)
          have PS := Lib.hid (show pN f s (d + 1) = if s d = true then pN f s d else if pN f s d < 0 then (d : Int) else if f d < f (pN f s d).toNat then (d : Int) else pN f s d from rfl)
          obtain ⟨p, hp⟩ : ∃ p, pN f s d = p := ⟨_, rfl⟩
          rw [hp] at pat p0 p2 PS
          rw [hp]
          obtain ⟨t, ht⟩ : ∃ t, s d = t := ⟨_, rfl⟩
          rw [ht] at c1 PS
          clear ht hp
          cases t with
          | true =>
            have E := Lib.hid (show pN f s (d + 1) = p by rw [PS.out, if_pos rfl])
            clear PS p0 p2
            go_wp2_with fail
            go_quiet (fail)
            go_wp2_with fail
            go_roundw
            case rel => exact ⟨d + 1, by omega, by go_num, by rw [E.out], Below.drewN BI.out _⟩
            case measure => simp [intOf]; omega
          | false =>
            by_cases hneg : p < 0
            · have t1 : decide (p < 0) = true := decide_eq_true hneg
              have E := Lib.hid (show pN f s (d + 1) = (d : Int) by rw [PS.out, if_neg (by decide), if_pos hneg])
              clear PS p0 p2 hneg
              go_wp2_with fail
              go_quiet (fail)
              go_wp2_with fail
              go_roundw
              case rel => exact ⟨d + 1, by omega, by go_num, by rw [E.out], Below.drewN BI.out _⟩
              case measure => simp [intOf]; omega
            · obtain ⟨q, rfl⟩ : ∃ q : Nat, p = (q : Int) := ⟨p.toNat, by omega⟩
              obtain ⟨hq, _, _⟩ := p2 (by omega)
              rw [Int.toNat_natCast] at hq
              have t1 : decide ((q : Int) < 0) = false := decide_eq_false hneg
              have c2 := KFi.out.cell (get_ic (xs := tabI f n) (k := d) (by rw [tabI_length]; exact hld))
              have c3 := KFi.out.cell (get_ic (xs := tabI f n) (k := q) (by rw [tabI_length]; omega))
              rw [gi_tabI hld] at c2
              rw [gi_tabI (by omega)] at c3
              have hqn : q < n := by omega
              have PS := Lib.hid (show pN f s (d + 1) = if f d < f q then (d : Int) else (q : Int) by rw [PS.out, if_neg (by decide), if_neg hneg, Int.toNat_natCast])
              obtain ⟨x, hx⟩ : ∃ x, f d = x := ⟨_, rfl⟩
              obtain ⟨y, hy⟩ : ∃ x, f q = x := ⟨_, rfl⟩
              rw [hx] at c2 PS
              rw [hy] at c3 PS
              clear hx hy p0 p2 hneg pat
              by_cases hxy : x < y
              · have t2 : decide (x < y) = true := decide_eq_true hxy
                have E := Lib.hid (show pN f s (d + 1) = (d : Int) by rw [PS.out, if_pos hxy])
                clear PS hxy
                go_wp2_with fail
                go_quiet (fail)
                go_wp2_with fail
                go_roundw
                case rel => exact ⟨d + 1, by omega, by go_num, by rw [E.out], Below.drewN BI.out _⟩
                case measure => simp [intOf]; omega
              · have t2 : decide (x < y) = false := decide_eq_false hxy
                have E := Lib.hid (show pN f s (d + 1) = (q : Int) by rw [PS.out, if_neg hxy])
                clear PS hxy
                go_wp2_with fail
                go_quiet (fail)
                go_wp2_with fail
                go_roundw
                case rel => exact ⟨d + 1, by omega, by go_num, by rw [E.out], Below.drewN BI.out _⟩
                case measure => simp [intOf]; omega
        · obtain rfl : d = n := by omega
          obtain ⟨x, hx⟩ : ∃ x, px xss d k = x := ⟨_, rfl⟩
          have e1 : pN f s d = (x : Int) := by
            have h := PK.out.sg
            rw [← hx]
            unfold px
            rw [HF.out, HS.out] at h ⊢
            omega
          have hxn : x < d := by rw [← hx]; exact PK.out.lt
          have e2 : pc xss d k = f x := by rw [← hx, ← HF.out]; rfl
          have SU := Lib.hid (show suF (pc xss d) k + f x = suF (pc xss d) (k + 1) by rw [← e2]; rfl)
          have FN := Lib.hid (fun i => show (if f i ≤ gm xss x i then f i else gm xss x i) = pF xss d (k + 1) i by
            rw [pF_next, HF.out, hx]
            split <;> omega)
          have FI := Lib.hid (fun i => show pI xss d (k + 1) i = if i = x then true else s i by
            rw [pI_next, HS.out, hx]
            by_cases e : i = x <;> simp [e])
          have SRK := SR.out k (by omega)
          have CFX := CF.out x hxn
          rw [e1]
          have c1 := KIi.out.cell (get_bc (f := s) hxn)
          have f1 := KIi.out.frozen x
          have HMi := Lib.hid (HM.out.below (BR.out.trans (BI.out.mono zr)))
          have c2 := KFi.out.cell (get_ic (xs := tabI f d) (k := x) (by rw [tabI_length]; exact hxn))
          rw [gi_tabI hxn] at c2
          obtain ⟨fx, hfx⟩ : ∃ z, f x = z := ⟨_, rfl⟩
          rw [hfx] at c2 SU CFX
          clear e1 e2 hx p0 p2 pat hfx
          go_upto_region 18 with fail
          have k1 := KFi.out.others (v := .bool true) (a := ⟨gI, x, none⟩) NE'
          have k2 := KIi.out.set x (.bool true)
          rw [bc_set (g := pI xss d (k + 1)) (fun i _ => FI.out i)] at k2
          have TB := Lib.hid (tabI_congr (n := d) (f := f) (g := pM xss d k 0) fun i _ => by unfold pM; rw [if_neg (by omega), HF.out])
          rw [TB.out] at k1
          refine wp_abstract (fun W => Blk W gF 3 (ic (tabI (pM xss d k 0) d)) ∧ Blk W gI 4 (bc (pI xss d (k + 1)) d) ∧ Below w.heap.size w W) ⟨k1, k2, (BR.out.trans (BI.out.mono zr)).setCell (by show w.heap.size ≤ gI; omega) _⟩ ?_
          rintro w7 ⟨k1', k2', b7⟩
          have KF := Lib.hid k1'
          have KI := Lib.hid k2'
          have B7 := Lib.hid b7
          have z7 := b7.size
          clear k1 k2 k1' k2' b7 c1 f1 c2 KFi KIi BI BR zi HMi TB
          go_wp2_with fail
          go_loopw [64] (fun v64 wr' => ∃ i : Nat, i ≤ d ∧ v64 = .int .i64 i ∧ Blk wr' gF 3 (ic (tabI (pM xss d k i) d)) ∧ Blk wr' gI 4 (bc (pI xss d (k + 1)) d) ∧ Below w.heap.size w wr') (fun v64 _ => d - (intOf v64).toNat)
          case atStart => exact ⟨0, Nat.zero_le _, rfl, KF.out, KI.out, B7.out⟩
          case round =>
            clear KF KI B7 z7
            rename_i wj
            obtain ⟨i, hi, rfl, kF, kI, b⟩ := hrel
            have KF := Lib.hid kF
            have KI := Lib.hid kI
            have BJ := Lib.hid b
            have zj := b.size
            clear kF kI b
            by_cases hli : i < d
            · have c1 := KF.out.cell (get_ic (xs := tabI (pM xss d k i) d) (k := i) (by rw [tabI_length]; exact hli))
              have f1 := KF.out.frozen i
              rw [gi_tabI hli] at c1
              have e3 : pM xss d k i i = f i := by unfold pM; rw [if_neg (by omega), HF.out]
              rw [e3] at c1
              have HMj := Lib.hid (HM.out.below BJ.out)
              have c2 := CR.out x hxn _ HMj.out
              have c3 := CC.out x i hxn hli _ HMj.out
              have fn := FN.out i
              obtain ⟨u, hu⟩ : ∃ z, f i = z := ⟨_, rfl⟩
              obtain ⟨v, hv⟩ : ∃ z, gm xss x i = z := ⟨_, rfl⟩
              obtain ⟨m, hm⟩ : ∃ z, pF xss d (k + 1) i = z := ⟨_, rfl⟩
              rw [hu] at c1 fn
              rw [hv] at c3 fn
              rw [hm] at fn
              have m1 : (if v < u then v else u) = m := by rw [← fn]; split <;> split <;> omega
              have TB := Lib.hid (tab_set (f := pM xss d k i) (g := pM xss d k (i + 1)) (n := d) (x := i) (v := m) fun j _ => by rw [pM_next, hm])
              clear e3 hu hv hm HMj
              go_wp2_with fail
              (refine region_tail 15 (by kernel_rfl) (by kernel_rfl) ?_; simp only [List.take_succ_cons, List.take_zero, List.drop_succ_cons, List.drop_zero]; (repeat (go_big_quiet_step (fail))); refine wpQuiet_nil ?_)
              go_wp2_with fail
              go_roundw
              case rel => exact ⟨i + 1, by omega, by go_num, by rw [← TB.out]; exact (KF.out.set i _).drews, (KI.out.others NE).drews, Below.drewN (BJ.out.setCell (show w.heap.size ≤ (⟨gF, i, none⟩ : Addr).block from l1) (.int .i64 m)) 1⟩
              case measure => simp [intOf]; omega
            · obtain rfl : i = d := by omega
              have TB := Lib.hid (tabI_congr (n := i) (f := pM xss i k i) (g := pF xss i (k + 1)) fun j hj => by unfold pM; rw [if_pos hj])
              go_wp2_with fail
              go_roundw
              case rel => exact ⟨k + 1, by omega, by go_num, by rw [← SU.out], by rw [← TB.out]; exact KF.out, KI.out, BJ.out⟩
              case measure => simp [intOf]; omega
    · obtain rfl : k = N := by omega
      have E := Lib.hid (show suF (pc xss n) k = z by rw [← HZ.out, HNN.out]; rfl)
      rw [E.out]
      go_wp2_with fail
      go_ret
      exact ⟨rfl, BR.out⟩

end Go.Proofs.Ytclfjnoedcimiaa
