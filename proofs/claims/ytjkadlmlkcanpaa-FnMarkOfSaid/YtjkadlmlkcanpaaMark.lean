/- impl.MarkOf: the mark that most of the nearest numbers have. -/
import Derived.Test.YtjkadlmlkcanpaaCases
import Derived.Deep.DeepCutAuto
import Derived.Laws.EntriesVeiled
namespace Go.Proofs.Ytjkadlmlkcanpaa
open Go.RowKit

theorem get_tlI : ∀ (m i j : Nat), j < m → (tlI i m)[j]? = some ((i + j : Nat) : Int)
  | 0, _, _, h => absurd h (Nat.not_lt_zero _)
  | m + 1, i, 0, _ => by simp [tlI]
  | m + 1, i, j + 1, h => by
    have := get_tlI m (i + 1) j (by omega)
    simp only [tlI, List.getElem?_cons_succ, this]
    congr 1
    congr 1
    omega
theorem ic_tlI {cs : List Value} {n : Nat} (h1 : cs.length = n) (h2 : ∀ j, j < n → cs[j]? = some (.int .i64 (j : Int))) : cs = ic (tlI 0 n) := by
  apply List.ext_getElem?
  intro j
  by_cases hj : j < n
  · rw [h2 j hj]
    unfold ic
    rw [List.getElem?_map, get_tlI n 0 j hj]
    simp
  · rw [List.getElem?_eq_none (by omega), List.getElem?_eq_none (by rw [ic_length, tlI_length]; omega)]

set_option maxHeartbeats 4000000 in
theorem markOf_bad (b o c b' o' c' : Nat) (xs ws : List Int) (x k : Int) (w : World) (h : RowI w b o xs) (h' : RowI w b' o' ws) (hl : xs.length ≤ 1048576) (hl' : ws.length ≤ 1048576) (hv : mkB xs ws x k = false) :
    Calls Try.prog 30 #[.slice (some ⟨b, o, none⟩) xs.length c, .slice (some ⟨b', o', none⟩) ws.length c', .int .i64 x, .int .i64 k] w fun e w' => e = .returned (.int .i64 (-1)) ∧ Below w.heap.size w w' := by
  have H := Lib.hid h
  have H' := Lib.hid h'
  clear h h'
  unfold mkB at hv
  obtain ⟨t1, h1⟩ : ∃ t, vcB xs ws = t := ⟨_, rfl⟩
  obtain ⟨t2, h2⟩ : ∃ t, inB x (-200) 200 = t := ⟨_, rfl⟩
  rw [h1, h2] at hv
  have H1 := Lib.hid h1
  have H2 := Lib.hid h2
  have hB := Lib.hid (H.out.blk)
  have hB' := Lib.hid (H'.out.blk)
  clear h1 h2
  cases t1
  · clear hv
    go_enter Try.func30, Try.ntmps30
    go_wp2_with (go_at_call 55; refine (validCases_any b o c b' o' c' xs ws _ (H.out.below (by (repeat' (first | (with_reducible exact Below.refl _ _) | (with_reducible assumption) | (with_reducible refine Below.drewN ?_ _) | (with_reducible refine Below.alloc ?_ ?_ _) | (with_reducible refine Below.drew ?_) | (with_reducible refine Below.setCell ?_ ?_ _) | (with_reducible refine Below.trans ?_ (Below.mono (by assumption) ?_)) | go_size | (with_reducible refine Nat.le_trans ?_ (Below.size (by assumption))))))) (H'.out.below (by (repeat' (first | (with_reducible exact Below.refl _ _) | (with_reducible assumption) | (with_reducible refine Below.drewN ?_ _) | (with_reducible refine Below.alloc ?_ ?_ _) | (with_reducible refine Below.drew ?_) | (with_reducible refine Below.setCell ?_ ?_ _) | (with_reducible refine Below.trans ?_ (Below.mono (by assumption) ?_)) | go_size | (with_reducible refine Nat.le_trans ?_ (Below.size (by assumption))))))) hl hl').mono ?_; rintro e w1 ⟨rfl, hb1⟩; rw [H1.out])
    go_ret
    exact ⟨rfl, by (repeat' (first | (with_reducible exact Below.refl _ _) | (with_reducible assumption) | (with_reducible refine Below.drewN ?_ _) | (with_reducible refine Below.alloc ?_ ?_ _) | (with_reducible refine Below.drew ?_) | (with_reducible refine Below.setCell ?_ ?_ _) | (with_reducible refine Below.trans ?_ (Below.mono (by assumption) ?_)) | go_size | (with_reducible refine Nat.le_trans ?_ (Below.size (by assumption)))))⟩
  have hb1' : True := trivial
  cases t2
  · clear hv
    go_enter Try.func30, Try.ntmps30
    go_wp2_with (first
      | (go_at_call 55; refine (validCases_any b o c b' o' c' xs ws _ (H.out.below (by (repeat' (first | (with_reducible exact Below.refl _ _) | (with_reducible assumption) | (with_reducible refine Below.drewN ?_ _) | (with_reducible refine Below.alloc ?_ ?_ _) | (with_reducible refine Below.drew ?_) | (with_reducible refine Below.setCell ?_ ?_ _) | (with_reducible refine Below.trans ?_ (Below.mono (by assumption) ?_)) | go_size | (with_reducible refine Nat.le_trans ?_ (Below.size (by assumption))))))) (H'.out.below (by (repeat' (first | (with_reducible exact Below.refl _ _) | (with_reducible assumption) | (with_reducible refine Below.drewN ?_ _) | (with_reducible refine Below.alloc ?_ ?_ _) | (with_reducible refine Below.drew ?_) | (with_reducible refine Below.setCell ?_ ?_ _) | (with_reducible refine Below.trans ?_ (Below.mono (by assumption) ?_)) | go_size | (with_reducible refine Nat.le_trans ?_ (Below.size (by assumption))))))) hl hl').mono ?_; rintro e w1 ⟨rfl, hb1⟩; rw [H1.out]; have d1 := keepC hb1 (show (((w.alloc (.cells #[.slice (some ⟨b, o, none⟩) xs.length c] 22)).alloc (.cells #[.int .i64 x] 3))).cell? ⟨w.heap.size + 1, 0, none⟩ = some (.int .i64 x) by simp [go_sem]))
      | (go_at_call 56; refine (in_any _ _ _ _).mono ?_; rintro e w2 ⟨rfl, rfl⟩; rw [H2.out]))
    go_ret
    exact ⟨rfl, by (repeat' (first | (with_reducible exact Below.refl _ _) | (with_reducible assumption) | (with_reducible refine Below.drewN ?_ _) | (with_reducible refine Below.alloc ?_ ?_ _) | (with_reducible refine Below.drew ?_) | (with_reducible refine Below.setCell ?_ ?_ _) | (with_reducible refine Below.trans ?_ (Below.mono (by assumption) ?_)) | go_size | (with_reducible refine Nat.le_trans ?_ (Below.size (by assumption)))))⟩
  have H3 := Lib.hid (show inB k 1 xs.length = false by simpa using hv)
  clear hv
  go_enter Try.func30, Try.ntmps30
  go_wp2_with (first
    | (go_at_call 55; refine (validCases_any b o c b' o' c' xs ws _ (H.out.below (by (repeat' (first | (with_reducible exact Below.refl _ _) | (with_reducible assumption) | (with_reducible refine Below.drewN ?_ _) | (with_reducible refine Below.alloc ?_ ?_ _) | (with_reducible refine Below.drew ?_) | (with_reducible refine Below.setCell ?_ ?_ _) | (with_reducible refine Below.trans ?_ (Below.mono (by assumption) ?_)) | go_size | (with_reducible refine Nat.le_trans ?_ (Below.size (by assumption))))))) (H'.out.below (by (repeat' (first | (with_reducible exact Below.refl _ _) | (with_reducible assumption) | (with_reducible refine Below.drewN ?_ _) | (with_reducible refine Below.alloc ?_ ?_ _) | (with_reducible refine Below.drew ?_) | (with_reducible refine Below.setCell ?_ ?_ _) | (with_reducible refine Below.trans ?_ (Below.mono (by assumption) ?_)) | go_size | (with_reducible refine Nat.le_trans ?_ (Below.size (by assumption))))))) hl hl').mono ?_; rintro e w1 ⟨rfl, hb1⟩; rw [H1.out]; have d1 := keepC hb1 (show (((w.alloc (.cells #[.slice (some ⟨b, o, none⟩) xs.length c] 22)).alloc (.cells #[.int .i64 x] 3))).cell? ⟨w.heap.size + 1, 0, none⟩ = some (.int .i64 x) by simp [go_sem]); have d2 := keepC hb1 (show (((w.alloc (.cells #[.slice (some ⟨b, o, none⟩) xs.length c] 22)).alloc (.cells #[.int .i64 x] 3))).cell? ⟨w.heap.size, 0, none⟩ = some (.slice (some ⟨b, o, none⟩) xs.length c) by simp [go_sem]))
    | (go_at_call_of 56 x; refine (in_any _ _ _ _).mono ?_; rintro e w2 ⟨rfl, rfl⟩; rw [H2.out])
    | (go_at_call_of 56 k; refine (in_any _ _ _ _).mono ?_; rintro e w2 ⟨rfl, rfl⟩; rw [H3.out]))
  go_ret
  exact ⟨rfl, by (repeat' (first | (with_reducible exact Below.refl _ _) | (with_reducible assumption) | (with_reducible refine Below.drewN ?_ _) | (with_reducible refine Below.alloc ?_ ?_ _) | (with_reducible refine Below.drew ?_) | (with_reducible refine Below.setCell ?_ ?_ _) | (with_reducible refine Below.trans ?_ (Below.mono (by assumption) ?_)) | go_size | (with_reducible refine Nat.le_trans ?_ (Below.size (by assumption)))))⟩

set_option maxHeartbeats 8000000 in
theorem markOf_good (b o c b' o' c' : Nat) (xs ws : List Int) (x : Int) (kn : Nat) (w : World) (h : RowI w b o xs) (h' : RowI w b' o' ws) (hl : xs.length ≤ 1048576) (hl' : ws.length ≤ 1048576) (hv : mkB xs ws x kn = true) :
    Calls Try.prog 30 #[.slice (some ⟨b, o, none⟩) xs.length c, .slice (some ⟨b', o', none⟩) ws.length c', .int .i64 x, .int .i64 kn] w fun e w' => e = .returned (.int .i64 (if 2 * onesI xs ws x kn ≥ kn then 1 else 0)) ∧ Below w.heap.size w w' := by
  obtain ⟨r0, hr0⟩ : ∃ r0 : Int, (if 2 * onesI xs ws x kn ≥ kn then 1 else 0) = r0 := ⟨_, rfl⟩
  rw [hr0]
  have HR0 := Lib.hid hr0
  clear hr0
  simp only [mkB, Bool.and_eq_true] at hv
  obtain ⟨⟨hv1, hv2⟩, hv3⟩ := hv
  have H := Lib.hid h
  have H' := Lib.hid h'
  have H1 := Lib.hid hv1
  have H2 := Lib.hid hv2
  have H3 := Lib.hid hv3
  have HV := Lib.hid (vc_of hv1)
  have hx := inB_iff.1 hv2
  have hk2 := inB_iff.1 hv3
  have hB := Lib.hid (H.out.blk)
  have hB' := Lib.hid (H'.out.blk)
  have hn1 := HV.out.n0
  have hn10 := HV.out.n10
  obtain ⟨i0, hi, hz0, hz1, hz2⟩ := info_parts infoI
  clear h h' hv1 hv2 hv3
  go_enter Try.func30, Try.ntmps30
  go_wp2_with (first
    | (go_at_call 55; refine (validCases_any b o c b' o' c' xs ws _ (H.out.below (by (repeat' (first | (with_reducible exact Below.refl _ _) | (with_reducible assumption) | (with_reducible refine Below.drewN ?_ _) | (with_reducible refine Below.alloc ?_ ?_ _) | (with_reducible refine Below.drew ?_) | (with_reducible refine Below.setCell ?_ ?_ _) | (with_reducible refine Below.trans ?_ (Below.mono (by assumption) ?_)) | go_size | (with_reducible refine Nat.le_trans ?_ (Below.size (by assumption))))))) (H'.out.below (by (repeat' (first | (with_reducible exact Below.refl _ _) | (with_reducible assumption) | (with_reducible refine Below.drewN ?_ _) | (with_reducible refine Below.alloc ?_ ?_ _) | (with_reducible refine Below.drew ?_) | (with_reducible refine Below.setCell ?_ ?_ _) | (with_reducible refine Below.trans ?_ (Below.mono (by assumption) ?_)) | go_size | (with_reducible refine Nat.le_trans ?_ (Below.size (by assumption))))))) hl hl').mono ?_; rintro e w1 ⟨rfl, hb1⟩; rw [H1.out]; have d1 := keepC hb1 (show (((w.alloc (.cells #[.slice (some ⟨b, o, none⟩) xs.length c] 22)).alloc (.cells #[.int .i64 x] 3))).cell? ⟨w.heap.size + 1, 0, none⟩ = some (.int .i64 x) by simp [go_sem]); have d2 := keepC hb1 (show (((w.alloc (.cells #[.slice (some ⟨b, o, none⟩) xs.length c] 22)).alloc (.cells #[.int .i64 x] 3))).cell? ⟨w.heap.size, 0, none⟩ = some (.slice (some ⟨b, o, none⟩) xs.length c) by simp [go_sem]))
    | (go_at_call_of 56 x; refine (in_any _ _ _ _).mono ?_; rintro e w2 ⟨rfl, rfl⟩; rw [H2.out])
    | (go_at_call_of 56 (kn : Int); refine (in_any _ _ _ _).mono ?_; rintro e w2 ⟨rfl, rfl⟩; rw [H3.out])
    | (at_make; refine wpList_make_full _ rfl _ _ 22 rfl w1.heap.size 3 i0 (.int .i64 0) 1 Try.underlying22 hi hz0 hz1 .i64 .i64 _ _ xs.length rfl rfl rfl rfl (by rw [hz2]; omega) (by unfold maxLen; omega) (by simp) ?_; intro w2 o2 g2))
  have hbk := (Blk.of_own o2).1
  have hb2 : Below w1.heap.size w1 w2 := (Below.refl _ _).grown g2 (Nat.le_refl _) (fun k hk => by cases hk)
  obtain ⟨cs0, hcs0⟩ : ∃ cs, (madeCells (Value.int .i64 0).cells (xs.length * 1)).toList = cs := ⟨_, rfl⟩
  have hcl : cs0.length = xs.length := by rw [← hcs0, Array.length_toList, size_madeCells, Nat.mul_one]
  rw [hcs0] at hbk
  have e1 := keepC hb2 d1
  have e2 := keepC hb2 d2
  have hz1' : w.heap.size + 2 ≤ w1.heap.size := by have := hb1.size; simpa using this
  have hbw : Below w.heap.size w w2 := (show Below w.heap.size w w1 by (repeat' (first | (with_reducible exact Below.refl _ _) | (with_reducible assumption) | (with_reducible refine Below.drewN ?_ _) | (with_reducible refine Below.alloc ?_ ?_ _) | (with_reducible refine Below.drew ?_) | (with_reducible refine Below.setCell ?_ ?_ _) | (with_reducible refine Below.trans ?_ (Below.mono (by assumption) ?_)) | go_size | (with_reducible refine Nat.le_trans ?_ (Below.size (by assumption)))))).trans (hb2.mono (by omega))
  have HBK := Lib.hid hbk
  have HBW := Lib.hid hbw
  have HCL := Lib.hid hcl
  have HE1 := Lib.hid e1
  have HE2 := Lib.hid e2
  clear o2 g2 hbk hbw hb1 hb2 d1 d2 hcl hcs0 hi hz0 hz1 hz2 e1 e2
  go_loopw [36] (fun v10 wr => ∃ k : Nat, k ≤ xs.length ∧ v10 = .int .i64 k ∧ (∃ cs : List Value, cs.length = xs.length ∧ (∀ j, j < k → cs[j]? = some (.int .i64 (j : Int))) ∧ Blk wr w1.heap.size 3 cs) ∧ wr.cell? ⟨w.heap.size, 0, none⟩ = some (.slice (some ⟨b, o, none⟩) xs.length c) ∧ wr.cell? ⟨w.heap.size + 1, 0, none⟩ = some (.int .i64 x) ∧ Below w.heap.size w wr)
    (fun v10 _ => xs.length - (intOf v10).toNat)
  case atStart => exact ⟨0, Nat.zero_le _, rfl, ⟨cs0, HCL.out, fun j hj => absurd hj (Nat.not_lt_zero _), HBK.out⟩, HE2.out, HE1.out, HBW.out⟩
  case round =>
    clear HBK HBW HCL HE1 HE2
    obtain ⟨k, hk, rfl, ⟨cs, hc1, hc2, hc3⟩, hp, hq, hb⟩ := hrel
    have X1 := Lib.hid hc1
    have X2 := Lib.hid hc2
    have X3 := Lib.hid hc3
    have HP := Lib.hid hp
    have HQ := Lib.hid hq
    have HB := Lib.hid hb
    have l3 := hc3.lt
    by_cases hlt : k < xs.length
    · obtain ⟨u, hu⟩ : ∃ u, cs[k]? = some u := ⟨cs[k]'(by omega), List.getElem?_eq_getElem _⟩
      have x1 := hc3.cell hu
      have f1 := hc3.frozen k
      clear hc1 hc2 hc3 hu hp hq hb
      go_wp2_with fail
      go_roundw
      case rel =>
        have hl := X1.out
        refine ⟨k + 1, by omega, by go_num, ⟨cs.set k (.int .i64 (k : Int)), by rw [List.length_set]; exact hl, fun j hj => ?_, X3.out.set _ _⟩, ?_, ?_, HB.out.setCell (by simp; omega) _⟩
        · by_cases e : j = k
          · subst e; rw [List.getElem?_set_self (by omega)]
          · rw [List.getElem?_set_ne (fun h => e h.symm)]; exact X2.out j (by omega)
        · rw [World.cell?_of_block (a := ⟨w.heap.size, 0, none⟩) (Below.heap_setCell wr ⟨w1.heap.size, k, none⟩ _ w.heap.size (by simp; omega))]
          exact HP.out
        · rw [World.cell?_of_block (a := ⟨w.heap.size + 1, 0, none⟩) (Below.heap_setCell wr ⟨w1.heap.size, k, none⟩ _ (w.heap.size + 1) (by simp; omega))]
          exact HQ.out
      case measure => simp [intOf]; omega
    · have hkn : k = xs.length := by omega
      have hcs : cs = ic (tlI 0 xs.length) := ic_tlI hc1 (fun j hj => hc2 j (by omega))
      rw [hcs] at hc3
      have X4 := Lib.hid hc3
      clear hc1 hc2 hc3 hcs hkn hp hq hb X1 X2 X3
      have hcmp : CmpByMark (wr.alloc (.cells #[.func (.func 57) #[] #[.pointer (some ⟨w.heap.size, 0, none⟩), .pointer (some ⟨w.heap.size + 1, 0, none⟩)]] 41)) w1.heap.size wr.heap.size xs.length (keyOf (farL xs x)) := fun w' hg i j hi hj => by
        have hs := hg.size
        simp only [World.size_alloc] at hs
        have hzr := HB.out.size
        have hbk : ∀ k, k < wr.heap.size → k ≠ w1.heap.size → w'.heap[k]? = wr.heap[k]? := fun k hk hne => by
          rw [hg.block k (by simp; omega) (fun e => hne (Option.some.inj e))]
          exact (below_alloc (W := wr)).block k hk
        have hr' : RowI w' b o xs := by
          have hr := H.out.below HB.out
          exact ⟨by have := hr.blk; omega, fun k hk => by
            rw [World.cell?_of_block (a := ⟨b, o + k, none⟩) (hbk b hr.blk (by have := hB.out; omega))]
            exact hr.cell k hk⟩
        have hp' : w'.cell? ⟨w.heap.size, 0, none⟩ = some (.slice (some ⟨b, o, none⟩) xs.length c) := by
          rw [World.cell?_of_block (a := ⟨w.heap.size, 0, none⟩) (hbk w.heap.size (World.block_lt_of_cell? wr ⟨w.heap.size, 0, none⟩ HP.out) (by omega))]
          exact HP.out
        have hq' : w'.cell? ⟨w.heap.size + 1, 0, none⟩ = some (.int .i64 x) := by
          rw [World.cell?_of_block (a := ⟨w.heap.size + 1, 0, none⟩) (hbk (w.heap.size + 1) (World.block_lt_of_cell? wr ⟨w.heap.size + 1, 0, none⟩ HQ.out) (by omega))]
          exact HQ.out
        have hf' : w'.cell? ⟨wr.heap.size, 0, none⟩ = some (.func (.func 57) #[] #[.pointer (some ⟨w.heap.size, 0, none⟩), .pointer (some ⟨w.heap.size + 1, 0, none⟩)]) := by
          rw [World.cell?_of_block (a := ⟨wr.heap.size, 0, none⟩) (hg.block wr.heap.size (by simp) (fun e => by have := Option.some.inj e; omega))]
          simp [go_sem]
        have e1 : keyOf (farL xs x) (i : Int) = farI xs x i := gi_tabI hi
        have e2 : keyOf (farL xs x) (j : Int) = farI xs x j := gi_tabI hj
        rw [e1, e2]
        exact markLit_any b o c w.heap.size (w.heap.size + 1) wr.heap.size i j xs x w' hr' hp' hq' hf' hi hj HV.out.x hx
      have HS := Lib.hid (sortStableMark w1.heap.size xs.length xs.length wr.heap.size (keyOf (farL xs x)) _ (X4.out.below below_alloc) (by omega) hn1 hcmp)
      clear hcmp
      have hk1 : (kn : Int) ≤ (xs.length : Int) := hk2.2
      have hk0 : (0 : Int) ≤ (kn : Int) := by omega
      go_wp2_with (go_at_call 58; refine HS.out.mono ?_; rintro e w5 ⟨rfl, hb5, hg5⟩; have HB5 := Lib.hid hb5; have HBW5 := Lib.hid (show Below w.heap.size w w5 from (HB.out.alloc HB.out.size _).grown hg5 (by have := HB.out.size; simp; omega) (fun k hk => by cases hk; omega)); clear hb5 hg5)
      go_loop [12, 52] (fun v12 v52 => ∃ j : Nat, j ≤ kn ∧ v52 = .int .i64 j ∧ v12 = .int .i64 (onesI xs ws x j)) (fun _ v52 => kn - (intOf v52).toNat)
      case atStart => exact ⟨0, Nat.zero_le _, rfl, rfl⟩
      case round =>
        obtain ⟨j, hj, rfl, rfl⟩ := hrel
        have ho := onesI_bd (x := x) HV.out j (by omega)
        by_cases hjk : j < kn
        · obtain ⟨m, hm, he⟩ := nearL_at (xs := xs) (x := x) (j := j) (by omega)
          have hml : m < ws.length := by rw [HV.out.len]; exact hm
          have c1 := HB5.out.row.cell j (by rw [ordK_length]; omega)
          have he' : gi (ordK (keyOf (farL xs x)) xs.length) j = (m : Int) := he
          rw [he', Nat.zero_add] at c1
          have c2 := (H'.out.below HBW5.out).cell m hml
          have hst : onesI xs ws x (j + 1) = onesI xs ws x j + gi ws m := by rw [onesI, he, Int.toNat_natCast]
          have hm2 := HV.out.m m hml
          obtain ⟨y, hy⟩ : ∃ y, gi ws m = y := ⟨_, rfl⟩
          obtain ⟨s, hs⟩ : ∃ s, onesI xs ws x j = s := ⟨_, rfl⟩
          rw [hy] at c2 hm2 hst
          rw [hs] at ho hst ⊢
          have HST := Lib.hid hst
          have q1 : (j : Int) < (kn : Int) := by omega
          have q2 : (m : Int) < (ws.length : Int) := by omega
          have q3 : IntKind.i64.wrap (s + y) = s + y := IntWalk.i64_in _ (by omega)
          clear he he' hy hs hst
          go_wp2_with fail
          go_round
          case rel => exact ⟨j + 1, by omega, by go_num, by rw [HST.out]⟩
          case measure => simp [intOf]; omega
        · have hjk2 : j = kn := by omega
          have HJ := Lib.hid hjk2
          have q1 : ¬ ((j : Int) < (kn : Int)) := by omega
          obtain ⟨s, hs⟩ : ∃ s, onesI xs ws x j = s := ⟨_, rfl⟩
          have hs2 : onesI xs ws x kn = s := by rw [← hs, hjk2]
          rw [hs] at ho ⊢
          have HS2 := Lib.hid hs2
          have q3 : IntKind.i64.wrap (2 * s) = 2 * s := IntWalk.i64_in _ (by omega)
          clear hjk2 hs hs2
          cases hd : decide ((kn : Int) ≤ 2 * s) with
          | true =>
            go_wp2_with fail
            go_ret
            exact ⟨by rw [← HR0.out, HS2.out, if_pos (of_decide_eq_true hd)]; rfl, HBW5.out⟩
          | false =>
            go_wp2_with fail
            go_ret
            exact ⟨by rw [← HR0.out, HS2.out, if_neg (of_decide_eq_false hd)]; rfl, HBW5.out⟩

theorem markOf_any (b o c b' o' c' : Nat) (xs ws : List Int) (x k : Int) (w : World) (h : RowI w b o xs) (h' : RowI w b' o' ws) (hl : xs.length ≤ 1048576) (hl' : ws.length ≤ 1048576) :
    Calls Try.prog 30 #[.slice (some ⟨b, o, none⟩) xs.length c, .slice (some ⟨b', o', none⟩) ws.length c', .int .i64 x, .int .i64 k] w fun e w' => e = .returned (.int .i64 (markV xs ws x k)) ∧ Below w.heap.size w w' := by
  cases hv : mkB xs ws x k with
  | false => simpa [markV, hv] using markOf_bad b o c b' o' c' xs ws x k w h h' hl hl' hv
  | true =>
    have h1 : inB k 1 xs.length = true := by simp only [mkB, Bool.and_eq_true] at hv; exact hv.2
    have h2 := inB_iff.1 h1
    obtain ⟨kn, rfl⟩ : ∃ kn : Nat, k = kn := ⟨k.toNat, by omega⟩
    have := markOf_good b o c b' o' c' xs ws x kn w h h' hl hl' hv
    simpa [markV, hv] using this

end Go.Proofs.Ytjkadlmlkcanpaa
