/- The laws' own small functions: rows that they make, and sums. -/
import Derived.Test.YtcmbfkdhfdiamaaSmall2
import Derived.Test.YtcmbfkdhfdiamaaMinMax
import Derived.Test.YtcmbfkdhfdiamaaTail
import Derived.Deep.DeepCutAuto
namespace Go.Proofs.Ytcmbfkdhfdiamaa
open Go.RowKit

/-- The list of a function's integers up to n. -/
def tabI (f : Nat → Int) (n : Nat) : List Int := (List.range n).map f
theorem tabI_length (f : Nat → Int) (n : Nat) : (tabI f n).length = n := by simp [tabI]
theorem tabI_succ (f : Nat → Int) (n : Nat) : tabI f (n + 1) = tabI f n ++ [f n] := by simp [tabI, List.range_succ]
theorem gi_tabI {f : Nat → Int} {n k : Nat} (h : k < n) : gi (tabI f n) k = f k := by unfold gi tabI; simp [h]
theorem eq_of_gi {xs ys : List Int} (hl : xs.length = ys.length) (h : ∀ k, k < xs.length → gi xs k = gi ys k) : xs = ys := by
  apply List.ext_getElem hl
  intro k h1 h2
  have := h k h1
  rwa [gi_eq h1, gi_eq h2] at this

theorem OwnI.empty (w : World) (base : Nat) (hb : base ≤ w.heap.size) (cur : Array Value) (hc : cur.size = 0) : OwnI (w.alloc (.cells cur 3)) base (.slice (some ⟨w.heap.size, 0, none⟩) 0 0) 0 [] :=
  World.ownsRow_made w cur 0 hb (by unfold maxLen; omega) (by omega)

set_option maxHeartbeats 1000000 in
theorem turned_any (b o c : Nat) (xs : List Int) (w : World) (h : RowI w b o xs) (hl : xs.length ≤ 1048576) :
    Calls Try.prog 32 #[.slice (some ⟨b, o, none⟩) xs.length c] w fun e w' => ∃ v, e = .returned v ∧ OwnI w' w.heap.size v xs.length (tabI (fun j => gi xs (xs.length - 1 - j)) xs.length) ∧ Below w.heap.size w w' := by
  have H := Lib.hid h
  clear h
  obtain ⟨f, hf⟩ : ∃ f, (fun j => gi xs (xs.length - 1 - j)) = f := ⟨_, rfl⟩
  have hfj : ∀ j, j < xs.length → f j = gi xs (xs.length - 1 - j) := fun j _ => by rw [← hf]
  rw [hf]
  have HF := Lib.hid hfj
  clear hf hfj
  go_enter Try.func32, Try.ntmps32
  go_wp2_with fail
  go_loopw [3, 4] (fun v3 v4 wr => ∃ k : Nat, k ≤ xs.length ∧ v4 = .int .i64 ((xs.length : Int) - 1 - k) ∧ OwnI wr w.heap.size v3 k (tabI f k) ∧ Below w.heap.size w wr) (fun _ v4 _ => (intOf v4 + 1).toNat)
  case atStart => exact ⟨0, Nat.zero_le _, by go_num, OwnI.empty _ _ (Nat.le_refl _) _ rfl, by (repeat' (first | (with_reducible exact Below.refl _ _) | (with_reducible assumption) | (with_reducible refine Below.drewN ?_ _) | (with_reducible refine Below.alloc ?_ ?_ _) | (with_reducible refine Below.drew ?_) | (with_reducible refine Below.setCell ?_ ?_ _) | (with_reducible refine Below.trans ?_ (Below.mono (by assumption) ?_)) | go_size | (with_reducible refine Nat.le_trans ?_ (Below.size (by assumption)))))⟩
  case round =>
    obtain ⟨k, hk, rfl, hown, hb⟩ := hrel
    have HO := Lib.hid hown
    clear hown
    have hz := hb.size
    by_cases hlt : k < xs.length
    · obtain ⟨x, hx⟩ : ∃ x, xs.length - 1 - k = x := ⟨_, rfl⟩
      have hxi : ((xs.length : Int) - 1 - k) = (x : Int) := by omega
      rw [hxi]
      have c1 := (H.out.below hb).cell x (by omega)
      have hfk : f k = gi xs x := by rw [HF.out k hlt, hx]
      have HFK := Lib.hid hfk
      have hxl : x < xs.length := by omega
      have HX := Lib.hid hx
      clear hfk hxi hx
      go_wp2_with (at_builtin; refine wpList_app1 rfl (.tmp 13) (.tmp 18) 23 rfl w.heap.size 3 (.int .i64 0) 1 8 Try.underlying23 infoI rfl (by decide) (by decide) _ _ _ rfl (World.ownsRow.alloc HO.out _) ⟨wr.heap.size, 0, none⟩ 1 [.int .i64 (gi xs x)] rfl rfl (cell_one_new _ _ _) (by simp [Value.oneCell']) (by omega) (by simp; omega) ?_; intro g2 cap2 w4 o1 o2 o3)
      go_roundw
      case rel =>
        exact ⟨k + 1, by omega, by have := HX.out; go_num, by rw [tabI_succ, HFK.out]; exact OwnI.app o1, (hb.alloc hz _).trans (Below.app (World.ownsRow.alloc HO.out _) (by simp; omega) o2)⟩
      case measure => simp [intOf]
    · have hkn : k = xs.length := by omega
      have HK := Lib.hid hkn
      clear hkn
      go_wp2_with fail
      go_ret
      exact ⟨_, rfl, by have := HO.out; rw [HK.out] at this; exact this, hb⟩

set_option maxHeartbeats 1000000 in
theorem negated_any (b o c : Nat) (xs : List Int) (w : World) (h : RowI w b o xs) (hl : xs.length ≤ 1048576) (hx : ∀ k, k < xs.length → -1000000 ≤ gi xs k ∧ gi xs k ≤ 1000000) :
    Calls Try.prog 31 #[.slice (some ⟨b, o, none⟩) xs.length c] w fun e w' => ∃ v, e = .returned v ∧ OwnI w' w.heap.size v xs.length (tabI (fun j => - gi xs j) xs.length) ∧ Below w.heap.size w w' := by
  have H := Lib.hid h
  have HX := Lib.hid hx
  clear h hx
  obtain ⟨f, hf⟩ : ∃ f, (fun j => - gi xs j) = f := ⟨_, rfl⟩
  have hfj : ∀ j, f j = - gi xs j := fun j => by rw [← hf]
  rw [hf]
  have HF := Lib.hid hfj
  clear hf hfj
  go_enter Try.func31, Try.ntmps31
  go_wp2_with fail
  go_loopw [3, 4] (fun v3 v4 wr => ∃ k : Nat, k ≤ xs.length ∧ v4 = .int .i64 k ∧ OwnI wr w.heap.size v3 k (tabI f k) ∧ Below w.heap.size w wr) (fun _ v4 _ => xs.length - (intOf v4).toNat)
  case atStart => exact ⟨0, Nat.zero_le _, rfl, OwnI.empty _ _ (Nat.le_refl _) _ rfl, by (repeat' (first | (with_reducible exact Below.refl _ _) | (with_reducible assumption) | (with_reducible refine Below.drewN ?_ _) | (with_reducible refine Below.alloc ?_ ?_ _) | (with_reducible refine Below.drew ?_) | (with_reducible refine Below.setCell ?_ ?_ _) | (with_reducible refine Below.trans ?_ (Below.mono (by assumption) ?_)) | go_size | (with_reducible refine Nat.le_trans ?_ (Below.size (by assumption)))))⟩
  case round =>
    obtain ⟨k, hk, rfl, hown, hb⟩ := hrel
    have HO := Lib.hid hown
    clear hown
    have hz := hb.size
    by_cases hlt : k < xs.length
    · have c1 := (H.out.below hb).cell k hlt
      have hfk := HF.out k
      have bx := HX.out k hlt
      obtain ⟨x, hx⟩ : ∃ x, gi xs k = x := ⟨_, rfl⟩
      rw [hx] at c1 hfk bx
      have HFK := Lib.hid hfk
      have q1 : IntKind.i64.wrap (-x) = -x := IntWalk.i64_in _ (by omega)
      clear hfk hx
      go_wp2_with (at_builtin; refine wpList_app1 rfl (.tmp 12) (.tmp 18) 23 rfl w.heap.size 3 (.int .i64 0) 1 8 Try.underlying23 infoI rfl (by decide) (by decide) _ _ _ rfl (World.ownsRow.alloc HO.out _) ⟨wr.heap.size, 0, none⟩ 1 [.int .i64 (-x)] rfl rfl (cell_one_new _ _ _) (by simp [Value.oneCell']) (by omega) (by simp; omega) ?_; intro g2 cap2 w4 o1 o2 o3)
      go_roundw
      case rel =>
        exact ⟨k + 1, by omega, by go_num, by rw [tabI_succ, HFK.out]; exact OwnI.app o1, (hb.alloc hz _).trans (Below.app (World.ownsRow.alloc HO.out _) (by simp; omega) o2)⟩
      case measure => simp [intOf]; omega
    · have hkn : k = xs.length := by omega
      have HK := Lib.hid hkn
      clear hkn
      go_wp2_with fail
      go_ret
      exact ⟨_, rfl, by have := HO.out; rw [HK.out] at this; exact this, hb⟩

set_option maxHeartbeats 1000000 in
theorem rising_true (g c n : Nat) (fs : List Rat) (w : World) (h : Blk w g 29 (fc fs)) (hn : fs.length = n) (hl : n ≤ 1048576) (hs : SmAll 1200 40 fs) (hr : ∀ k, k + 1 < n → gq fs k ≤ gq fs (k + 1)) :
    Calls Try.prog 52 #[.slice (some ⟨g, 0, none⟩) n c] w fun e w' => e = .returned (.bool true) ∧ Below w.heap.size w w' := by
  have H := Lib.hid h
  have HN := Lib.hid hn
  have HS := Lib.hid hs
  have HR := Lib.hid hr
  clear h hn hs hr
  go_enter Try.func52, Try.ntmps52
  go_wp2_with fail
  go_loopw [3] (fun v3 wr => ∃ k : Nat, k ≤ n ∧ v3 = .int .i64 ((k + 1 : Nat) : Int) ∧ Below w.heap.size w wr) (fun v3 _ => n + 1 - (intOf v3).toNat)
  case atStart => exact ⟨0, Nat.zero_le _, rfl, Below.refl _ _⟩
  case round =>
    obtain ⟨k, hk, rfl, hb⟩ := hrel
    by_cases hlt : k + 1 < n
    · have hb0 := H.out.below hb
      have c1 := hb0.f0 (k := k) (by rw [HN.out]; omega)
      have c2 := hb0.f1 (k := k) (by rw [HN.out]; omega)
      have c3 := hb0.f0 (k := k + 1) (by rw [HN.out]; omega)
      have c4 := hb0.f1 (k := k + 1) (by rw [HN.out]; omega)
      have s1 := HS.out k (by rw [HN.out]; omega)
      have s2 := HS.out (k + 1) (by rw [HN.out]; omega)
      have s3 := sm_mul s2 s1
      have hle := HR.out k hlt
      obtain ⟨p, hp⟩ : ∃ p, gq fs k = p := ⟨_, rfl⟩
      obtain ⟨q, hq⟩ : ∃ q, gq fs (k + 1) = q := ⟨_, rfl⟩
      rw [hp] at c1 c2 s1 s3 hle
      rw [hq] at c3 c4 s2 s3 hle
      have hd : decide (q < p) = false := by rw [decide_eq_false_iff_not]; grind
      have LW := Lib.hid (fun w => lessOf_any q p w (by omega))
      have q1 : IntKind.i64.wrap (((k + 1 : Nat) : Int) - 1) = (k : Int) := by rw [IntWalk.i64_in _ (by omega)]; omega
      have HB := Lib.hid hb
      clear s1 s2 s3 hle hp hq hb0 hb
      obtain ⟨ι, W, hW0, hWm, hWb⟩ := good_worlds wr
      have hWn : Nonempty ι := hW0.elim fun i _ => ⟨i⟩
      have y1 : ∀ i, (W i).cell? ⟨g, k * 2, none⟩ = some (.int .i64 (up p)) := fun i => keepC (hWb i) c1
      have y2 : ∀ i, (W i).cell? ⟨g, k * 2 + 1, none⟩ = some (.int .i64 (dn p)) := fun i => keepC (hWb i) c2
      have y3 : ∀ i, (W i).cell? ⟨g, (k + 1) * 2, none⟩ = some (.int .i64 (up q)) := fun i => keepC (hWb i) c3
      have y4 : ∀ i, (W i).cell? ⟨g, (k + 1) * 2 + 1, none⟩ = some (.int .i64 (dn q)) := fun i => keepC (hWb i) c4
      go_upto_region 4 with fail
      (refine region_quiet_tail (C := fun w' => ∃ i, w' = W i) 9 (by kernel_rfl) (by kernel_rfl) hW0 ?_; simp only [List.take_succ_cons, List.take_zero, List.drop_succ_cons, List.drop_zero]; (repeat (go_big_quiet_step (fail))); refine wpQuiet_nil ?_; rintro _ ⟨iw, rfl⟩)
      go_wp2_with (go_at_call 20; refine (LW.out _).mono ?_; rintro e w6 ⟨rfl, hb6⟩)
      go_roundw
      case rel => exact ⟨k + 1, by omega, by go_num, HB.out.trans (((hWb iw).trans (hb6.mono (hWb iw).size)).mono HB.out.size)⟩
      case measure => simp [intOf]; omega
    · go_wp2_with fail
      go_ret
      exact ⟨rfl, hb⟩

/-- The greatest numbers so far. -/
def topI (xs : List Int) : Nat → Int
  | 0 => gi xs 0
  | k + 1 => max (gi xs (k + 1)) (topI xs k)
set_option maxHeartbeats 1000000 in
theorem tops_any (b o c : Nat) (xs : List Int) (w : World) (h : RowI w b o xs) (hl : xs.length ≤ 1048576) :
    Calls Try.prog 50 #[.slice (some ⟨b, o, none⟩) xs.length c] w fun e w' => ∃ v, e = .returned v ∧ OwnI w' w.heap.size v xs.length (tabI (topI xs) xs.length) ∧ Below w.heap.size w w' := by
  have H := Lib.hid h
  clear h
  obtain ⟨f, hf⟩ : ∃ f, topI xs = f := ⟨_, rfl⟩
  have hf0 : f 0 = gi xs 0 := by rw [← hf]; rfl
  have hfj : ∀ j, f (j + 1) = max (gi xs (j + 1)) (f j) := fun j => by rw [← hf]; rfl
  rw [hf]
  have HF := Lib.hid hfj
  have HF0 := Lib.hid hf0
  clear hf hfj hf0
  go_enter Try.func50, Try.ntmps50
  go_wp2_with fail
  go_loopw [3, 4] (fun v3 v4 wr => ∃ k : Nat, k ≤ xs.length ∧ v4 = .int .i64 k ∧ OwnI wr w.heap.size v3 k (tabI f k) ∧ Below w.heap.size w wr) (fun _ v4 _ => xs.length - (intOf v4).toNat)
  case atStart => exact ⟨0, Nat.zero_le _, rfl, OwnI.empty _ _ (Nat.le_refl _) _ rfl, by (repeat' (first | (with_reducible exact Below.refl _ _) | (with_reducible assumption) | (with_reducible refine Below.drewN ?_ _) | (with_reducible refine Below.alloc ?_ ?_ _) | (with_reducible refine Below.drew ?_) | (with_reducible refine Below.setCell ?_ ?_ _) | (with_reducible refine Below.trans ?_ (Below.mono (by assumption) ?_)) | go_size | (with_reducible refine Nat.le_trans ?_ (Below.size (by assumption)))))⟩
  case round =>
    obtain ⟨k, hk, rfl, hown, hb⟩ := hrel
    have HO := Lib.hid hown
    clear hown
    have hz := hb.size
    by_cases hlt : k < xs.length
    · have c1 := (H.out.below hb).cell k hlt
      by_cases hk0 : k = 0
      · have hfk : f k = gi xs k := by rw [hk0]; exact HF0.out
        obtain ⟨x, hx⟩ : ∃ x, gi xs k = x := ⟨_, rfl⟩
        rw [hx] at c1 hfk
        have HFK := Lib.hid hfk
        have hd : decide ((0 : Int) < (k : Int)) = false := by simpa using hk0
        have hd2 : decide (0 < k) = false := by simpa using hk0
        clear hk0
        clear hfk hx
        go_wp2_with (at_builtin; refine wpList_app1 rfl (.tmp 26) (.tmp 28) 23 rfl w.heap.size 3 (.int .i64 0) 1 8 Try.underlying23 infoI rfl (by decide) (by decide) _ _ _ rfl (World.ownsRow.alloc HO.out _) ⟨wr.heap.size, 0, none⟩ 1 [.int .i64 x] rfl rfl (cell_one_new _ _ _) (by simp [Value.oneCell']) (by omega) (by simp; omega) ?_; intro g2 cap2 w4 o1 o2 o3)
        go_roundw
        case rel =>
          exact ⟨k + 1, by omega, by go_num, by rw [tabI_succ, HFK.out]; exact OwnI.app o1, (hb.alloc hz _).trans (Below.app (World.ownsRow.alloc HO.out _) (by simp; omega) o2)⟩
        case measure => simp [intOf]; omega
      · obtain ⟨j, rfl⟩ : ∃ j, k = j + 1 := ⟨k - 1, by omega⟩
        have hfk := HF.out j
        obtain ⟨g, cap, rfl, hg⟩ := HO.out.shape (by omega)
        have c2 := HO.out.row.cell j (by rw [tabI_length]; omega)
        rw [gi_tabI (by omega), Nat.zero_add] at c2
        obtain ⟨x, hx⟩ : ∃ x, gi xs (j + 1) = x := ⟨_, rfl⟩
        obtain ⟨y, hy⟩ : ∃ y, f j = y := ⟨_, rfl⟩
        rw [hx] at c1 hfk
        rw [hy] at c2 hfk
        have HFK := Lib.hid hfk
        have hgl := HO.out.row.blk
        have hd : decide ((0 : Int) < ((j + 1 : Nat) : Int)) = true := by rw [decide_eq_true_eq]; omega
        have q1 : IntKind.i64.wrap (((j + 1 : Nat) : Int) - 1) = (j : Int) := by rw [IntWalk.i64_in _ (by omega)]; omega
        obtain ⟨z, hz2⟩ : ∃ z, (if x < y then y else x) = z := ⟨_, rfl⟩
        have hfz : f (j + 1) = z := by rw [HFK.out, ← hz2]; split <;> omega
        have HFZ := Lib.hid hfz
        clear hfk hx hy hfz
        go_wp2_with (at_builtin; refine wpList_app1 rfl (.tmp 26) (.tmp 28) 23 rfl w.heap.size 3 (.int .i64 0) 1 8 Try.underlying23 infoI rfl (by decide) (by decide) _ _ _ rfl (World.ownsRow.alloc HO.out _) ⟨wr.heap.size, 0, none⟩ 1 [.int .i64 z] rfl rfl (cell_one_new _ _ _) (by simp [Value.oneCell']) (by omega) (by simp; omega) ?_; intro g2 cap2 w4 o1 o2 o3)
        go_roundw
        case rel =>
          exact ⟨j + 1 + 1, by omega, by go_num, by rw [tabI_succ, HFZ.out]; exact OwnI.app o1, (hb.alloc hz _).trans (Below.app (World.ownsRow.alloc HO.out _) (by simp; omega) o2)⟩
        case measure => simp [intOf]; omega
    · have hkn : k = xs.length := by omega
      have HK := Lib.hid hkn
      clear hkn
      go_wp2_with fail
      go_ret
      exact ⟨_, rfl, by have := HO.out; rw [HK.out] at this; exact this, hb⟩

def missI (xs ws ys : List Int) : Nat → Int
  | 0 => 0
  | k + 1 => missI xs ws ys k + gi ws k * (gi xs k - gi ys k) * (gi xs k - gi ys k)
theorem sq_bd {w d : Int} (h1 : 1 ≤ w) (h2 : w ≤ 5) (h3 : -60 ≤ d) (h4 : d ≤ 60) : -300 ≤ w * d ∧ w * d ≤ 300 ∧ 0 ≤ w * d * d ∧ w * d * d ≤ 18000 := by
  have e : w = 1 ∨ w = 2 ∨ w = 3 ∨ w = 4 ∨ w = 5 := by omega
  have h5 : 0 ≤ (60 - d) * (60 + d) := Int.mul_nonneg (by omega) (by omega)
  have h6 : (60 - d) * (60 + d) = 3600 - d * d := by rw [Int.sub_mul, Int.mul_add, Int.mul_add]; omega
  have h7 : 0 ≤ d * d := by
    rcases Int.le_total 0 d with h | h
    · exact Int.mul_nonneg h h
    · exact Int.mul_nonneg_of_nonpos_of_nonpos h h
  rcases e with rfl | rfl | rfl | rfl | rfl <;> simp only [Int.mul_assoc, Int.one_mul] <;> omega
theorem missI_bd {xs ws ys : List Int} : ∀ n, (∀ k, k < n → -30 ≤ gi xs k ∧ gi xs k ≤ 30) → (∀ k, k < n → -30 ≤ gi ys k ∧ gi ys k ≤ 30) → (∀ k, k < n → 1 ≤ gi ws k ∧ gi ws k ≤ 5) → 0 ≤ missI xs ws ys n ∧ missI xs ws ys n ≤ 18000 * n
  | 0, _, _, _ => by simp [missI]
  | n + 1, h1, h2, h3 => by
    have ih := missI_bd (xs := xs) (ws := ws) (ys := ys) n (fun k hk => h1 k (by omega)) (fun k hk => h2 k (by omega)) (fun k hk => h3 k (by omega))
    have k1 := h1 n (by omega)
    have k2 := h2 n (by omega)
    have k3 := h3 n (by omega)
    have := sq_bd (w := gi ws n) (d := gi xs n - gi ys n) (by omega) (by omega) (by omega) (by omega)
    simp only [missI]
    omega
set_option maxHeartbeats 1000000 in
theorem missTo_any (b o c b' o' c' b2 o2 c2 nw : Nat) (xs ws ys : List Int) (w : World) (h : RowI w b o xs) (h' : RowI w b' o' ws) (h2 : RowI w b2 o2 ys) (hw : ws.length = xs.length) (hnw : nw = xs.length) (hy : ys.length = xs.length) (hl : xs.length ≤ 8)
    (bx : ∀ k, k < xs.length → -30 ≤ gi xs k ∧ gi xs k ≤ 30) (by' : ∀ k, k < xs.length → -30 ≤ gi ys k ∧ gi ys k ≤ 30) (bw : ∀ k, k < xs.length → 1 ≤ gi ws k ∧ gi ws k ≤ 5) :
    Calls Try.prog 49 #[.slice (some ⟨b, o, none⟩) xs.length c, .slice (some ⟨b', o', none⟩) nw c', .slice (some ⟨b2, o2, none⟩) xs.length c2] w fun e w' => e = .returned (.int .i64 (missI xs ws ys xs.length)) ∧ Below w.heap.size w w' := by
  subst hnw
  have H := Lib.hid h
  have H' := Lib.hid h'
  have H2 := Lib.hid h2
  have HW := Lib.hid hw
  have HY := Lib.hid hy
  have BX := Lib.hid bx
  have BY := Lib.hid by'
  have BW := Lib.hid bw
  clear h h' h2 hw hy bx by' bw
  go_enter Try.func49, Try.ntmps49
  go_wp2_with fail
  go_loopw [7, 8] (fun v7 v8 wr => ∃ k : Nat, k ≤ xs.length ∧ v8 = .int .i64 k ∧ v7 = .int .i64 (missI xs ws ys k) ∧ ∃ n, wr = w.drewN n) (fun _ v8 _ => xs.length - (intOf v8).toNat)
  case atStart => exact ⟨0, Nat.zero_le _, rfl, rfl, 0, rfl⟩
  case round =>
    obtain ⟨k, hk, rfl, rfl, n, rfl⟩ := hrel
    by_cases hlt : k < xs.length
    · have c1 := H.out.cell k hlt
      have c2 := H'.out.cell k (by rw [HW.out]; exact hlt)
      have c3 := H2.out.cell k (by rw [HY.out]; exact hlt)
      have b1 := BX.out k hlt
      have b2 := BY.out k hlt
      have b3 := BW.out k hlt
      have hm := missI_bd (xs := xs) (ws := ws) (ys := ys) k (fun j hj => BX.out j (by omega)) (fun j hj => BY.out j (by omega)) (fun j hj => BW.out j (by omega))
      have hs : missI xs ws ys (k + 1) = missI xs ws ys k + gi ws k * (gi xs k - gi ys k) * (gi xs k - gi ys k) := rfl
      obtain ⟨x, hx⟩ : ∃ x, gi xs k = x := ⟨_, rfl⟩
      obtain ⟨y, hy⟩ : ∃ y, gi ys k = y := ⟨_, rfl⟩
      obtain ⟨t, ht⟩ : ∃ t, gi ws k = t := ⟨_, rfl⟩
      rw [hx] at c1 b1 hs
      rw [hy] at c3 b2 hs
      rw [ht] at c2 b3 hs
      have hq := sq_bd (w := t) (d := x - y) (by omega) (by omega) (by omega) (by omega)
      have q1 : IntKind.i64.wrap (x - y) = x - y := IntWalk.i64_in _ (by omega)
      have q2 : IntKind.i64.wrap (t * (x - y)) = t * (x - y) := IntWalk.i64_in _ (by omega)
      have q3 : IntKind.i64.wrap (t * (x - y) * (x - y)) = t * (x - y) * (x - y) := IntWalk.i64_in _ (by omega)
      have q4 : IntKind.i64.wrap (missI xs ws ys k + t * (x - y) * (x - y)) = missI xs ws ys k + t * (x - y) * (x - y) := IntWalk.i64_in _ (by omega)
      have HS := Lib.hid hs
      clear hs hx hy ht hq hm
      go_wp2_with fail
      go_quiet (fail)
      go_wp2_with fail
      go_roundw
      case rel => exact ⟨k + 1, by omega, by go_num, by rw [HS.out], n + nq, by simp⟩
      case measure => simp [intOf]; omega
    · have hkn : k = xs.length := by omega
      have HK := Lib.hid hkn
      clear hkn
      go_wp2_with fail
      go_ret
      exact ⟨by obtain rfl := HK.out; rfl, by (repeat' (first | (with_reducible exact Below.refl _ _) | (with_reducible assumption) | (with_reducible refine Below.drewN ?_ _) | (with_reducible refine Below.alloc ?_ ?_ _) | (with_reducible refine Below.drew ?_) | (with_reducible refine Below.setCell ?_ ?_ _) | (with_reducible refine Below.trans ?_ (Below.mono (by assumption) ?_)) | go_size | (with_reducible refine Nat.le_trans ?_ (Below.size (by assumption)))))⟩

end Go.Proofs.Ytcmbfkdhfdiamaa
