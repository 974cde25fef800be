/- Ties: how many numbers there are of each value that is there more than once: impl.TiesOf, spec.TiesOf. -/
import Derived.Test.YthemnkcgpcgilaaData
import Derived.Test.YthemnkcgpcgilaaSorted
import Derived.Deep.DeepCutAuto
namespace Go.Proofs.Ythemnkcgpcgilaa
open Go.RowKit

set_option maxHeartbeats 400000 in
theorem clipI_any (g n c : Nat) (w : World) (_hn : n ≤ 1099511627776) (hc : n ≤ c) :
    Calls Try.prog 55 #[.slice (some ⟨g, 0, none⟩) n c] w fun e w' => e = .returned (.slice (some ⟨g, 0, none⟩) n n) ∧ w = w' := by
  go_enter Try.func55, Try.ntmps55
  go_wp2
  go_ret
  exact ⟨rfl, rfl⟩
set_option maxHeartbeats 400000 in
theorem clipI_nil (w : World) : Calls Try.prog 55 #[.slice none 0 0] w fun e w' => e = .returned (.slice none 0 0) ∧ w = w' := by
  go_enter Try.func55, Try.ntmps55
  go_wp2
  go_ret
  exact ⟨rfl, rfl⟩
theorem clipI_own (base n : Nat) (v : Value) (L : List Int) (w : World) (h : OwnI w base v n L) (hn : n ≤ 1000000) :
    Calls Try.prog 55 #[v] w fun e w' => ∃ v', e = .returned v' ∧ Mut 3 w base v' n (ic L) ∧ w = w' := by
  rcases h.2 with ⟨rfl, rfl⟩ | ⟨g, cap, cur, rfl, hb, hg, hnc, _⟩
  · refine (clipI_nil w).mono ?_
    rintro e w' ⟨rfl, rfl⟩
    exact ⟨_, rfl, .inl ⟨rfl, rfl, by have := h.len; rw [List.eq_nil_of_length_eq_zero this]; rfl⟩, rfl⟩
  · refine (clipI_any g n cap w (by omega) hnc).mono ?_
    rintro e w' ⟨rfl, rfl⟩
    exact ⟨_, rfl, .inr ⟨g, n, rfl, hb, (Blk.of_own h).1⟩, rfl⟩

/-- How many numbers of the value x there are. -/
def cntI (xs : List Int) (x : Int) : Nat := xs.count x
/-- How many of each of the m least values, if more than one. -/
def tieS (xs : List Int) : Nat → List Int
  | 0 => []
  | m + 1 => tieS xs m ++ if 1 < cntI xs ((m : Int) - 200) then [(cntI xs ((m : Int) - 200) : Int)] else []
theorem tieS_len (xs : List Int) : ∀ m, (tieS xs m).length ≤ m
  | 0 => Nat.le_refl _
  | m + 1 => by
    have ih := tieS_len xs m
    rw [tieS, List.length_append]
    split
    · simp; omega
    · simp; omega
theorem tieS_skip {xs : List Int} {m : Nat} : ∀ d : Nat, (∀ x : Int, (m : Int) - 200 ≤ x → x < (m : Int) + d - 200 → cntI xs x = 0) → tieS xs (m + d) = tieS xs m
  | 0, _ => rfl
  | d + 1, h => by
    have ih := tieS_skip (xs := xs) (m := m) d fun x h1 h2 => h x h1 (by omega)
    have h0 := h (((m + d : Nat) : Int) - 200) (by omega) (by omega)
    rw [← Nat.add_assoc, tieS, h0, ih]
    simp
def tiesV (xs : List Int) : List Int := if vdB xs then tieS xs 401 else []
theorem tiesV_len (xs : List Int) : (tiesV xs).length ≤ 401 := by
  unfold tiesV
  split
  · exact tieS_len xs 401
  · simp
theorem cnt_take (xs : List Int) (x : Int) (k : Nat) (h : k < xs.length) : (xs.take (k + 1)).count x = (xs.take k).count x + if gi xs k = x then 1 else 0 := by
  rw [List.take_add_one, List.getElem?_eq_getElem h, List.count_append, gi_eq h]
  simp only [Option.toList_some, List.count_singleton]
  congr 1
  by_cases e : xs[k] = x <;> simp [e]

/-- In a row that does not fall: a run of the value v from i on and before k. -/
theorem run_count {s : List Int} {v : Int} {i k : Nat} (hik : i ≤ k) (hk : k ≤ s.length) (h1 : ∀ j, j < i → gi s j < v) (h2 : ∀ j, i ≤ j → j < k → gi s j = v) (h3 : ∀ j, k ≤ j → j < s.length → v < gi s j) : s.count v = k - i := by
  have e : s = s.take i ++ ((s.drop i).take (k - i) ++ s.drop k) := by
    have h4 : s.drop k = (s.drop i).drop (k - i) := by rw [List.drop_drop]; congr 1; omega
    rw [h4, List.take_append_drop, List.take_append_drop]
  rw [e, List.count_append, List.count_append]
  have c1 : (s.take i).count v = 0 := List.count_eq_zero.2 fun hm => by
    obtain ⟨j, hj, he⟩ := List.getElem_of_mem hm
    have hj' : j < i := by simp at hj; omega
    have := h1 j hj'
    rw [gi_eq (by omega)] at this
    rw [List.getElem_take] at he
    omega
  have c3 : (s.drop k).count v = 0 := List.count_eq_zero.2 fun hm => by
    obtain ⟨j, hj, he⟩ := List.getElem_of_mem hm
    have hj' : k + j < s.length := by simp at hj; omega
    have := h3 (k + j) (by omega) hj'
    rw [gi_eq hj'] at this
    rw [List.getElem_drop] at he
    omega
  have c2 : ((s.drop i).take (k - i)).count v = ((s.drop i).take (k - i)).length := List.count_eq_length.2 fun y hm => by
    obtain ⟨j, hj, he⟩ := List.getElem_of_mem hm
    have hj' : j < k - i := by simp at hj; omega
    have := h2 (i + j) (by omega) (by omega)
    rw [gi_eq (by omega)] at this
    rw [List.getElem_take, List.getElem_drop] at he
    omega
  rw [c1, c2, c3, List.length_take, List.length_drop]
  omega
theorem cnt_srt (xs : List Int) (x : Int) : cntI xs x = (srt xs).count x := ((srt_perm xs).count_eq x).symm
theorem srt_le {xs : List Int} {i j : Nat} (h : i ≤ j) (hj : j < xs.length) : gi (srt xs) i ≤ gi (srt xs) j := by
  rcases Nat.lt_or_eq_of_le h with h | rfl
  · have hj' : j < (srt xs).length := by rw [srt_length]; exact hj
    rw [gi_eq (by omega), gi_eq hj']
    exact List.pairwise_iff_getElem.1 (srt_up xs) i j (by omega) hj' h
  · exact Int.le_refl _
theorem srt_range {xs : List Int} (hd : Vd xs) {j : Nat} (hj : j < xs.length) : -200 ≤ gi (srt xs) j ∧ gi (srt xs) j ≤ 200 := by
  have hj' : j < (srt xs).length := by rw [srt_length]; exact hj
  have hm : gi (srt xs) j ∈ xs := by
    rw [gi_eq hj']
    exact (srt_perm xs).mem_iff.1 (List.getElem_mem hj')
  obtain ⟨k, hk, hkx⟩ := List.getElem_of_mem hm
  have := hd.x k hk
  rwa [gi_eq hk, hkx] at this
/-- What is done behind i of the numbers by size. -/
structure Ti (xs : List Int) (i m : Nat) : Prop where
  m401 : m ≤ 401
  lo : ∀ j, j < i → gi (srt xs) j < (m : Int) - 200
  hi : ∀ j, i ≤ j → j < xs.length → (m : Int) - 200 ≤ gi (srt xs) j
theorem Ti.zero {xs : List Int} (hd : Vd xs) : Ti xs 0 0 := ⟨by omega, fun j hj => absurd hj (Nat.not_lt_zero _), fun j _ hj => by have := (srt_range hd hj).1; omega⟩
theorem Ti.none {xs : List Int} {i m : Nat} (h : Ti xs i m) {x : Int} (h1 : (m : Int) - 200 ≤ x) (h2 : i < xs.length → x < gi (srt xs) i) (hi : i ≤ xs.length) : cntI xs x = 0 := by
  rw [cnt_srt]
  refine List.count_eq_zero.2 fun hm => ?_
  obtain ⟨j, hj, he⟩ := List.getElem_of_mem hm
  rw [← gi_eq hj] at he
  rw [srt_length] at hj
  by_cases hji : j < i
  · have := h.lo j hji; omega
  · have h3 := h2 (by omega)
    have := srt_le (xs := xs) (i := i) (j := j) (by omega) hj
    omega
theorem Ti.step {xs : List Int} {i k m : Nat} (hd : Vd xs) (h : Ti xs i m) (hik : i < k) (hk : k ≤ xs.length) (hrun : ∀ j, i ≤ j → j < k → gi (srt xs) j = gi (srt xs) i) (hend : k < xs.length → gi (srt xs) k ≠ gi (srt xs) i) :
    ∃ m', Ti xs k m' ∧ tieS xs m' = tieS xs m ++ if 1 < k - i then [((k - i : Nat) : Int)] else [] := by
  have hv := srt_range hd (j := i) (by omega)
  have hm := h.hi i (Nat.le_refl _) (by omega)
  obtain ⟨d, hd'⟩ : ∃ d : Nat, gi (srt xs) i = (m : Int) + d - 200 := ⟨(gi (srt xs) i - ((m : Int) - 200)).toNat, by omega⟩
  have hgt : ∀ j, k ≤ j → j < xs.length → gi (srt xs) i < gi (srt xs) j := fun j h1 h2 => by
    have := srt_le (xs := xs) (i := i) (j := k) (by omega) (by omega)
    have := hend (by omega)
    have := srt_le (xs := xs) (i := k) (j := j) h1 h2
    omega
  have hc : cntI xs (gi (srt xs) i) = k - i := by
    rw [cnt_srt]
    exact run_count (by omega) (by rw [srt_length]; exact hk) (fun j hj => by have := h.lo j hj; omega) hrun (fun j h1 h2 => hgt j h1 (by rwa [srt_length] at h2))
  refine ⟨m + d + 1, ⟨by omega, fun j hj => ?_, fun j h1 h2 => ?_⟩, ?_⟩
  · by_cases hji : j < i
    · have := h.lo j hji; omega
    · have := hrun j (by omega) hj; omega
  · have := hgt j h1 h2; omega
  · have hskip := tieS_skip (xs := xs) (m := m) d fun x h1 h2 => h.none h1 (fun _ => by omega) (by omega)
    rw [tieS, hskip]
    have e : ((m + d : Nat) : Int) - 200 = gi (srt xs) i := by omega
    rw [e, hc]
theorem Ti.done {xs : List Int} {m : Nat} (h : Ti xs xs.length m) : tieS xs 401 = tieS xs m := by
  have h1 := h.m401
  have := tieS_skip (xs := xs) (m := m) (401 - m) fun x h2 _ => h.none h2 (fun hh => absurd hh (Nat.lt_irrefl _)) (Nat.le_refl _)
  rwa [show m + (401 - m) = 401 by omega] at this

set_option maxHeartbeats 4000000 in
theorem stiesOf_any (b o c : Nat) (xs : List Int) (w : World) (h : RowI w b o xs) (hl : xs.length ≤ 1048576) :
    Calls Try.prog 23 #[.slice (some ⟨b, o, none⟩) xs.length c] w
      fun e w' => ∃ v, e = .returned v ∧ Mut 3 w' w.heap.size v (tiesV xs).length (ic (tiesV xs)) ∧ Below w.heap.size w w' := by
  have H := Lib.hid h
  clear h
  cases hv : vdB xs with
  | false =>
    have e : tiesV xs = [] := by simp [tiesV, hv]
    rw [e]
    clear e
    go_enter Try.func23, Try.ntmps23
    go_wp2_with (go_at_call 48; refine (svalidData_any _ _ _ _ _ H.out (by omega)).mono ?_; rintro e w1 ⟨rfl, rfl⟩; rw [hv])
    go_ret
    exact ⟨_, rfl, .inl ⟨rfl, rfl, rfl⟩, by (repeat' (first | (with_reducible exact Below.refl _ _) | (with_reducible assumption) | (with_reducible refine Below.drewN ?_ _) | (with_reducible refine Below.alloc ?_ ?_ _) | (with_reducible refine Below.drew ?_) | (with_reducible refine Below.setCell ?_ ?_ _) | (with_reducible refine Below.trans ?_ (Below.mono (by assumption) ?_)) | go_size | (with_reducible refine Nat.le_trans ?_ (Below.size (by assumption)))))⟩
  | true =>
    have e : tiesV xs = tieS xs 401 := by simp [tiesV, hv]
    have hd := vd_of hv
    have h10 := hd.n10
    rw [e]
    clear e hd
    go_enter Try.func23, Try.ntmps23
    go_wp2_with (go_at_call 48; refine (svalidData_any _ _ _ _ _ H.out (by omega)).mono ?_; rintro e w1 ⟨rfl, rfl⟩; rw [hv])
    go_loopw [3, 4] (fun v3 v4 wr => ∃ m : Nat, m ≤ 401 ∧ v4 = .int .i64 ((m : Int) - 200) ∧ (∃ g cap, v3 = .slice (some ⟨g, 0, none⟩) (tieS xs m).length cap) ∧ OwnI wr w.heap.size v3 (tieS xs m).length (tieS xs m) ∧ Below w.heap.size w wr) (fun _ v4 _ => 401 - (intOf v4 + 200).toNat)
    case atStart => exact ⟨0, by omega, rfl, ⟨_, _, rfl⟩, OwnI.empty _ _ (Nat.le_refl _) _ rfl, by (repeat' (first | (with_reducible exact Below.refl _ _) | (with_reducible assumption) | (with_reducible refine Below.drewN ?_ _) | (with_reducible refine Below.alloc ?_ ?_ _) | (with_reducible refine Below.drew ?_) | (with_reducible refine Below.setCell ?_ ?_ _) | (with_reducible refine Below.trans ?_ (Below.mono (by assumption) ?_)) | go_size | (with_reducible refine Nat.le_trans ?_ (Below.size (by assumption)))))⟩
    case round =>
      obtain ⟨m, hm, rfl, ⟨g, cap, rfl⟩, hown, hb⟩ := hrel
      have hz := hb.size
      have HO := Lib.hid hown
      have HB := Lib.hid hb
      clear hown hb
      by_cases hlt : m < 401
      · have q1 : (m : Int) - 200 ≤ 200 := by omega
        have q2 : IntKind.i64.wrap ((m : Int) - 200 + 1) = ((m + 1 : Nat) : Int) - 200 := by rw [IntWalk.i64_in _ (by omega)]; omega
        obtain ⟨x, hx⟩ : ∃ x, (m : Int) - 200 = x := ⟨_, rfl⟩
        have HXM := Lib.hid hx
        have hst : tieS xs (m + 1) = tieS xs m ++ if 1 < cntI xs x then [(cntI xs x : Int)] else [] := by rw [tieS, hx]
        have HST := Lib.hid hst
        rw [hx] at q1 q2 ⊢
        have hle := tieS_len xs m
        clear hst hx
        go_wp2_with fail
        go_loop [5, 6] (fun v5 v6 => ∃ k : Nat, k ≤ xs.length ∧ v6 = .int .i64 k ∧ v5 = .int .i64 (((xs.take k).count x : Nat) : Int)) (fun _ v6 => xs.length - (intOf v6).toNat)
        case atStart => exact ⟨0, Nat.zero_le _, rfl, rfl⟩
        case round =>
          obtain ⟨k, hk, rfl, rfl⟩ := hrel
          by_cases hkl : k < xs.length
          · have c1 := (H.out.below HB.out).cell k hkl
            have hc := cnt_take xs x k hkl
            have hcb : (xs.take k).count x ≤ k := by have := List.count_le_length (a := x) (l := xs.take k); rw [List.length_take] at this; omega
            obtain ⟨y, hy⟩ : ∃ y, gi xs k = y := ⟨_, rfl⟩
            obtain ⟨n, hn⟩ : ∃ n, (xs.take k).count x = n := ⟨_, rfl⟩
            rw [hy] at c1 hc
            rw [hn] at hc hcb ⊢
            have HC := Lib.hid hc
            clear hc hy hn
            cases he : (y == x) with
            | true =>
              go_wp2_with fail
              go_round
              case rel => exact ⟨k + 1, by omega, by go_num, by rw [HC.out, if_pos (by simpa using he)]; go_num⟩
              case measure => simp [intOf]; omega
            | false =>
              go_wp2_with fail
              go_round
              case rel => exact ⟨k + 1, by omega, by go_num, by rw [HC.out, if_neg (by simpa using he)]; simp⟩
              case measure => simp [intOf]; omega
          · have hkn : k = xs.length := by omega
            have hcc : (xs.take k).count x = cntI xs x := by rw [hkn, List.take_length]; rfl
            have hcb : cntI xs x ≤ 10 := by have := List.count_le_length (a := x) (l := xs); unfold cntI; omega
            rw [hcc]
            obtain ⟨n, hn⟩ : ∃ n, cntI xs x = n := ⟨_, rfl⟩
            rw [hn] at hcb ⊢
            have HN := Lib.hid hn
            clear hcc hn
            cases hg : decide ((1 : Int) < (n : Int)) with
            | true =>
              go_wp2_with (at_builtin; refine wpList_app1 rfl (.tmp 31) (.tmp 33) 22 rfl w.heap.size 3 (.int .i64 0) 1 8 Try.underlying22 infoI rfl (by decide) (by decide) _ _ _ rfl (World.ownsRow.alloc HO.out _) ⟨_, 0, none⟩ 1 [.int .i64 n] rfl rfl (cell_one_new _ _ _) (by simp [Value.oneCell']) (by omega) (by simp; omega) ?_; intro g2 cap2 w4 o1 o2 o3)
              go_roundw
              case rel =>
                have e : tieS xs (m + 1) = tieS xs m ++ [(n : Int)] := by rw [HST.out, HN.out, if_pos (by have := of_decide_eq_true hg; omega)]
                have e2 : (tieS xs (m + 1)).length = (tieS xs m).length + 1 := by rw [e]; simp
                exact ⟨m + 1, by omega, by go_num, ⟨g2, cap2, by rw [e2]⟩, by rw [e2, e]; exact OwnI.app o1, (HB.out.alloc hz _).trans (Below.app (World.ownsRow.alloc HO.out _) (by simp; omega) o2)⟩
              case measure => have := HXM.out; simp [intOf]; omega
            | false =>
              go_wp2_with fail
              go_roundw
              case rel =>
                have e : tieS xs (m + 1) = tieS xs m := by rw [HST.out, HN.out, if_neg (by have := of_decide_eq_false hg; omega), List.append_nil]
                exact ⟨m + 1, by omega, by go_num, ⟨_, _, by rw [e]⟩, by rw [e]; exact HO.out, HB.out⟩
              case measure => have := HXM.out; simp [intOf]; omega
      · have hm2 : m = 401 := by omega
        subst hm2
        have q1 : ¬ (((401 : Nat) : Int) - 200 ≤ 200) := by omega
        go_wp2_with fail
        go_ret
        exact ⟨_, rfl, .inr ⟨_, _, rfl, (Blk.of_own HO.out).2, (Blk.of_own HO.out).1⟩, HB.out⟩

end Go.Proofs.Ythemnkcgpcgilaa
