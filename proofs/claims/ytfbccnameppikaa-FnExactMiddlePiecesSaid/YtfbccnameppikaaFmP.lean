/- How far numbers are from the one in the middle: impl.fromMiddle, spec.apartOf. -/
import Derived.Test.YtfbccnameppikaaMisW
import Derived.Test.YtfbccnameppikaaSorted
import Derived.Test.YtfbccnameppikaaSSort
import Derived.Test.YtfbccnameppikaaFRow
namespace Go.Proofs.Ytfbccnameppikaa
open Go.RowKit

theorem srt_mem {xs : List Int} {k : Nat} (hk : k < xs.length) : gi (srt xs) k ∈ xs := by
  have hk' : k < (srt xs).length := by rw [srt_length]; exact hk
  rw [gi_eq hk']
  exact (srt_perm xs).mem_iff.1 (List.getElem_mem hk')
/-- The sum of how far the first d of s are from m. -/
def faN (s : List Int) (m : Int) : Nat → Int
  | 0 => 0
  | d + 1 => faN s m d + max (gi s d - m) (m - gi s d)
def fmI (l : List Int) : Int := faN (srt l) (gi (srt l) (l.length / 2)) l.length
def fmQ (l : List Int) : Rat := qd (fmI l) 1
theorem faN_bd {s : List Int} {m : Int} (hm : -30 ≤ m ∧ m ≤ 30) : ∀ d, (∀ k, k < d → -30 ≤ gi s k ∧ gi s k ≤ 30) → 0 ≤ faN s m d ∧ faN s m d ≤ 60 * (d : Int)
  | 0, _ => by simp [faN]
  | d + 1, h => by
    have ih := faN_bd hm d fun k hk => h k (by omega)
    have := h d (by omega)
    simp only [faN]
    omega
theorem srt30 {l : List Int} (h30 : In30 l) {k : Nat} (hk : k < l.length) : -30 ≤ gi (srt l) k ∧ gi (srt l) k ≤ 30 := h30 _ (srt_mem hk)
theorem fmI_bd {l : List Int} (h1 : 1 ≤ l.length) (h30 : In30 l) : 0 ≤ fmI l ∧ fmI l ≤ 60 * (l.length : Int) :=
  faN_bd (srt30 h30 (by omega)) _ fun k hk => srt30 h30 hk
theorem fmQ_good : GoodC fmQ := by
  intro l h1 h2 h3
  have h0 := List.length_pos_iff.2 h1
  have := fmI_bd h0 h3
  exact ⟨fmI l * 840, by omega, by omega, by unfold fmQ; rw [qd_eq (by omega) (by omega)]; grind⟩

set_option maxHeartbeats 2000000 in
theorem fromMiddle_any (b o c n : Nat) (l : List Int) (q : Rat) (w : World) (h : RowI w b o l) (hn : l.length = n) (h1 : 1 ≤ n) (h8 : n ≤ 8) (h30 : In30 l) (hq : fmQ l = q) :
    Calls Try.prog 48 #[.slice (some ⟨b, o, none⟩) n c] w fun e w' => e = .returned (.agg #[.int .i64 (up q), .int .i64 (dn q)]) ∧ Below w.heap.size w w' := by
  have H := Lib.hid h
  have hs := srt_length l
  have CS := Lib.hid (fun w (h : RowI w b o l) => sorted_any b o c l w h (by omega) (by omega))
  have hb := fmI_bd (by omega) h30
  have hf : fmI l = faN (srt l) (gi (srt l) (l.length / 2)) l.length := rfl
  have SB := Lib.hid (fun k (hk : k < n) => srt30 h30 (k := k) (by omega))
  rw [hn] at hs hb CS hf
  obtain ⟨s, hsr⟩ : ∃ s, srt l = s := ⟨_, rfl⟩
  rw [hsr] at hs CS hf SB
  obtain ⟨j, hj⟩ : ∃ j, n / 2 = j := ⟨_, rfl⟩
  have hjn : j < n := by omega
  have q2 : (n : Int).tdiv 2 = (j : Int) := by rw [Int.tdiv_eq_ediv_of_nonneg (by omega)]; omega
  have q5 : IntKind.i64.wrap (j : Int) = (j : Int) := IntWalk.i64_in _ (by omega)
  have q7 : (j : Int) < (n : Int) := by omega
  have q8 : (n : Int) / 2 = (j : Int) := by omega
  rw [hj] at hf
  have SJ := SB.out j hjn
  obtain ⟨y, hy⟩ : ∃ y, gi s j = y := ⟨_, rfl⟩
  rw [hy] at hf SJ
  have HY := Lib.hid hy
  have HF := Lib.hid hf
  have HS := Lib.hid hs
  have WW := Lib.hid (fun w => (show Calls Try.prog 32 #[.int .i64 (fmI l)] w (fun e w' => e = .returned (.agg #[.int .i64 (up q), .int .i64 (dn q)]) ∧ Below w.heap.size w w') from hq ▸ whole_any (fmI l) w))
  rw [hf] at WW
  have FB := Lib.hid (fun d (hd : d ≤ n) => faN_bd (s := s) SJ d fun k hk => SB.out k (by omega))
  have HN := Lib.hid hn
  clear h hn h30 hs hsr hb hf hy hq hj
  go_enter Try.func48, Try.ntmps48
  go_wp2_with (go_at_call 60; refine (CS.out _ (H.out.below (by (repeat' (first | (with_reducible exact Below.refl _ _) | (with_reducible assumption) | (with_reducible refine Below.drewN ?_ _) | (with_reducible refine Below.alloc ?_ ?_ _) | (with_reducible refine Below.drew ?_) | (with_reducible refine Below.setCell ?_ ?_ _) | (with_reducible refine Below.trans ?_ (Below.mono (by assumption) ?_)) | go_size | (with_reducible refine Nat.le_trans ?_ (Below.size (by assumption)))))))).mono ?_; rintro e w1 ⟨g, cap, rfl, ho, hb1⟩; have hz1 := hb1.size; simp only [World.size_alloc] at hz1)
  have KB := Lib.hid ((Blk.made w #[.int .i64 0, .int .i64 0] 27).below hb1)
  have R := Lib.hid ho.row
  have B1 := Lib.hid (below_alloc.trans (hb1.mono (by simp)) : Below w.heap.size w w1)
  clear ho hb1
  go_loop [4, 12] (fun v4 v12 => ∃ d : Nat, v12 = .int .i64 d ∧ d ≤ n ∧ v4 = .int .i64 (faN s y d)) (fun _ v12 => n - (intOf v12).toNat)
  case atStart => exact ⟨0, rfl, Nat.zero_le _, rfl⟩
  case round =>
    obtain ⟨d, rfl, hd, rfl⟩ := hrel
    have fb := FB.out d hd
    have hst : faN s y (d + 1) = faN s y d + max (gi s d - y) (y - gi s d) := rfl
    obtain ⟨f, hf⟩ : ∃ f, faN s y d = f := ⟨_, rfl⟩
    rw [hf] at fb hst ⊢
    have HFF := Lib.hid hf
    by_cases hlt : d < n
    · have c1 := R.out.cell d (by rw [HS.out]; exact hlt)
      have c2 := R.out.cell j (by rw [HS.out]; exact hjn)
      rw [Nat.zero_add] at c1 c2
      rw [HY.out] at c2
      have sb := SB.out d hlt
      obtain ⟨x, hx⟩ : ∃ x, gi s d = x := ⟨_, rfl⟩
      rw [hx] at c1 sb hst
      have p1 : IntKind.i64.wrap (x - y) = x - y := IntWalk.i64_in _ (by omega)
      obtain ⟨t, ht⟩ : ∃ t, x - y = t := ⟨_, rfl⟩
      rw [ht] at p1
      have p2 : IntKind.i64.wrap (-t) = -t := IntWalk.i64_in _ (by omega)
      have p3 : -60 ≤ t ∧ t ≤ 60 := by omega
      obtain ⟨r, hr⟩ : ∃ r, (if t < -t then -t else t) = r := ⟨_, rfl⟩
      have hr2 : max (x - y) (y - x) = r := by rw [← hr]; split <;> omega
      have HR4 := Lib.hid (show max t (-t) = r by rw [← hr]; split <;> omega)
      have hr3 : 0 ≤ r ∧ r ≤ 60 := by rw [← hr]; split <;> omega
      rw [hr2] at hst
      have HST := Lib.hid hst
      clear hst hr2 hx hf
      go_wp2_with fail
      go_round
      case rel => exact ⟨d + 1, by go_num, by omega, by rw [HST.out, HR4.out]⟩
      case measure => simp [intOf]; omega
    · have hdn : d = n := by omega
      rw [hdn] at hf
      have HFN := Lib.hid hf
      have WW := WW.out
      rw [hf] at WW
      have WW := Lib.hid WW
      clear hf hst hdn HFF
      go_wp2_with (go_at_call 32; refine (WW.out _).mono ?_; rintro e w2 ⟨rfl, hb2⟩; have hz2 := hb2.size; have kb := KB.out.below hb2; have k0 := kb.cell (j := 0) rfl; have k1 := kb.cell (j := 1) rfl; have f0 := kb.frozen 0; have f1 := kb.frozen 1; have l1 := kb.lt)
      have y1 := (kb.set 0 (.int .i64 (up q))).cell (j := 0) rfl
      have y2 := ((kb.set 0 (.int .i64 (up q))).set 1 (.int .i64 (dn q))).cell (j := 1) rfl
      refine bodyPost_ret (v := .agg #[.int .i64 (up q), .int .i64 (dn q)]) ?_ rfl ⟨rfl, ?_⟩
      · simp [results, Try.results48, go_sem, y1, y2]
      · exact ((B1.out.trans (hb2.mono B1.out.size)).setCell (Nat.le_refl _) _).setCell (Nat.le_refl _) _

end Go.Proofs.Ytfbccnameppikaa
