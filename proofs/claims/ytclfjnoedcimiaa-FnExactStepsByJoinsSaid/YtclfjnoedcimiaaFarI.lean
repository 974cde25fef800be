/- impl.FarJoins: the joins of groups by their farthest things. -/
import Derived.Test.YtclfjnoedcimiaaJoinsFar
import Derived.Test.YtclfjnoedcimiaaGapsI
namespace Go.Proofs.Ytclfjnoedcimiaa
open Go.RowKit

/-- The greatest distance so far from a thing of the label x (the things before i, and of the thing i those before k) to a thing of the label y. -/
def fk (xss : List (List Int)) (G : List Int) (x y : Int) (i : Nat) (m : Int) : Nat → Int
  | 0 => m
  | k + 1 => if gi G i = x ∧ gi G k = y then max (fk xss G x y i m k) (gm xss i k) else fk xss G x y i m k
def fi (xss : List (List Int)) (G : List Int) (x y : Int) (n : Nat) : Nat → Int
  | 0 => 0
  | i + 1 => fk xss G x y i (fi xss G x y n i) n
def fFar (xss : List (List Int)) (G : List Int) (a b : Nat) : Int × Bool := if gi G a = (a : Int) ∧ gi G b = (b : Int) then (fi xss G a b xss.length xss.length, true) else (0, false)
def jfV (xss : List (List Int)) : List Jn := if gpB xss then oF (fFar xss) xss.length (xss.length - 1) else []
theorem jfV_le (xss : List (List Int)) : (jfV xss).length ≤ 6 := by
  unfold jfV
  split
  · rename_i h
    have := (gp_of h).n6
    rw [oF_length]
    omega
  · exact Nat.zero_le _

set_option maxHeartbeats 4000000 in
theorem farLit_any (gg p g a b n : Nat) (cg : Nat) (H Cp : Nat → Nat) (xss : List (List Int)) (G : List Int) (w : World) (h : MatC w gg H Cp xss) (hg : Gp xss) (hn : xss.length = n) (hp : w.cell? ⟨p, 0, none⟩ = some (.slice (some ⟨gg, 0, none⟩) n cg)) (hG : Blk w g 3 (ic G)) (hGl : G.length = n) (ha : a < n) (hb : b < n) :
    Calls Try.prog 46 #[.slice (some ⟨g, 0, none⟩) n n, .int .i64 a, .int .i64 b, .pointer (some ⟨p, 0, none⟩)] w fun e w' => e = .returned (.tuple #[.int .i64 (fFar xss G a b).1, .bool (fFar xss G a b).2]) ∧ Below w.heap.size w w' := by
  have x2 := hG.cell (get_ic (xs := G) (k := a) (by omega))
  have x3 := hG.cell (get_ic (xs := G) (k := b) (by omega))
  obtain ⟨u, hu⟩ : ∃ x, gi G a = x := ⟨_, rfl⟩
  obtain ⟨v, hv⟩ : ∃ x, gi G b = x := ⟨_, rfl⟩
  rw [hu] at x2
  rw [hv] at x3
  have q1 : (a : Int) < (n : Int) := by omega
  have q2 : (b : Int) < (n : Int) := by omega
  have n6 : n ≤ 6 := by have := hg.n6; omega
  by_cases ta : u = (a : Int)
  · have t1 : (u != (a : Int)) = false := by simp [ta]
    by_cases tb : v = (b : Int)
    · have t2 : (v != (b : Int)) = false := by simp [tb]
      have e : fFar xss G a b = (fi xss G a b n n, true) := by unfold fFar; rw [if_pos ⟨hu.trans ta, hv.trans tb⟩, hn]
      rw [e]
      have HM := Lib.hid h
      have HG := Lib.hid hg
      have HN := Lib.hid hn
      have HK := Lib.hid hG
      have HGL := Lib.hid hGl
      dsimp only
      clear h hg hn hG hGl e hu hv ta tb
      go_enter Try.func46, Try.ntmps46
      go_wp2_with fail
      go_loopw [9, 28] (fun v9 v28 wr => ∃ i : Nat, i ≤ n ∧ v28 = .int .i64 i ∧ v9 = .int .i64 (fi xss G a b n i) ∧ Below w.heap.size w wr) (fun _ v28 _ => n - (intOf v28).toNat)
      case atStart => exact ⟨0, Nat.zero_le _, rfl, rfl, Below.refl _ _⟩
      case round =>
        obtain ⟨i, hi, rfl, rfl, hb⟩ := hrel
        have HB := Lib.hid hb
        have hs : fi xss G a b n (i + 1) = fk xss G a b i (fi xss G a b n i) n := rfl
        obtain ⟨m, hm⟩ : ∃ m, fi xss G a b n i = m := ⟨_, rfl⟩
        have HMI := Lib.hid hm
        rw [hm] at hs ⊢
        have HS := Lib.hid hs
        have hp2 := keepC hb hp
        have HP := Lib.hid hp
        clear hb hs hm hp
        by_cases hli : i < n
        · go_wp2_with fail
          go_loopw [9, 33] (fun v9 v33 wr => ∃ k : Nat, k ≤ n ∧ v33 = .int .i64 k ∧ v9 = .int .i64 (fk xss G a b i m k) ∧ Below w.heap.size w wr) (fun _ v33 _ => n - (intOf v33).toNat)
          case atStart => exact ⟨0, Nat.zero_le _, rfl, rfl, HB.out⟩
          case round =>
            clear HB hp2
            obtain ⟨k, hk, rfl, rfl, hb⟩ := hrel
            have HB := Lib.hid hb
            have hs : fk xss G a b i m (k + 1) = if gi G i = (a : Int) ∧ gi G k = (b : Int) then max (fk xss G a b i m k) (gm xss i k) else fk xss G a b i m k := rfl
            obtain ⟨s, hss⟩ : ∃ s, fk xss G a b i m k = s := ⟨_, rfl⟩
            by_cases hlk : k < n
            · rw [hss] at hs ⊢
              have hp2 := keepC hb HP.out
              obtain ⟨y1, r1⟩ := (HM.out.below hb).row (show i < xss.length by rw [HN.out]; exact hli)
              have l1 := HG.out.len i (by rw [HN.out]; exact hli)
              rw [HN.out] at l1
              have x1 := r1.cell k (by omega)
              rw [Nat.zero_add, show gi (gl xss i) k = gm xss i k from rfl] at x1
              obtain ⟨x, hx⟩ : ∃ x, gm xss i k = x := ⟨_, rfl⟩
              rw [hx] at x1 hs
              have x4 := (HK.out.below hb).cell (get_ic (xs := G) (k := i) (by rw [HGL.out]; exact hli))
              have x5 := (HK.out.below hb).cell (get_ic (xs := G) (k := k) (by rw [HGL.out]; exact hlk))
              obtain ⟨p1, hp1⟩ : ∃ x, gi G i = x := ⟨_, rfl⟩
              obtain ⟨p2, hpp2⟩ : ∃ x, gi G k = x := ⟨_, rfl⟩
              rw [hp1] at x4 hs
              rw [hpp2] at x5 hs
              obtain ⟨lm, hlm⟩ : ∃ m, (gl xss i).length = m := ⟨_, rfl⟩
              rw [hlm] at y1 l1
              have q3 : (k : Int) < (lm : Int) := by omega
              have HS2 := Lib.hid hs
              clear r1 hx hp1 hpp2 hlm hss hb hs l1
              by_cases t3 : p1 = (a : Int)
              · have t3' : (p1 == (a : Int)) = true := by simpa using t3
                by_cases t4 : p2 = (b : Int)
                · have t4' : (p2 == (b : Int)) = true := by simpa using t4
                  obtain ⟨r, hr⟩ : ∃ r, (if s < x then x else s) = r := ⟨_, rfl⟩
                  have S := Lib.hid (show fk xss G a b i m (k + 1) = r from by rw [HS2.out, if_pos ⟨t3, t4⟩, ← hr]; split <;> omega)
                  clear t3 t4
                  go_wp2_with fail
                  go_roundw
                  case rel => exact ⟨k + 1, by omega, by go_num, by rw [S.out], HB.out⟩
                  case measure => simp [intOf]; omega
                · have t4' : (p2 == (b : Int)) = false := by simpa using t4
                  have S := Lib.hid (show fk xss G a b i m (k + 1) = s from by rw [HS2.out, if_neg fun h => t4 h.2])
                  clear t3 t4
                  go_wp2_with fail
                  go_roundw
                  case rel => exact ⟨k + 1, by omega, by go_num, by rw [S.out], HB.out⟩
                  case measure => simp [intOf]; omega
              · have t3' : (p1 == (a : Int)) = false := by simpa using t3
                have S := Lib.hid (show fk xss G a b i m (k + 1) = s from by rw [HS2.out, if_neg fun h => t3 h.1])
                clear t3
                go_wp2_with fail
                go_roundw
                case rel => exact ⟨k + 1, by omega, by go_num, by rw [S.out], HB.out⟩
                case measure => simp [intOf]; omega
            · have e : k = n := by omega
              have S := Lib.hid (show fi xss G a b n (i + 1) = s from by rw [HS.out, ← hss, e])
              rw [hss]
              clear hss hs e hb
              go_wp2_with fail
              go_roundw
              case rel => exact ⟨i + 1, by omega, by go_num, by rw [S.out], HB.out⟩
              case measure => simp [intOf]; omega
        · have e : i = n := by omega
          have HE := Lib.hid e
          have HMM := Lib.hid (show fi xss G a b n n = m from by rw [← HMI.out, e])
          clear e
          go_wp2_with fail
          go_ret2
          exact ⟨by rw [HMM.out]; rfl, HB.out⟩
    · have t2 : (v != (b : Int)) = true := by rw [bne_iff_ne]; exact tb
      have e : fFar xss G a b = (0, false) := by unfold fFar; rw [if_neg fun h => tb (hv.symm.trans h.2)]
      rw [e]
      dsimp only
      clear h hg hn hG hGl e hu hv ta tb hp
      go_enter Try.func46, Try.ntmps46
      go_wp2_with fail
      go_ret2
      exact ⟨rfl, by (repeat' (first | (with_reducible exact Below.refl _ _) | (with_reducible assumption) | (with_reducible refine Below.drewN ?_ _) | (with_reducible refine Below.alloc ?_ ?_ _) | (with_reducible refine Below.drew ?_) | (with_reducible refine Below.setCell ?_ ?_ _) | (with_reducible refine Below.trans ?_ (Below.mono (by assumption) ?_)) | go_size | (with_reducible refine Nat.le_trans ?_ (Below.size (by assumption)))))⟩
  · have t1 : (u != (a : Int)) = true := by rw [bne_iff_ne]; exact ta
    have e : fFar xss G a b = (0, false) := by unfold fFar; rw [if_neg fun h => ta (hu.symm.trans h.1)]
    rw [e]
    dsimp only
    clear h hg hn hG hGl e hu hv ta hp
    go_enter Try.func46, Try.ntmps46
    go_wp2_with fail
    go_ret2
    exact ⟨rfl, by (repeat' (first | (with_reducible exact Below.refl _ _) | (with_reducible assumption) | (with_reducible refine Below.drewN ?_ _) | (with_reducible refine Below.alloc ?_ ?_ _) | (with_reducible refine Below.drew ?_) | (with_reducible refine Below.setCell ?_ ?_ _) | (with_reducible refine Below.trans ?_ (Below.mono (by assumption) ?_)) | go_size | (with_reducible refine Nat.le_trans ?_ (Below.size (by assumption)))))⟩

theorem far_clo {gg p n : Nat} {cg : Nat} {H Cp : Nat → Nat} {xss : List (List Int)} {w : World} (h : MatC w gg H Cp xss) (hg : Gp xss) (hn : xss.length = n) (hp : w.cell? ⟨p, 0, none⟩ = some (.slice (some ⟨gg, 0, none⟩) n cg)) : CloFar w n p (fFar xss) :=
  fun w' g G a b hb hG hGl ha hbn => farLit_any gg p g a b n cg H Cp xss G w' (h.below hb) hg hn (keepC hb hp) hG hGl ha hbn

set_option maxHeartbeats 1000000 in
theorem farJoins_anyC (g : Nat) (cg : Nat) (H Cp : Nat → Nat) (xss : List (List Int)) (w : World) (h : MatC w g H Cp xss) (hn : xss.length ≤ 1048576) :
    Calls Try.prog 19 #[.slice (some ⟨g, 0, none⟩) xss.length cg] w fun e w' => ∃ v, e = .returned v ∧ Mut 35 w' w.heap.size v (jfV xss).length (jc (jfV xss)) ∧ Below w.heap.size w w' := by
  have HM := Lib.hid h
  have CV := Lib.hid (fun (w1 : World) (hb : Below w.heap.size w w1) => validGaps_anyC g cg H Cp xss w1 (h.below hb) hn)
  clear h
  cases hv : gpB xss with
  | false =>
    have e : jfV xss = [] := by simp [jfV, hv]
    rw [e]
    rw [hv] at CV
    clear e hv
    go_enter Try.func19, Try.ntmps19
    go_wp2_with (go_at_call 16; refine (CV.out _ below_alloc).mono ?_; rintro e w1 ⟨rfl, hb1⟩)
    go_ret
    exact ⟨_, rfl, Mut.nil _ _ _, below_alloc.trans (hb1.mono (by simp))⟩
  | true =>
    have e : jfV xss = oF (fFar xss) xss.length (xss.length - 1) := by simp [jfV, hv]
    rw [e, oF_length]
    have CJ := Lib.hid (fun (w1 : World) (p : Nat) (hb : Below w.heap.size w w1) (hp : w1.cell? ⟨p, 0, none⟩ = some (.slice (some ⟨g, 0, none⟩) xss.length cg)) => joinsFar_any g p xss.length cg H Cp xss (fFar xss) w1 (HM.out.below hb) (gp_of hv) rfl (far_clo (HM.out.below hb) (gp_of hv) rfl hp))
    rw [hv] at CV
    clear e hv
    go_enter Try.func19, Try.ntmps19
    go_wp2_with (first
      | (go_at_call 16; refine (CV.out _ below_alloc).mono ?_; rintro e w1 ⟨rfl, hb1⟩; have z1 := hb1.size; have bw1 : Below w.heap.size w w1 := below_alloc.trans (hb1.mono (by simp)); have y1 := keepC hb1 (cell_one_new w (.slice (some ⟨g, 0, none⟩) xss.length cg) 23 0 _ rfl))
      | (go_at_call 45; refine (CJ.out _ _ bw1 y1).mono ?_; rintro e w2 ⟨v, rfl, hm, hb2⟩))
    go_ret
    exact ⟨v, rfl, hm.mono bw1.size, bw1.trans (hb2.mono bw1.size)⟩

theorem farJoins_any (g : Nat) (H : Nat → Nat) (xss : List (List Int)) (w : World) (h : Mat w g H xss) (hn : xss.length ≤ 1048576) :
    Calls Try.prog 19 #[.slice (some ⟨g, 0, none⟩) xss.length xss.length] w fun e w' => ∃ v, e = .returned v ∧ Mut 35 w' w.heap.size v (jfV xss).length (jc (jfV xss)) ∧ Below w.heap.size w w' :=
  farJoins_anyC g _ H _ xss w h hn

end Go.Proofs.Ytclfjnoedcimiaa
