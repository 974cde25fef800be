/- impl.JoinsOf: the joins of the nearest things. -/
import Derived.Test.YtclfjnoedcimiaaJoinsNear
import Derived.Test.YtclfjnoedcimiaaGapsI
namespace Go.Proofs.Ytclfjnoedcimiaa
open Go.RowKit

def fNear (xss : List (List Int)) (G : List Int) (a b : Nat) : Int × Bool := (gm xss a b, gi G a != gi G b)
def jnV (xss : List (List Int)) : List Jn := if gpB xss then oF (fNear xss) xss.length (xss.length - 1) else []
theorem jnV_le (xss : List (List Int)) : (jnV xss).length ≤ 6 := by
  unfold jnV
  split
  · rename_i h
    have := (gp_of h).n6
    rw [oF_length]
    omega
  · exact Nat.zero_le _

set_option maxHeartbeats 1000000 in
theorem nearLit_any (gg p g a b n : Nat) (cg : Nat) (H Cp : Nat → Nat) (xss : List (List Int)) (G : List Int) (w : World) (h : MatC w gg H Cp xss) (hg : Gp xss) (hn : xss.length = n) (hp : w.cell? ⟨p, 0, none⟩ = some (.slice (some ⟨gg, 0, none⟩) n cg)) (hG : Blk w g 3 (ic G)) (hGl : G.length = n) (ha : a < n) (hb : b < n) :
    Calls Try.prog 60 #[.slice (some ⟨g, 0, none⟩) n n, .int .i64 a, .int .i64 b, .pointer (some ⟨p, 0, none⟩)] w fun e w' => e = .returned (.tuple #[.int .i64 (fNear xss G a b).1, .bool (fNear xss G a b).2]) ∧ Below w.heap.size w w' := by
  obtain ⟨y1, r1⟩ := h.row (show a < xss.length by omega)
  have l1 := hg.len a (by omega)
  have x1 := r1.cell b (by omega)
  have x2 := hG.cell (get_ic (xs := G) (k := a) (by omega))
  have x3 := hG.cell (get_ic (xs := G) (k := b) (by omega))
  rw [Nat.zero_add] at x1
  rw [show fNear xss G a b = (gi (gl xss a) b, gi G a != gi G b) from rfl]
  obtain ⟨x, hx⟩ : ∃ x, gi (gl xss a) b = x := ⟨_, rfl⟩
  obtain ⟨u, hu⟩ : ∃ x, gi G a = x := ⟨_, rfl⟩
  obtain ⟨v, hv⟩ : ∃ x, gi G b = x := ⟨_, rfl⟩
  rw [hx] at x1 ⊢
  rw [hu] at x2 ⊢
  rw [hv] at x3 ⊢
  obtain ⟨m, hm⟩ : ∃ m, (gl xss a).length = m := ⟨_, rfl⟩
  rw [hm] at y1 l1
  have q1 : (a : Int) < (n : Int) := by omega
  have q2 : (b : Int) < (n : Int) := by omega
  have q3 : (b : Int) < (m : Int) := by omega
  dsimp only
  clear h hg hn hG hGl l1 r1 hx hu hv hm
  go_enter Try.func60, Try.ntmps60
  go_wp2_with fail
  go_quiet (fail)
  go_wp2_with fail
  go_ret2
  exact ⟨rfl, by (repeat' (first | (with_reducible exact Below.refl _ _) | (with_reducible assumption) | (with_reducible refine Below.drewN ?_ _) | (with_reducible refine Below.alloc ?_ ?_ _) | (with_reducible refine Below.drew ?_) | (with_reducible refine Below.setCell ?_ ?_ _) | (with_reducible refine Below.trans ?_ (Below.mono (by assumption) ?_)) | go_size | (with_reducible refine Nat.le_trans ?_ (Below.size (by assumption)))))⟩

theorem near_clo {gg p n : Nat} {cg : Nat} {H Cp : Nat → Nat} {xss : List (List Int)} {w : World} (h : MatC w gg H Cp xss) (hg : Gp xss) (hn : xss.length = n) (hp : w.cell? ⟨p, 0, none⟩ = some (.slice (some ⟨gg, 0, none⟩) n cg)) : CloNear w n p (fNear xss) :=
  fun w' g G a b hb hG hGl ha hbn => nearLit_any gg p g a b n cg H Cp xss G w' (h.below hb) hg hn (keepC hb hp) hG hGl ha hbn

set_option maxHeartbeats 1000000 in
theorem nearJoins_any (g n : Nat) (cg : Nat) (H Cp : Nat → Nat) (xss : List (List Int)) (w : World) (h : MatC w g H Cp xss) (hg : Gp xss) (hn : xss.length = n) :
    Calls Try.prog 42 #[.slice (some ⟨g, 0, none⟩) n cg] w fun e w' => ∃ v, e = .returned v ∧ Mut 35 w' w.heap.size v (n - 1) (jc (oF (fNear xss) n (n - 1))) ∧ Below w.heap.size w w' := by
  have CJ := Lib.hid (fun (w1 : World) (p : Nat) (hb : Below w.heap.size w w1) (hp : w1.cell? ⟨p, 0, none⟩ = some (.slice (some ⟨g, 0, none⟩) n cg)) => joinsNear_any g p n cg H Cp xss (fNear xss) w1 (h.below hb) hg hn (near_clo (h.below hb) hg hn hp))
  clear h hg hn
  go_enter Try.func42, Try.ntmps42
  go_wp2_with (go_at_call 45; refine (CJ.out _ _ below_alloc (cell_one_new w _ 23 0 _ rfl)).mono ?_; rintro e w1 ⟨v, rfl, hm, hb⟩)
  go_ret
  exact ⟨v, rfl, hm.mono (by simp), below_alloc.trans (hb.mono (by simp))⟩

set_option maxHeartbeats 1000000 in
theorem joinsOf_anyC (g : Nat) (cg : Nat) (H Cp : Nat → Nat) (xss : List (List Int)) (w : World) (h : MatC w g H Cp xss) (hn : xss.length ≤ 1048576) :
    Calls Try.prog 13 #[.slice (some ⟨g, 0, none⟩) xss.length cg] w fun e w' => ∃ v, e = .returned v ∧ Mut 35 w' w.heap.size v (jnV xss).length (jc (jnV xss)) ∧ Below w.heap.size w w' := by
  have HM := Lib.hid h
  have CV := Lib.hid (validGaps_anyC g cg H Cp xss w h hn)
  clear h
  cases hv : gpB xss with
  | false =>
    have e : jnV xss = [] := by simp [jnV, hv]
    rw [e]
    rw [hv] at CV
    clear e hv
    go_enter Try.func13, Try.ntmps13
    go_wp2_with (go_at_call 16; refine CV.out.mono ?_; rintro e w1 ⟨rfl, hb1⟩)
    go_ret
    exact ⟨_, rfl, Mut.nil _ _ _, hb1⟩
  | true =>
    have e : jnV xss = oF (fNear xss) xss.length (xss.length - 1) := by simp [jnV, hv]
    rw [e, oF_length]
    have CN := Lib.hid (fun (w1 : World) (hb : Below w.heap.size w w1) => nearJoins_any g xss.length cg H Cp xss w1 (HM.out.below hb) (gp_of hv) rfl)
    rw [hv] at CV
    clear e hv
    go_enter Try.func13, Try.ntmps13
    go_wp2_with (first
      | (go_at_call 16; refine CV.out.mono ?_; rintro e w1 ⟨rfl, hb1⟩; have z1 := hb1.size)
      | (go_at_call 42; refine (CN.out _ hb1).mono ?_; rintro e w2 ⟨v, rfl, hm, hb2⟩))
    go_ret
    exact ⟨v, rfl, hm.mono z1, hb1.trans (hb2.mono z1)⟩

theorem joinsOf_any (g : Nat) (H : Nat → Nat) (xss : List (List Int)) (w : World) (h : Mat w g H xss) (hn : xss.length ≤ 1048576) :
    Calls Try.prog 13 #[.slice (some ⟨g, 0, none⟩) xss.length xss.length] w fun e w' => ∃ v, e = .returned v ∧ Mut 35 w' w.heap.size v (jnV xss).length (jc (jnV xss)) ∧ Below w.heap.size w w' :=
  joinsOf_anyC g _ H _ xss w h hn

end Go.Proofs.Ytclfjnoedcimiaa
