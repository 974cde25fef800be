/- Marks: tests of cases, distances, the mark that most have; the plain reckoning. And the closures of impl.MarkOf. -/
import Derived.Test.YtjkadlmlkcanpaaSortMark
import Derived.Test.YtjkadlmlkcanpaaKey
import Derived.Test.YtjkadlmlkcanpaaTab
import Derived.Test.YtjkadlmlkcanpaaData
namespace Go.Proofs.Ytjkadlmlkcanpaa
open Go.RowKit

def vcB (xs ws : List Int) : Bool := ((decide ((0 : Int) < xs.length) && vdB xs) && ((ws.length : Int) == xs.length)) && allB ws 0 1
structure Vc (xs ws : List Int) : Prop where
  n0 : 1 ≤ xs.length
  n10 : xs.length ≤ 10
  len : ws.length = xs.length
  x : ∀ k, k < xs.length → -200 ≤ gi xs k ∧ gi xs k ≤ 200
  m : ∀ k, k < ws.length → 0 ≤ gi ws k ∧ gi ws k ≤ 1
theorem vc_of {xs ws : List Int} (h : vcB xs ws = true) : Vc xs ws := by
  simp only [vcB, Bool.and_eq_true, decide_eq_true_eq, beq_iff_eq] at h
  obtain ⟨⟨⟨h1, h2⟩, h3⟩, h4⟩ := h
  have hd := vd_of h2
  exact ⟨by omega, hd.n10, by omega, hd.x, fun k hk => inB_iff.1 (allB_iff.1 h4 k hk)⟩

/-- How far the number i is from x. -/
def farI (xs : List Int) (x : Int) (i : Nat) : Int := if gi xs i - x < x - gi xs i then x - gi xs i else gi xs i - x
theorem far_max (xs : List Int) (x : Int) (i : Nat) : farI xs x i = max (gi xs i - x) (x - gi xs i) := by
  unfold farI; split <;> omega
/-- The distances from x. -/
def farL (xs : List Int) (x : Int) : List Int := tabI (farI xs x) xs.length
theorem farL_length (xs : List Int) (x : Int) : (farL xs x).length = xs.length := tabI_length _ _
/-- The indices by distance. -/
def nearL (xs : List Int) (x : Int) : List Int := ordK (keyOf (farL xs x)) xs.length
theorem nearL_length (xs : List Int) (x : Int) : (nearL xs x).length = xs.length := ordK_length _ _
theorem nearL_at {xs : List Int} {x : Int} {j : Nat} (h : j < xs.length) : ∃ m : Nat, m < xs.length ∧ gi (nearL xs x) j = (m : Int) := by
  have hj : j < (nearL xs x).length := by rw [nearL_length]; exact h
  obtain ⟨m, hm, he⟩ := (ordK_mem (f := keyOf (farL xs x)) (y := gi (nearL xs x) j) xs.length).1 (by rw [gi_eq hj]; exact List.getElem_mem hj)
  exact ⟨m, hm, he⟩
/-- How many of the j nearest have the mark 1. -/
def onesI (xs ws : List Int) (x : Int) : Nat → Int
  | 0 => 0
  | j + 1 => onesI xs ws x j + gi ws (gi (nearL xs x) j).toNat
theorem onesI_bd {xs ws : List Int} {x : Int} (h : Vc xs ws) : ∀ j, j ≤ xs.length → 0 ≤ onesI xs ws x j ∧ onesI xs ws x j ≤ j
  | 0, _ => by simp [onesI]
  | j + 1, hj => by
    have ih := onesI_bd (x := x) h j (by omega)
    obtain ⟨m, hm, he⟩ := nearL_at (xs := xs) (x := x) (j := j) (by omega)
    have := h.m m (by rw [h.len]; exact hm)
    rw [onesI, he, Int.toNat_natCast]
    omega
def mkB (xs ws : List Int) (x k : Int) : Bool := (vcB xs ws && inB x (-200) 200) && inB k 1 xs.length
def markV (xs ws : List Int) (x k : Int) : Int := if mkB xs ws x k then (if 2 * onesI xs ws x k.toNat ≥ k then 1 else 0) else -1

theorem quiet_from {P : Program} {f : FuncId} {args : Array Value} {w : World} {n : Nat} {v : Value}
    (h : Calls P f args (w.drewN n) fun e w' => e = .returned v ∧ ∃ m, w' = (w.drewN n).drewN m) : Calls P f args (w.drewN n) fun e w'' => e = .returned v ∧ ∃ m, w'' = w.drewN m :=
  h.mono fun _ _ ⟨he, m, hm⟩ => ⟨he, n + m, by rw [hm]; simp⟩

set_option maxHeartbeats 400000 in
theorem compare_any (x y : Int) (w : World) : Calls Try.prog 60 #[.int .i64 x, .int .i64 y] w fun e w' => e = .returned (.int .i64 (cmpI x y)) ∧ w = w' := by
  go_enter Try.func60, Try.ntmps60
  by_cases h1 : x < y
  · have t1 : decide (x < y) = true := by simpa using h1
    have e : cmpI x y = -1 := by simp [cmpI, h1]
    rw [e]
    clear h1 e
    go_wp2
    go_ret
    exact ⟨rfl, rfl⟩
  · have t1 : decide (x < y) = false := by simpa using h1
    by_cases h2 : y < x
    · have t2 : decide (y < x) = true := by simpa using h2
      have e : cmpI x y = 1 := by simp [cmpI, h1, h2]
      rw [e]
      clear h1 h2 e
      go_wp2
      go_ret
      exact ⟨rfl, rfl⟩
    · have t2 : decide (y < x) = false := by simpa using h2
      have e : cmpI x y = 0 := by simp [cmpI, h1, h2]
      rw [e]
      clear h1 h2 e
      go_wp2
      go_ret
      exact ⟨rfl, rfl⟩

set_option maxHeartbeats 1000000 in
theorem farLit_any (b o c p q i : Nat) (xs : List Int) (x : Int) (w : World) (h : RowI w b o xs) (hp : w.cell? ⟨p, 0, none⟩ = some (.slice (some ⟨b, o, none⟩) xs.length c)) (hq : w.cell? ⟨q, 0, none⟩ = some (.int .i64 x))
    (hi : i < xs.length) (hx : -200 ≤ gi xs i ∧ gi xs i ≤ 200) (hx' : -200 ≤ x ∧ x ≤ 200) :
    Calls Try.prog 57 #[.int .i64 i, .pointer (some ⟨p, 0, none⟩), .pointer (some ⟨q, 0, none⟩)] w fun e w' => e = .returned (.int .i64 (farI xs x i)) ∧ ∃ m, w' = w.drewN m := by
  have c1 := h.cell i hi
  have q2 : (i : Int) < (xs.length : Int) := by omega
  have hf : farI xs x i = if gi xs i - x < x - gi xs i then x - gi xs i else gi xs i - x := rfl
  obtain ⟨y, hy⟩ : ∃ y, gi xs i = y := ⟨_, rfl⟩
  rw [hy] at c1 hx hf
  have q3 : IntKind.i64.wrap (y - x) = y - x := IntWalk.i64_in _ (by omega)
  have q4 : IntKind.i64.wrap (x - y) = x - y := IntWalk.i64_in _ (by omega)
  obtain ⟨r, hr⟩ : ∃ r, (if y - x < x - y then x - y else y - x) = r := ⟨_, rfl⟩
  rw [hr] at hf
  rw [hf]
  clear h hf hy
  go_enter Try.func57, Try.ntmps57
  go_wp2_with fail
  go_quiet (fail)
  go_wp2_with fail
  go_ret
  exact ⟨rfl, _, rfl⟩

set_option maxHeartbeats 1000000 in
theorem markLit_any (b o c p q f i j : Nat) (xs : List Int) (x : Int) (w : World) (h : RowI w b o xs) (hp : w.cell? ⟨p, 0, none⟩ = some (.slice (some ⟨b, o, none⟩) xs.length c)) (hq : w.cell? ⟨q, 0, none⟩ = some (.int .i64 x))
    (hf : w.cell? ⟨f, 0, none⟩ = some (.func (.func 57) #[] #[.pointer (some ⟨p, 0, none⟩), .pointer (some ⟨q, 0, none⟩)]))
    (hi : i < xs.length) (hj : j < xs.length) (hx : ∀ k, k < xs.length → -200 ≤ gi xs k ∧ gi xs k ≤ 200) (hx' : -200 ≤ x ∧ x ≤ 200) :
    Calls Try.prog 59 #[.int .i64 i, .int .i64 j, .pointer (some ⟨f, 0, none⟩)] w fun e w' => e = .returned (.int .i64 (cmpI (farI xs x i) (farI xs x j))) ∧ ∃ m, w' = w.drewN m := by
  have H1 := Lib.hid (show ∀ n, Calls Try.prog 57 #[.int .i64 i, .pointer (some ⟨p, 0, none⟩), .pointer (some ⟨q, 0, none⟩)] (w.drewN n) fun e w' => e = .returned (.int .i64 (farI xs x i)) ∧ ∃ m, w' = w.drewN m from
    fun n => quiet_from (farLit_any b o c p q i xs x (w.drewN n) (h.below (Below.drewN (Below.refl _ _) n)) (by rw [← hp]; simp [go_sem]) (by rw [← hq]; simp [go_sem]) hi (hx i hi) hx'))
  have H2 := Lib.hid (show ∀ n, Calls Try.prog 57 #[.int .i64 j, .pointer (some ⟨p, 0, none⟩), .pointer (some ⟨q, 0, none⟩)] (w.drewN n) fun e w' => e = .returned (.int .i64 (farI xs x j)) ∧ ∃ m, w' = w.drewN m from
    fun n => quiet_from (farLit_any b o c p q j xs x (w.drewN n) (h.below (Below.drewN (Below.refl _ _) n)) (by rw [← hp]; simp [go_sem]) (by rw [← hq]; simp [go_sem]) hj (hx j hj) hx'))
  obtain ⟨u, hu⟩ : ∃ u, farI xs x i = u := ⟨_, rfl⟩
  obtain ⟨v, hv⟩ : ∃ v, farI xs x j = v := ⟨_, rfl⟩
  rw [hu] at H1 ⊢
  rw [hv] at H2 ⊢
  clear h hp hq hi hj hx hx' hu hv
  go_enter Try.func59, Try.ntmps59
  go_wp2_with fail
  go_quiet (first
    | (go_at_call_of 57 (i : Int); exact H1.out _)
    | (go_at_call_of 57 (j : Int); exact H2.out _)
    | (go_at_call 60; exact quiet_same (compare_any _ _ _)))
  go_wp2_with fail
  go_ret
  exact ⟨rfl, _, rfl⟩

end Go.Proofs.Ytjkadlmlkcanpaa
