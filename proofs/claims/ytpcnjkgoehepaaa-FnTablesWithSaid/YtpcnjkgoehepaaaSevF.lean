/- Laws' small functions: total, raised, ascends; sums of draws by places. -/
import Derived.Test.YtpcnjkgoehepaaaMapQ
import Derived.Test.YtpcnjkgoehepaaaToInt
import Derived.Deep.DeepCutAuto
namespace Go.Proofs.Ytpcnjkgoehepaaa
open Go.RowKit

theorem sX_cons (g : Nat → Int) : ∀ n, sX g (n + 1) = g 0 + sX (fun i => g (i + 1)) n
  | 0 => by simp [sX]
  | n + 1 => by rw [sX, sX_cons g n, sX]; omega
theorem tS_sum : ∀ L : List (Int × Int), sX (gi (sS L)) L.length = tS L
  | [] => rfl
  | p :: L => by
    rw [List.length_cons, sX_cons, tS]
    have : sX (fun i => gi (sS (p :: L)) (i + 1)) L.length = sX (gi (sS L)) L.length := sX_congr _ fun i _ => rfl
    rw [this, tS_sum L]
    rfl
theorem wS_sum : ∀ L : List (Int × Int), sX (fun i => gi (fS L) i * gi (sS L) i) L.length = wS L
  | [] => rfl
  | p :: L => by
    rw [List.length_cons, sX_cons, wS]
    have : sX (fun i => gi (fS (p :: L)) (i + 1) * gi (sS (p :: L)) (i + 1)) L.length = sX (fun i => gi (fS L) i * gi (sS L) i) L.length := sX_congr _ fun i _ => rfl
    rw [this, wS_sum L]
    rfl
theorem sX_abs {g : Nat → Int} {M : Int} : ∀ n : Nat, (∀ i, i < n → -M ≤ g i ∧ g i ≤ M) → -(n * M) ≤ sX g n ∧ sX g n ≤ n * M
  | 0, _ => by simp [sX]
  | n + 1, e => by
    have h1 := sX_abs n fun i hi => e i (by omega)
    have h2 := e n (by omega)
    have : ((n + 1 : Nat) : Int) * M = n * M + M := by push_cast; rw [Int.add_mul, Int.one_mul]
    rw [sX, this]
    omega

set_option maxHeartbeats 1000000 in
theorem total_s (b o c : Nat) (xs : List Int) (w : World) (h : RowI w b o xs) (hl : xs.length ≤ 1000) (hx : ∀ i, i < xs.length → -1000 ≤ gi xs i ∧ gi xs i ≤ 1000) :
    Calls Try.prog 10 #[.slice (some ⟨b, o, none⟩) xs.length c] w fun e w' => e = .returned (.int .i64 (sX (gi xs) xs.length)) ∧ w = w' := by
  have H := Lib.hid h
  have HI := Lib.hid (fun (k : Nat) (hk : k ≤ xs.length) => sX_abs (g := gi xs) k fun i hi => hx i (by omega))
  have HX := Lib.hid hx
  clear h hx
  go_enter Try.func10, Try.ntmps10
  go_wp2_with fail
  go_loop [3, 4] (fun v3 v4 => ∃ k : Nat, v4 = .int .i64 (k : Int) ∧ k ≤ xs.length ∧ v3 = .int .i64 (sX (gi xs) k)) (fun _ v4 => xs.length - (intOf v4).toNat)
  case atStart => exact ⟨0, rfl, by omega, rfl⟩
  case round =>
    obtain ⟨k, rfl, hk, rfl⟩ := hrel
    by_cases hlt : k < xs.length
    · have y1 := H.out.cell k hlt
      have i1 := HI.out k hk
      have i2 := HX.out k hlt
      have s1 : sX (gi xs) (k + 1) = sX (gi xs) k + gi xs k := rfl
      obtain ⟨x, hx⟩ : ∃ x, gi xs k = x := ⟨_, rfl⟩
      obtain ⟨m, hm⟩ : ∃ m, sX (gi xs) k = m := ⟨_, rfl⟩
      rw [hx] at y1 s1 i2
      rw [hm] at s1 i1 ⊢
      have S1 := Lib.hid s1
      have q1 : IntKind.i64.wrap (m + x) = m + x := IntWalk.i64_in _ (by omega)
      clear s1 hx hm
      go_wp2_with fail
      go_round
      case rel => exact ⟨k + 1, by go_num, by omega, by rw [S1.out]⟩
      case measure => simp [intOf]; omega
    · have e : k = xs.length := by omega
      subst e
      go_wp2_with fail
      go_ret
      exact ⟨rfl, rfl⟩

theorem pow_le4 {n k : Nat} (hn : n ≤ 4) (hk : k ≤ 4) : 0 ≤ (n : Int) ^ k ∧ (n : Int) ^ k ≤ 256 := by
  have h1 : n = 0 ∨ n = 1 ∨ n = 2 ∨ n = 3 ∨ n = 4 := by omega
  have h2 : k = 0 ∨ k = 1 ∨ k = 2 ∨ k = 3 ∨ k = 4 := by omega
  rcases h1 with rfl | rfl | rfl | rfl | rfl <;> rcases h2 with rfl | rfl | rfl | rfl | rfl <;> decide
set_option maxHeartbeats 1000000 in
theorem raised_any (n m : Nat) (w : World) (hn : n ≤ 4) (hm : m ≤ 4) :
    Calls Try.prog 19 #[.int .i64 n, .int .i64 m] w fun e w' => e = .returned (.int .i64 ((n : Int) ^ m)) ∧ w = w' := by
  go_enter Try.func19, Try.ntmps19
  go_wp2_with fail
  go_loop [1, 5] (fun v1 v5 => ∃ k : Nat, k ≤ m ∧ v1 = .int .i64 ((m - k : Nat) : Int) ∧ v5 = .int .i64 ((n : Int) ^ k)) (fun v1 _ => (intOf v1).toNat)
  case atStart => exact ⟨0, by omega, rfl, by simp⟩
  case round =>
    obtain ⟨k, hk, rfl, rfl⟩ := hrel
    have p1 := pow_le4 hn (show k ≤ 4 by omega)
    by_cases hlt : k < m
    · have p2 := pow_le4 hn (show k + 1 ≤ 4 by omega)
      have s1 : (n : Int) ^ (k + 1) = (n : Int) ^ k * n := Int.pow_succ _ _
      obtain ⟨p, hp⟩ : ∃ p, (n : Int) ^ k = p := ⟨_, rfl⟩
      rw [hp] at s1 p1 ⊢
      rw [s1] at p2
      have S1 := Lib.hid s1
      obtain ⟨d, hd⟩ : ∃ d : Nat, m - k = d := ⟨_, rfl⟩
      have HD := Lib.hid hd
      have d1 : (0 : Int) < (d : Int) := by omega
      rw [hd]
      have q1 : IntKind.i64.wrap (p * (n : Int)) = p * (n : Int) := IntWalk.i64_in _ (by omega)
      have q2 : IntKind.i64.wrap ((d : Int) - 1) = ((d - 1 : Nat) : Int) := by rw [IntWalk.i64_in _ (by omega)]; omega
      clear s1 hp hd p2
      go_wp2_with fail
      go_round
      case rel => exact ⟨k + 1, by omega, by rw [show m - (k + 1) = d - 1 by have := HD.out; omega], by rw [S1.out]⟩
      case measure => simp [intOf]; omega
    · obtain rfl : k = m := by omega
      rw [Nat.sub_self]
      go_wp2_with fail
      go_ret
      exact ⟨rfl, rfl⟩

/-- Strictly ascending up to the n-th one. -/
def Asc (xs : List Int) (n : Nat) : Prop := ∀ k, k + 1 < n → gi xs k < gi xs (k + 1)

set_option maxHeartbeats 1000000 in
theorem ascends_any (b o c : Nat) (xs : List Int) (w : World) (h : RowI w b o xs) (hl : xs.length ≤ 1048576) :
    Calls Try.prog 20 #[.slice (some ⟨b, o, none⟩) xs.length c] w fun e w' => ∃ v : Bool, e = .returned (.bool v) ∧ (v = true ↔ Asc xs xs.length) ∧ Below w.heap.size w w' := by
  have H := Lib.hid h
  clear h
  go_enter Try.func20, Try.ntmps20
  go_wp2
  go_loopw [3] (fun v3 wr => ∃ k : Nat, v3 = .int .i64 ((k + 1 : Nat) : Int) ∧ (k ≤ xs.length) ∧ Asc xs (k + 1) ∧ ∃ n, wr = w.drewN n) (fun v3 _ => xs.length + 1 - (intOf v3).toNat)
  case atStart => exact ⟨0, rfl, by omega, fun k hk => absurd hk (by omega), 0, rfl⟩
  case round =>
    obtain ⟨k, rfl, hk, ha, n, rfl⟩ := hrel
    have HA := Lib.hid ha
    clear ha
    by_cases hlt : k + 1 < xs.length
    · have c1 := H.out.cell (k + 1) hlt
      have c2 := H.out.cell k (by omega)
      have q1 : IntKind.i64.wrap (((k + 1 : Nat) : Int) - 1) = (k : Int) := by rw [IntWalk.i64_in _ (by omega)]; omega
      by_cases hc : gi xs (k + 1) ≤ gi xs k
      · have t1 : decide (gi xs (k + 1) ≤ gi xs k) = true := by simpa using hc
        go_wp2
        go_quiet (fail)
        go_wp2
        go_ret
        refine ⟨false, rfl, ?_, by (repeat' (first | (with_reducible exact Below.refl _ _) | (with_reducible assumption) | (with_reducible refine Below.drewN ?_ _) | (with_reducible refine Below.alloc ?_ ?_ _) | (with_reducible refine Below.drew ?_) | (with_reducible refine Below.setCell ?_ ?_ _) | (with_reducible refine Below.trans ?_ (Below.mono (by assumption) ?_)) | go_size | (with_reducible refine Nat.le_trans ?_ (Below.size (by assumption)))))⟩
        constructor
        · intro h; cases h
        · intro h; have := h k hlt; omega
      · have t1 : decide (gi xs (k + 1) ≤ gi xs k) = false := by simpa using hc
        go_wp2
        go_quiet (fail)
        go_wp2
        go_roundw
        case rel =>
          refine ⟨k + 1, by go_num, by omega, fun j hj => ?_, n + nq, by simp⟩
          by_cases hjk : j = k
          · subst hjk; omega
          · exact HA.out j (by omega)
        case measure => simp [intOf]; omega
    · go_wp2
      go_ret
      refine ⟨true, rfl, ?_, by (repeat' (first | (with_reducible exact Below.refl _ _) | (with_reducible assumption) | (with_reducible refine Below.drewN ?_ _) | (with_reducible refine Below.alloc ?_ ?_ _) | (with_reducible refine Below.drew ?_) | (with_reducible refine Below.setCell ?_ ?_ _) | (with_reducible refine Below.trans ?_ (Below.mono (by assumption) ?_)) | go_size | (with_reducible refine Nat.le_trans ?_ (Below.size (by assumption)))))⟩
      constructor
      · intro _ j hj; exact HA.out j (by omega)
      · intro _; rfl

end Go.Proofs.Ytpcnjkgoehepaaa
