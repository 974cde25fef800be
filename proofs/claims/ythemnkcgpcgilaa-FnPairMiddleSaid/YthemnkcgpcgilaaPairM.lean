/- The middle of the sums of pairs: impl.PairMiddle, spec.PairMiddle. -/
import Derived.Test.YthemnkcgpcgilaaMid
import Derived.Deep.RegionHeld3
import Derived.Deep.DeepCutAuto
namespace Go.Proofs.Ythemnkcgpcgilaa
open Go.RowKit

/-- The sums of the numbers before i, each with itself and those ahead of it. -/
def prs (xs : List Int) : Nat → List Int
  | 0 => []
  | i + 1 => prs xs i ++ tabI (fun k => gi xs i + gi xs k) (i + 1)
theorem prs_length (xs : List Int) : ∀ i, (prs xs i).length = i * (i + 1) / 2
  | 0 => rfl
  | i + 1 => by
    rw [prs, List.length_append, prs_length xs i, tabI_length]
    have : (i + 1) * (i + 1 + 1) = i * (i + 1) + 2 * (i + 1) := by rw [Nat.add_mul, Nat.mul_add, Nat.mul_add]; omega
    omega
theorem prs_le {xs : List Int} {i : Nat} (h : i ≤ 10) : (prs xs i).length ≤ 55 := by
  rw [prs_length]
  have : i * (i + 1) ≤ 10 * 11 := Nat.mul_le_mul h (by omega)
  omega
theorem prs_bound {xs : List Int} (h : ∀ k, k < xs.length → -200 ≤ gi xs k ∧ gi xs k ≤ 200) : ∀ i, i ≤ xs.length → ∀ x ∈ prs xs i, -400 ≤ x ∧ x ≤ 400
  | 0, _, x, hx => by cases hx
  | i + 1, hi, x, hx => by
    rw [prs] at hx
    rcases List.mem_append.1 hx with hx | hx
    · exact prs_bound h i (by omega) x hx
    · unfold tabI at hx
      obtain ⟨k, hk, rfl⟩ := List.mem_map.1 hx
      have hk := List.mem_range.1 hk
      have h1 := h i (by omega)
      have h2 := h k (by omega)
      omega
theorem bound_of_mem {L : List Int} {B : Int} (h : ∀ x ∈ L, -B ≤ x ∧ x ≤ B) : ∀ k, k < L.length → -B ≤ gi L k ∧ gi L k ≤ B := fun k hk => by
  rw [gi_eq hk]
  exact h _ (List.getElem_mem hk)

def pmV (xs : List Int) : Int × Bool := if vdB xs && decide (xs.length ≠ 0) then (midI (prs xs xs.length), true) else (0, false)

set_option maxHeartbeats 4000000 in
theorem spairSums_any (b o c : Nat) (xs : List Int) (w : World) (h : RowI w b o xs) (hl : xs.length ≤ 10) (hx : ∀ k, k < xs.length → -200 ≤ gi xs k ∧ gi xs k ≤ 200) :
    Calls Try.prog 51 #[.slice (some ⟨b, o, none⟩) xs.length c] w
      fun e w' => ∃ v, e = .returned v ∧ OwnI w' w.heap.size v (prs xs xs.length).length (prs xs xs.length) ∧ Below w.heap.size w w' := by
  have H := Lib.hid h
  have HX := Lib.hid hx
  clear h hx
  go_enter Try.func51, Try.ntmps51
  go_wp2_with fail
  go_loopw [3, 4] (fun v3 v4 wr => ∃ i : Nat, i ≤ xs.length ∧ v4 = .int .i64 i ∧ OwnI wr w.heap.size v3 (prs xs i).length (prs xs i) ∧ Below w.heap.size w wr) (fun _ v4 _ => xs.length - (intOf v4).toNat)
  case atStart => exact ⟨0, Nat.zero_le _, rfl, OwnI.empty _ _ (Nat.le_refl _) _ rfl, by (repeat' (first | (with_reducible exact Below.refl _ _) | (with_reducible assumption) | (with_reducible refine Below.drewN ?_ _) | (with_reducible refine Below.alloc ?_ ?_ _) | (with_reducible refine Below.drew ?_) | (with_reducible refine Below.setCell ?_ ?_ _) | (with_reducible refine Below.trans ?_ (Below.mono (by assumption) ?_)) | go_size | (with_reducible refine Nat.le_trans ?_ (Below.size (by assumption)))))⟩
  case round =>
    obtain ⟨i, hi, rfl, hown, hb⟩ := hrel
    have hz := hb.size
    have HO := Lib.hid hown
    clear hown
    by_cases hlt : i < xs.length
    · have HB := Lib.hid hb
      clear hb
      go_wp2_with fail
      go_loopw [3, 5] (fun v3 v5 wr => ∃ k : Nat, k ≤ i + 1 ∧ v5 = .int .i64 k ∧ OwnI wr w.heap.size v3 ((prs xs i).length + k) (prs xs i ++ tabI (fun k => gi xs i + gi xs k) k) ∧ Below w.heap.size w wr) (fun _ v5 _ => i + 1 - (intOf v5).toNat)
      case atStart => exact ⟨0, Nat.zero_le _, rfl, by simpa [tabI] using HO.out, HB.out⟩
      case round =>
        obtain ⟨k, hk, rfl, hown, hb⟩ := hrel
        have HO := Lib.hid hown
        have hz := hb.size
        clear hown
        by_cases hkl : k < i + 1
        · have c1 := H.out.cell i hlt
          have c2 := H.out.cell k (by omega)
          have x1 := HX.out i hlt
          have x2 := HX.out k (by omega)
          obtain ⟨p, hp⟩ : ∃ p, gi xs i = p := ⟨_, rfl⟩
          obtain ⟨q, hq⟩ : ∃ q, gi xs k = q := ⟨_, rfl⟩
          have hpq : gi xs i + gi xs k = p + q := by rw [hp, hq]
          have HPQ := Lib.hid hpq
          rw [hp] at c1 x1
          rw [hq] at c2 x2
          have q1 : IntKind.i64.wrap (p + q) = p + q := IntWalk.i64_in _ (by omega)
          have q2 : (k : Int) ≤ (i : Int) := by omega
          have hle := prs_le (xs := xs) (i := i) (by omega)
          have q3 : (k : Int) < (xs.length : Int) := by omega
          clear hp hq hpq
          go_wp2_with fail
          go_region_held3 (fun w' => w'.cell? ⟨b, o + i, none⟩ = some (.int .i64 p) ∧ w'.cell? ⟨b, o + k, none⟩ = some (.int .i64 q) ∧ Below w.heap.size w w')
            ((exact keepBX2 c1 c2 (by (repeat' (first | (with_reducible exact Below.refl _ _) | (with_reducible assumption) | (with_reducible refine Below.drewN ?_ _) | (with_reducible refine Below.alloc ?_ ?_ _) | (with_reducible refine Below.drew ?_) | (with_reducible refine Below.setCell ?_ ?_ _) | (with_reducible refine Below.trans ?_ (Below.mono (by assumption) ?_)) | go_size | (with_reducible refine Nat.le_trans ?_ (Below.size (by assumption))))))))
            ((refine step_appS (by rfl) (.tmp 18) (.tmp 28) 22 (by rfl) w.heap.size 3 (.int .i64 0) 8 Try.underlying22 infoI rfl (by decide) _ ((prs xs i).length + k) (ic (prs xs i ++ tabI (fun k => gi xs i + gi xs k) k)) (by rfl) ⟨_, 0, none⟩ 1 _ [.int .i64 (p + q)] (by rfl) ?_ rfl ?_ (one_one _) (by omega) ?_ ?_; (focus (exact World.ownsRow.alloc HO.out _)); (focus (exact cell_one_new _ _ _)); (focus (simp; omega)); intro v4 w4 o1 o2 o3; have b4 := Below.app (B := w.heap.size) (by exact World.ownsRow.alloc HO.out _) (by simp; omega) o2))
          have HBW : Below w.heap.size w w4 := by (repeat' (first | (with_reducible exact Below.refl _ _) | (with_reducible assumption) | (with_reducible refine Below.drewN ?_ _) | (with_reducible refine Below.alloc ?_ ?_ _) | (with_reducible refine Below.drew ?_) | (with_reducible refine Below.setCell ?_ ?_ _) | (with_reducible refine Below.trans ?_ (Below.mono (by assumption) ?_)) | go_size | (with_reducible refine Nat.le_trans ?_ (Below.size (by assumption)))))
          clear b4 o2
          go_wp2_with fail
          go_roundw
          case rel =>
            exact ⟨k + 1, by omega, by go_num, by rw [tabI_succ, HPQ.out, ← List.append_assoc]; exact OwnI.app o1, HBW⟩
          case measure => simp [intOf]; omega
        · have hke : k = i + 1 := by omega
          have HE := Lib.hid hke
          have q2 : ¬ ((k : Int) ≤ (i : Int)) := by omega
          have HB := Lib.hid hb
          clear hb hke
          go_wp2_with fail
          go_roundw
          case rel => exact ⟨i + 1, by omega, by go_num, by rw [prs, List.length_append, tabI_length]; have := HO.out; rw [HE.out] at this; exact this, HB.out⟩
          case measure => simp [intOf]; omega
    · obtain rfl : i = xs.length := by omega
      have HB := Lib.hid hb
      clear hb
      go_wp2_with fail
      go_ret
      exact ⟨_, rfl, HO.out, HB.out⟩

set_option maxHeartbeats 1000000 in
theorem spairMiddle_any (b o c : Nat) (xs : List Int) (w : World) (h : RowI w b o xs) (hl : xs.length ≤ 1099511627776) :
    Calls Try.prog 19 #[.slice (some ⟨b, o, none⟩) xs.length c] w fun e w' => e = .returned (.tuple #[.int .i64 (pmV xs).1, .bool (pmV xs).2]) ∧ Below w.heap.size w w' := by
  have H := Lib.hid h
  clear h
  cases hv : vdB xs with
  | false =>
    have e : pmV xs = (0, false) := by simp [pmV, hv]
    rw [e]
    clear e
    go_enter Try.func19, Try.ntmps19
    go_wp2_with (go_at_call 48; refine (svalidData_any _ _ _ _ _ H.out hl).mono ?_; rintro e w1 ⟨rfl, rfl⟩; rw [hv])
    go_ret2
    exact ⟨rfl, by (repeat' (first | (with_reducible exact Below.refl _ _) | (with_reducible assumption) | (with_reducible refine Below.drewN ?_ _) | (with_reducible refine Below.alloc ?_ ?_ _) | (with_reducible refine Below.drew ?_) | (with_reducible refine Below.setCell ?_ ?_ _) | (with_reducible refine Below.trans ?_ (Below.mono (by assumption) ?_)) | go_size | (with_reducible refine Nat.le_trans ?_ (Below.size (by assumption)))))⟩
  | true =>
    have hd := vd_of hv
    have h10 := hd.n10
    by_cases hn : xs.length = 0
    · have e : pmV xs = (0, false) := by simp [pmV, hn]
      rw [e]
      clear e
      have q1 : ((xs.length : Int) == 0) = true := by simp [hn]
      have q2 : (xs.length == 0) = true := by simp [hn]
      clear hn
      go_enter Try.func19, Try.ntmps19
      go_wp2_with (go_at_call 48; refine (svalidData_any _ _ _ _ _ H.out hl).mono ?_; rintro e w1 ⟨rfl, rfl⟩; rw [hv])
      go_ret2
      exact ⟨rfl, by (repeat' (first | (with_reducible exact Below.refl _ _) | (with_reducible assumption) | (with_reducible refine Below.drewN ?_ _) | (with_reducible refine Below.alloc ?_ ?_ _) | (with_reducible refine Below.drew ?_) | (with_reducible refine Below.setCell ?_ ?_ _) | (with_reducible refine Below.trans ?_ (Below.mono (by assumption) ?_)) | go_size | (with_reducible refine Nat.le_trans ?_ (Below.size (by assumption)))))⟩
    · have e : pmV xs = (midI (prs xs xs.length), true) := by simp [pmV, hv, hn]
      rw [e]
      clear e
      have q1 : ((xs.length : Int) == 0) = false := by simp [hn]
      have hb := bound_of_mem (prs_bound hd.x xs.length (Nat.le_refl _))
      have HX := Lib.hid hd.x
      have HBD := Lib.hid hb
      have hpl := prs_le (xs := xs) h10
      have hp1 : 1 ≤ (prs xs xs.length).length := by
        rw [prs_length]
        have : 1 * (1 + 1) ≤ xs.length * (xs.length + 1) := Nat.mul_le_mul (by omega) (by omega)
        omega
      obtain ⟨L, hL⟩ : ∃ L, prs xs xs.length = L := ⟨_, rfl⟩
      rw [hL] at hpl hp1 HBD ⊢
      have HL := Lib.hid hL
      clear hd hb hL
      go_enter Try.func19, Try.ntmps19
      go_wp2_with (first
        | (go_at_call 48; refine (svalidData_any _ _ _ _ _ H.out hl).mono ?_; rintro e w1 ⟨rfl, rfl⟩; rw [hv])
        | (go_at_call 51; refine (spairSums_any _ _ _ _ _ H.out h10 HX.out).mono ?_; rw [HL.out]; rintro e w2 ⟨v, rfl, ho, hb2⟩; obtain ⟨g, cap, rfl, hg⟩ := ho.shape (by omega); have HR := Lib.hid ho.row; clear ho)
        | (go_at_call 49; refine (smiddle_any _ _ _ L 400 _ HR.out (by omega) hp1 HBD.out (by omega)).mono ?_; rintro e w3 ⟨rfl, hb3⟩))
      go_ret2
      exact ⟨rfl, hb2.trans (hb3.mono hb2.size)⟩

set_option maxHeartbeats 4000000 in
theorem pairMiddle_any (b o c : Nat) (xs : List Int) (w : World) (h : RowI w b o xs) (hl : xs.length ≤ 1099511627776) (hc : xs.length ≤ c) :
    Calls Try.prog 20 #[.slice (some ⟨b, o, none⟩) xs.length c] w fun e w' => e = .returned (.tuple #[.int .i64 (pmV xs).1, .bool (pmV xs).2]) ∧ Below w.heap.size w w' := by
  have H := Lib.hid h
  clear h
  cases hv : vdB xs with
  | false =>
    have e : pmV xs = (0, false) := by simp [pmV, hv]
    rw [e]
    clear e
    go_enter Try.func20, Try.ntmps20
    go_wp2_with (go_at_call 34; refine (validData_any _ _ _ _ _ H.out hl).mono ?_; rintro e w1 ⟨rfl, hb1⟩; rw [hv])
    go_ret2
    exact ⟨rfl, by (repeat' (first | (with_reducible exact Below.refl _ _) | (with_reducible assumption) | (with_reducible refine Below.drewN ?_ _) | (with_reducible refine Below.alloc ?_ ?_ _) | (with_reducible refine Below.drew ?_) | (with_reducible refine Below.setCell ?_ ?_ _) | (with_reducible refine Below.trans ?_ (Below.mono (by assumption) ?_)) | go_size | (with_reducible refine Nat.le_trans ?_ (Below.size (by assumption)))))⟩
  | true =>
    have hd := vd_of hv
    have h10 := hd.n10
    by_cases hn : xs.length = 0
    · have e : pmV xs = (0, false) := by simp [pmV, hn]
      rw [e]
      clear e
      have q1 : ((xs.length : Int) == 0) = true := by simp [hn]
      have q2 : (xs.length == 0) = true := by simp [hn]
      clear hn
      go_enter Try.func20, Try.ntmps20
      go_wp2_with (go_at_call 34; refine (validData_any _ _ _ _ _ H.out hl).mono ?_; rintro e w1 ⟨rfl, hb1⟩; rw [hv])
      go_ret2
      exact ⟨rfl, by (repeat' (first | (with_reducible exact Below.refl _ _) | (with_reducible assumption) | (with_reducible refine Below.drewN ?_ _) | (with_reducible refine Below.alloc ?_ ?_ _) | (with_reducible refine Below.drew ?_) | (with_reducible refine Below.setCell ?_ ?_ _) | (with_reducible refine Below.trans ?_ (Below.mono (by assumption) ?_)) | go_size | (with_reducible refine Nat.le_trans ?_ (Below.size (by assumption)))))⟩
    · have e : pmV xs = (midI (prs xs xs.length), true) := by simp [pmV, hv, hn]
      rw [e]
      clear e
      have q1 : ((xs.length : Int) == 0) = false := by simp [hn]
      have hb := bound_of_mem (prs_bound hd.x xs.length (Nat.le_refl _))
      have HX := Lib.hid hd.x
      have HBD := Lib.hid hb
      have hpl := prs_le (xs := xs) h10
      have hp1 : 1 ≤ (prs xs xs.length).length := by
        rw [prs_length]
        have : 1 * (1 + 1) ≤ xs.length * (xs.length + 1) := Nat.mul_le_mul (by omega) (by omega)
        omega
      clear hd hb
      go_enter Try.func20, Try.ntmps20
      go_wp2_with (go_at_call 34; refine (validData_any _ _ _ _ _ H.out hl).mono ?_; rintro e w1 ⟨rfl, hb1⟩; rw [hv])
      have HW := Lib.hid hb1
      clear hb1
      go_loopw [4, 19] (fun v4 v19 wr => ∃ i : Nat, i ≤ xs.length ∧ v19 = .int .i64 i ∧ OwnI wr w.heap.size v4 (prs xs i).length (prs xs i) ∧ Below w.heap.size w wr) (fun _ v19 _ => xs.length - (intOf v19).toNat)
      case atStart => exact ⟨0, Nat.zero_le _, rfl, OwnI.nil _ _, HW.out⟩
      case round =>
        obtain ⟨i, hi, rfl, hown, hb⟩ := hrel
        have hz := hb.size
        have HO := Lib.hid hown
        clear hown
        by_cases hlt : i < xs.length
        · have c1 := (H.out.below hb).cell i hlt
          have q3 : IntKind.i64.wrap ((i : Int) + 1) = ((i + 1 : Nat) : Int) := by rw [IntWalk.i64_in _ (by omega)]; omega
          have q4 : ((i + 1 : Nat) : Int) ≤ (c : Int) := by omega
          have q5 : (0 : Int) ≤ ((i + 1 : Nat) : Int) := by omega
          have x1 := HX.out i hlt
          have HB := Lib.hid hb
          obtain ⟨p, hp⟩ : ∃ p, gi xs i = p := ⟨_, rfl⟩
          have HP := Lib.hid hp
          rw [hp] at c1 x1
          clear hb hp
          go_wp2_with fail
          go_loopw [4, 29] (fun v4 v29 wr => ∃ k : Nat, k ≤ i + 1 ∧ v29 = .int .i64 k ∧ OwnI wr w.heap.size v4 ((prs xs i).length + k) (prs xs i ++ tabI (fun k => gi xs i + gi xs k) k) ∧ Below w.heap.size w wr) (fun _ v29 _ => i + 1 - (intOf v29).toNat)
          case atStart => exact ⟨0, Nat.zero_le _, rfl, by simpa [tabI] using HO.out, HB.out⟩
          case round =>
            obtain ⟨k, hk, rfl, hown, hb⟩ := hrel
            have HO := Lib.hid hown
            have hz := hb.size
            clear hown
            by_cases hkl : k < i + 1
            · have c2 := (H.out.below hb).cell k (by omega)
              have x2 := HX.out k (by omega)
              obtain ⟨q, hq⟩ : ∃ q, gi xs k = q := ⟨_, rfl⟩
              have hpq : gi xs i + gi xs k = p + q := by rw [HP.out, hq]
              have HPQ := Lib.hid hpq
              rw [hq] at c2 x2
              have q6 : IntKind.i64.wrap (p + q) = p + q := IntWalk.i64_in _ (by omega)
              have q7 : (k : Int) < ((i + 1 : Nat) : Int) := by omega
              have hle := prs_le (xs := xs) (i := i) (by omega)
              have HB := Lib.hid hb
              clear hq hpq hb
              go_wp2_with (at_builtin; refine wpList_app1 rfl (.tmp 33) (.tmp 37) 22 rfl w.heap.size 3 (.int .i64 0) 1 8 Try.underlying22 infoI rfl (by decide) (by decide) _ _ _ rfl (World.ownsRow.alloc HO.out _) ⟨_, 0, none⟩ 1 [.int .i64 (p + q)] rfl rfl (cell_one_new _ _ _) (by simp [Value.oneCell']) (by omega) (by simp; omega) ?_; intro g2 cap2 w4 o1 o2 o3)
              go_roundw
              case rel =>
                exact ⟨k + 1, by omega, by go_num, by rw [tabI_succ, HPQ.out, ← List.append_assoc]; exact OwnI.app o1, (HB.out.alloc (by omega) _).trans (Below.app (World.ownsRow.alloc HO.out _) (by simp; omega) o2)⟩
              case measure => simp [intOf]; omega
            · have hke : k = i + 1 := by omega
              have HE := Lib.hid hke
              have q7 : ¬ ((k : Int) < ((i + 1 : Nat) : Int)) := by omega
              have HB := Lib.hid hb
              clear hb hke
              go_wp2_with fail
              go_roundw
              case rel => exact ⟨i + 1, by omega, by go_num, by rw [prs, List.length_append, tabI_length]; have := HO.out; rw [HE.out] at this; exact this, HB.out⟩
              case measure => simp [intOf]; omega
        · obtain rfl : i = xs.length := by omega
          have HB := Lib.hid hb
          clear hb
          obtain ⟨L, hL⟩ : ∃ L, prs xs xs.length = L := ⟨_, rfl⟩
          have ho := HO.out
          rw [hL] at hpl hp1 HBD ho
          have HL := Lib.hid hL
          clear HO hL
          obtain ⟨g, cap, rfl, hg⟩ := ho.shape (by omega)
          have HR := Lib.hid ho.row
          clear ho
          go_wp2_with (go_at_call 50; refine (middle_any _ _ _ L 400 _ HR.out (by omega) hp1 HBD.out (by omega)).mono ?_; rintro e w3 ⟨rfl, hb3⟩)
          go_ret2
          exact ⟨by rw [HL.out]; rfl, HB.out.trans (hb3.mono HB.out.size)⟩

end Go.Proofs.Ythemnkcgpcgilaa
