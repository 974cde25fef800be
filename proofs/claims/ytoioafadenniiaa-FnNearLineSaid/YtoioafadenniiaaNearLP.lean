/- Plain facts: the nearest of the lines through two of the points. No program here. -/
import Derived.Test.YtoioafadenniiaaWmed
namespace Go.Proofs.Ytoioafadenniiaa

/-- How far j is above a line; the height of the line through i and k; the sum of the sizes. -/
def ofR (xs ys : List Int) (s h : Rat) (j : Nat) : Rat := qd (gi ys j) 1 - (s * qd (gi xs j) 1 + h)
def nhR (xs ys : List Int) (i k : Nat) : Rat := qd (gi ys i) 1 - slR xs ys i k * qd (gi xs i) 1
def nsR (xs ys : List Int) (s h : Rat) (n : Nat) : Rat := rsum (fun j => szR (ofR xs ys s h j)) n
def nfR (xs ys : List Int) (i k : Nat) : Rat := nsR xs ys (slR xs ys i k) (nhR xs ys i k) xs.length
/-- Behind one more pair, the pairs of a row, the rows. -/
def nlU (xs ys : List Int) (o : Option (Nat × Nat)) (i k : Nat) : Option (Nat × Nat) :=
  match o with
  | none => some (i, k)
  | some p => if nfR xs ys i k < nfR xs ys p.1 p.2 then some (i, k) else some p
def nlK (xs ys : List Int) (i : Nat) (o : Option (Nat × Nat)) : Nat → Option (Nat × Nat)
  | 0 => o
  | d + 1 => if d ≤ i then o else if gi xs i = gi xs d then nlK xs ys i o d else nlU xs ys (nlK xs ys i o d) i d
def nlI (xs ys : List Int) : Nat → Option (Nat × Nat)
  | 0 => none
  | i + 1 => nlK xs ys i (nlI xs ys i) xs.length
theorem nlK_start (xs ys : List Int) (i : Nat) (o : Option (Nat × Nat)) : nlK xs ys i o (i + 1) = o := by simp [nlK]
theorem nlK_same {xs ys : List Int} {i k : Nat} {o : Option (Nat × Nat)} (hk : i < k) (h : gi xs i = gi xs k) : nlK xs ys i o (k + 1) = nlK xs ys i o k := by
  simp only [nlK]; rw [if_neg (by omega), if_pos h]
theorem nlK_next {xs ys : List Int} {i k : Nat} {o : Option (Nat × Nat)} (hk : i < k) (h : gi xs i ≠ gi xs k) : nlK xs ys i o (k + 1) = nlU xs ys (nlK xs ys i o k) i k := by
  simp only [nlK]; rw [if_neg (by omega), if_neg h]
theorem nlI_done (xs ys : List Int) (i : Nat) {k : Nat} (hk : k = xs.length) : nlK xs ys i (nlI xs ys i) k = nlI xs ys (i + 1) := by
  subst hk
  rfl

/-- A pair of points with different xs. -/
def NPair (xs : List Int) (i k : Nat) : Prop := i < k ∧ k < xs.length ∧ gi xs i ≠ gi xs k
/-- What is kept is the first pair with the least sum of those that a predicate holds of. -/
def NBest (xs ys : List Int) (P : Nat → Nat → Prop) (o : Option (Nat × Nat)) : Prop :=
  (∀ p, o = some p → NPair xs p.1 p.2) ∧ ∀ a b, NPair xs a b → P a b → ∃ p, o = some p ∧ nfR xs ys p.1 p.2 ≤ nfR xs ys a b
theorem nbest_step {xs ys : List Int} {P : Nat → Nat → Prop} {o : Option (Nat × Nat)} (h : NBest xs ys P o) {i k : Nat} (hp : NPair xs i k) : NBest xs ys (fun a b => P a b ∨ (a = i ∧ b = k)) (nlU xs ys o i k) := by
  cases o with
  | none =>
    refine ⟨fun p e => ?_, fun a b hab hP => ?_⟩
    · simp only [nlU, Option.some.injEq] at e
      subst e
      exact hp
    · rcases hP with hP | ⟨rfl, rfl⟩
      · obtain ⟨p, e, _⟩ := h.2 a b hab hP
        exact absurd e (by simp)
      · exact ⟨_, rfl, Rat.le_refl⟩
  | some p =>
    simp only [nlU]
    by_cases hl : nfR xs ys i k < nfR xs ys p.1 p.2
    · rw [if_pos hl]
      refine ⟨fun p e => ?_, fun a b hab hP => ?_⟩
      · simp only [Option.some.injEq] at e
        subst e
        exact hp
      · rcases hP with hP | ⟨rfl, rfl⟩
        · obtain ⟨p', e, hle⟩ := h.2 a b hab hP
          simp only [Option.some.injEq] at e
          subst e
          exact ⟨_, rfl, by dsimp only; grind⟩
        · exact ⟨_, rfl, Rat.le_refl⟩
    · rw [if_neg hl]
      refine ⟨h.1, fun a b hab hP => ?_⟩
      rcases hP with hP | ⟨rfl, rfl⟩
      · exact h.2 a b hab hP
      · exact ⟨_, rfl, by grind⟩
theorem NBest.weak {xs ys : List Int} {P Q : Nat → Nat → Prop} {o : Option (Nat × Nat)} (h : NBest xs ys P o) (hQ : ∀ a b, NPair xs a b → Q a b → P a b) : NBest xs ys Q o :=
  ⟨h.1, fun a b hab hq => h.2 a b hab (hQ a b hab hq)⟩
theorem nlK_best {xs ys : List Int} {i : Nat} {o : Option (Nat × Nat)} {P : Nat → Nat → Prop} (h : NBest xs ys P o) : ∀ k, k ≤ xs.length → NBest xs ys (fun a b => P a b ∨ (a = i ∧ b < k)) (nlK xs ys i o k)
  | 0, _ => h.weak fun a b _ hq => by
    rcases hq with hq | hq
    · exact hq
    · omega
  | k + 1, hk => by
    by_cases h1 : k ≤ i
    · simp only [nlK]
      rw [if_pos h1]
      refine h.weak fun a b hab hq => ?_
      rcases hq with hq | hq
      · exact hq
      · have := hab.1
        omega
    · have ih := nlK_best (i := i) h k (by omega)
      by_cases hx : gi xs i = gi xs k
      · rw [nlK_same (by omega) hx]
        refine ih.weak fun a b hab hq => ?_
        rcases hq with hq | ⟨rfl, hq⟩
        · exact .inl hq
        · refine .inr ⟨rfl, ?_⟩
          have : b ≠ k := fun e => hab.2.2 (e ▸ hx)
          omega
      · rw [nlK_next (by omega) hx]
        refine (nbest_step ih ⟨by omega, by omega, hx⟩).weak fun a b hab hq => ?_
        rcases hq with hq | ⟨rfl, hq⟩
        · exact .inl (.inl hq)
        · by_cases e : b = k
          · exact .inr ⟨rfl, e⟩
          · exact .inl (.inr ⟨rfl, by omega⟩)
theorem nlI_best (xs ys : List Int) : ∀ i, i ≤ xs.length → NBest xs ys (fun a _ => a < i) (nlI xs ys i)
  | 0, _ => ⟨fun p e => absurd e (by simp [nlI]), fun a b _ h => absurd h (Nat.not_lt_zero _)⟩
  | i + 1, hi => by
    refine (nlK_best (i := i) (nlI_best xs ys i (by omega)) xs.length (Nat.le_refl _)).weak fun a b hab hq => ?_
    by_cases e : a = i
    · exact .inr ⟨e, hab.2.1⟩
    · exact .inl (by omega)
/-- The nearest: a pair, whose sum is no more than any other's. -/
theorem nl_all {xs ys : List Int} (hc : Cl xs ys) : ∃ i k, nlI xs ys xs.length = some (i, k) ∧ NPair xs i k ∧ ∀ a b, NPair xs a b → nfR xs ys i k ≤ nfR xs ys a b := by
  have hb := nlI_best xs ys xs.length (Nat.le_refl _)
  obtain ⟨k, hk, hne⟩ := wdB_iff.1 hc.wd
  have hp : NPair xs 0 k := ⟨by
    rcases Nat.eq_zero_or_pos k with e | e
    · subst e; exact absurd rfl hne
    · exact e, hk, fun e => hne e.symm⟩
  obtain ⟨p, e, _⟩ := hb.2 0 k hp (by omega)
  refine ⟨p.1, p.2, e, hb.1 p e, fun a b hab => ?_⟩
  obtain ⟨p', e', hle⟩ := hb.2 a b hab (by have := hab.1; have := hab.2.1; omega)
  rw [e] at e'
  simp only [Option.some.injEq] at e'
  subst e'
  exact hle

/-- In numbers over one number. -/
theorem Pt.neg {E K : Int} {p : Rat} (h : Pt E K p) : Pt E K (-p) := by
  obtain ⟨k, h1, h2, rfl⟩ := h
  exact ⟨-k, by omega, by omega, by unfold qd; rw [Rat.neg_divInt]⟩
theorem Pt.sub {E K L : Int} {p q : Rat} (hE : E ≠ 0) (hp : Pt E K p) (hq : Pt E L q) : Pt E (K + L) (p - q) := by
  rw [Rat.sub_eq_add_neg]
  exact hp.add hE hq.neg
theorem Pt.size {E K : Int} {p : Rat} (h : Pt E K p) : Pt E K (szR p) := by
  unfold szR
  split
  · exact h.neg
  · exact h
theorem Pt.int {E M z K : Int} (hE : E ≠ 0) (h : -M ≤ z ∧ z ≤ M) (hK : M * E ≤ K) (h0 : 0 < E) : Pt E K (qd z 1) := by
  have m := mul_bd (x := z) (y := E) (A := M) (B := E) h (by omega)
  refine ⟨z * E, by omega, by omega, ?_⟩
  rw [qd_up z 1 E (by omega) hE, Int.one_mul]
theorem Pt.rsum {E K : Int} (hE : E ≠ 0) {f : Nat → Rat} : ∀ n, (∀ j, j < n → Pt E K (f j)) → Pt E (K * (n : Int)) (rsum f n)
  | 0, _ => by
    have h := Pt.zero (E := E) (K := 0) hE (by omega)
    simpa [Go.Proofs.Ytoioafadenniiaa.rsum] using h
  | n + 1, h => by
    have h1 := Pt.rsum hE n fun j hj => h j (by omega)
    have h2 := h1.add hE (h n (by omega))
    simp only [Go.Proofs.Ytoioafadenniiaa.rsum]
    have e : K * ((n + 1 : Nat) : Int) = K * (n : Int) + K := by grind
    rw [e]
    exact h2

structure NlB (xs ys : List Int) (i k : Nat) : Prop where
  s : Sm 24 24 (slR xs ys i k)
  t : ∀ j, j < xs.length → Sm 288 24 (slR xs ys i k * qd (gi xs j) 1)
  h : Sm 576 24 (nhR xs ys i k)
  l : ∀ j, j < xs.length → Sm 864 24 (slR xs ys i k * qd (gi xs j) 1 + nhR xs ys i k)
  o : ∀ j, j < xs.length → Sm 1152 24 (ofR xs ys (slR xs ys i k) (nhR xs ys i k) j)
  f : ∀ j, j ≤ xs.length → Sm 8064 24 (nsR xs ys (slR xs ys i k) (nhR xs ys i k) j)
theorem nl_bd {xs ys : List Int} (hp : Pl xs ys 7) {i k : Nat} (hi : i < xs.length) (hk : k < xs.length) (h : gi xs i ≠ gi xs k) : NlB xs ys i k := by
  have a1 := hp.x i hi
  have a2 := hp.x k hk
  have b1 := hp.y i hi
  have b2 := hp.y k hk
  have n7 := hp.nm
  obtain ⟨E, e0, e24, hs⟩ : ∃ E : Int, 0 < E ∧ E ≤ 24 ∧ Pt E 24 (slR xs ys i k) := by
    rcases Int.lt_or_gt_of_ne h with hl | hl
    · refine ⟨gi xs k - gi xs i, by omega, by omega, -(gi ys i - gi ys k), by omega, by omega, ?_⟩
      unfold slR
      rw [← qd_neg2 (gi ys i - gi ys k) _ (by omega)]
      congr 1
      omega
    · exact ⟨gi xs i - gi xs k, by omega, by omega, gi ys i - gi ys k, by omega, by omega, rfl⟩
  have hE : E ≠ 0 := by omega
  have ht : ∀ j, j < xs.length → Pt E 288 (slR xs ys i k * qd (gi xs j) 1) := fun j hj => (hs.mul (M := 12) (hp.x j hj)).mono (by omega)
  have hh : Pt E 576 (nhR xs ys i k) := ((Pt.int (K := 288) hE b1 (by omega) e0).sub hE (ht i hi)).mono (by omega)
  have hl : ∀ j, j < xs.length → Pt E 864 (slR xs ys i k * qd (gi xs j) 1 + nhR xs ys i k) := fun j hj => ((ht j hj).add hE hh).mono (by omega)
  have ho : ∀ j, j < xs.length → Pt E 1152 (ofR xs ys (slR xs ys i k) (nhR xs ys i k) j) := fun j hj => ((Pt.int (K := 288) hE (hp.y j hj) (by omega) e0).sub hE (hl j hj)).mono (by omega)
  refine ⟨hs.sm e0 e24, fun j hj => (ht j hj).sm e0 e24, hh.sm e0 e24, fun j hj => (hl j hj).sm e0 e24, fun j hj => (ho j hj).sm e0 e24, fun j hj => ?_⟩
  have := Pt.rsum hE j fun a ha => (ho a (by omega)).size
  exact (this.mono (L := 8064) (by omega)).sm e0 e24

theorem of_left (xs ys : List Int) (i k : Nat) : ofR xs ys (slR xs ys i k) (nhR xs ys i k) i = 0 := by
  unfold ofR nhR
  grind
theorem nh_comm {xs ys : List Int} {i k : Nat} (h : gi xs i ≠ gi xs k) : nhR xs ys i k = nhR xs ys k i := by
  have h1 := slR_mul (ys := ys) h
  have h2 := slR_comm (ys := ys) h
  unfold nhR
  rw [← h2]
  rw [qd_sub1, qd_sub1] at h1
  grind
theorem of_right {xs ys : List Int} {i k : Nat} (h : gi xs i ≠ gi xs k) : ofR xs ys (slR xs ys i k) (nhR xs ys i k) k = 0 := by
  rw [nh_comm h, slR_comm h]
  exact of_left xs ys k i
theorem nf_comm {xs ys : List Int} {i k : Nat} (h : gi xs i ≠ gi xs k) : nfR xs ys i k = nfR xs ys k i := by
  unfold nfR
  rw [nh_comm h, slR_comm h]

theorem szR_mul {w s : Rat} (h : 0 ≤ w) : w * szR s = szR (w * s) := by
  rcases Rat.le_total (a := 0) (b := s) with hs | hs
  · rw [szR_pos hs, szR_pos (Rat.mul_nonneg h hs)]
  · have := Rat.mul_nonneg h (show 0 ≤ -s by grind)
    rw [szR_nonpos hs, szR_nonpos (show w * s ≤ 0 by grind)]
    grind

/-- No line has a lesser sum than all those through two points. -/
theorem near_least {xs ys : List Int} (hc : Cl xs ys) (P Q : Rat) : ∃ a b, NPair xs a b ∧ nfR xs ys a b ≤ nsR xs ys P Q xs.length := by
  have n0 := hc.pl.n0
  obtain ⟨k, hk, _, h1⟩ := wmed (fun _ => 1) (fun j => qd (gi ys j) 1 - P * qd (gi xs j) 1) xs.length (fun _ _ => by decide) ⟨0, by omega, by decide⟩ Q
  obtain ⟨wt, hwt⟩ : ∃ wt : Nat → Rat, wt = fun j => szR (qd (gi xs j) 1 - qd (gi xs k) 1) := ⟨_, rfl⟩
  have w0 : ∀ j, 0 ≤ wt j := fun j => by
    rw [hwt]
    dsimp only
    unfold szR
    split <;> grind
  have wz : ∀ j, gi xs j = gi xs k → wt j = 0 := fun j e => by
    rw [hwt]
    dsimp only
    rw [e]
    rw [show qd (gi xs k) 1 - qd (gi xs k) 1 = 0 from by grind]
    exact szR_zero
  have wp : ∀ j, gi xs j ≠ gi xs k → 0 < wt j := fun j e => by
    have hne : qd (gi xs j) 1 ≠ qd (gi xs k) 1 := fun h => e (by rw [qd_i, qd_i] at h; exact Rat.intCast_inj.1 h)
    rw [hwt]
    dsimp only
    unfold szR
    split <;> grind
  have hex : ∃ j, j < xs.length ∧ 0 < wt j := by
    obtain ⟨m, hm, hne⟩ := wdB_iff.1 hc.wd
    by_cases e : gi xs m = gi xs k
    · exact ⟨0, by omega, wp 0 fun h => hne (by rw [e, h])⟩
    · exact ⟨m, hm, wp m e⟩
  obtain ⟨m, hm, hwm, h2⟩ := wmed wt (fun j => slR xs ys j k) xs.length (fun j _ => w0 j) hex P
  have hne : gi xs m ≠ gi xs k := fun e => by
    rw [wz m e] at hwm
    exact absurd hwm (by decide)
  obtain ⟨c, hcc⟩ : ∃ c : Nat → Rat, c = fun j => if gi xs j = gi xs k then szR (qd (gi ys j) 1 - qd (gi ys k) 1) else 0 := ⟨_, rfl⟩
  have key : ∀ (S : Rat) (j : Nat), wt j * szR (slR xs ys j k - S) + c j = szR (qd (gi ys j) 1 - (S * qd (gi xs j) 1 + (qd (gi ys k) 1 - S * qd (gi xs k) 1))) := fun S j => by
    by_cases e : gi xs j = gi xs k
    · rw [wz j e, hcc]
      dsimp only
      rw [if_pos e, e, show qd (gi ys j) 1 - (S * qd (gi xs k) 1 + (qd (gi ys k) 1 - S * qd (gi xs k) 1)) = qd (gi ys j) 1 - qd (gi ys k) 1 from by grind]
      grind
    · rw [hcc]
      dsimp only
      rw [if_neg e, szR_mul (w0 j)]
      have h3 := slR_mul (ys := ys) e
      rw [qd_sub1, qd_sub1] at h3
      rw [hwt]
      dsimp only
      have e2 : qd (gi ys j) 1 - (S * qd (gi xs j) 1 + (qd (gi ys k) 1 - S * qd (gi xs k) 1)) = (slR xs ys j k - S) * (qd (gi xs j) 1 - qd (gi xs k) 1) := by grind
      rw [e2]
      rcases Rat.le_total (a := 0) (b := qd (gi xs j) 1 - qd (gi xs k) 1) with hs | hs
      · rw [szR_pos hs]
        grind
      · rw [szR_nonpos hs]
        rw [show -(qd (gi xs j) 1 - qd (gi xs k) 1) * (slR xs ys j k - S) = -((slR xs ys j k - S) * (qd (gi xs j) 1 - qd (gi xs k) 1)) from by grind]
        generalize (slR xs ys j k - S) * (qd (gi xs j) 1 - qd (gi xs k) 1) = z
        unfold szR
        split <;> split <;> grind
  have sums : ∀ S : Rat, rsum (fun j => wt j * szR (slR xs ys j k - S) + 1 * c j) xs.length = nsR xs ys S (qd (gi ys k) 1 - S * qd (gi xs k) 1) xs.length := fun S =>
    rsum_eq _ fun j _ => by
      unfold ofR
      rw [← key S j]
      grind
  have e1 := sums (slR xs ys m k)
  have e2 := sums P
  rw [rsum_lin] at e1 e2
  have e3 : nsR xs ys P (qd (gi ys k) 1 - P * qd (gi xs k) 1) xs.length ≤ nsR xs ys P Q xs.length := by
    have f1 : nsR xs ys P (qd (gi ys k) 1 - P * qd (gi xs k) 1) xs.length = rsum (fun j => 1 * szR (qd (gi ys j) 1 - P * qd (gi xs j) 1 - (qd (gi ys k) 1 - P * qd (gi xs k) 1))) xs.length := rsum_eq _ fun j _ => by
      unfold ofR
      rw [show qd (gi ys j) 1 - (P * qd (gi xs j) 1 + (qd (gi ys k) 1 - P * qd (gi xs k) 1)) = qd (gi ys j) 1 - P * qd (gi xs j) 1 - (qd (gi ys k) 1 - P * qd (gi xs k) 1) from by grind]
      grind
    have f2 : nsR xs ys P Q xs.length = rsum (fun j => 1 * szR (qd (gi ys j) 1 - P * qd (gi xs j) 1 - Q)) xs.length := rsum_eq _ fun j _ => by
      unfold ofR
      rw [show qd (gi ys j) 1 - (P * qd (gi xs j) 1 + Q) = qd (gi ys j) 1 - P * qd (gi xs j) 1 - Q from by grind]
      grind
    rw [f1, f2]
    exact h1
  have e4 : nsR xs ys (slR xs ys m k) (nhR xs ys m k) xs.length ≤ nsR xs ys P Q xs.length := by
    rw [nh_comm hne]
    have : nhR xs ys k m = qd (gi ys k) 1 - slR xs ys m k * qd (gi xs k) 1 := by
      unfold nhR
      rw [slR_comm hne]
    rw [this]
    grind
  rcases Nat.lt_trichotomy m k with hl | hl | hl
  · exact ⟨m, k, ⟨hl, hk, hne⟩, e4⟩
  · subst hl
    exact absurd rfl hne
  · refine ⟨k, m, ⟨hl, hm, fun e => hne e.symm⟩, ?_⟩
    rw [← nf_comm hne]
    exact e4

end Go.Proofs.Ytoioafadenniiaa
