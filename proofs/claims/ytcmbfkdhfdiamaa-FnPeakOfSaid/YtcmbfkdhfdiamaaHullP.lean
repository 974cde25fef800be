/- The convex line below: where its first side ends; the row that rises, turned round. No program here. -/
import Derived.Test.YtcmbfkdhfdiamaaSame
namespace Go.Proofs.Ytcmbfkdhfdiamaa
open Go.RowKit

/-- The last one of those, from i on, up to which the mean is the least. -/
def hullE (xs ws : List Int) (i : Nat) : Nat → Nat
  | 0 => i
  | n + 1 => if mq xs ws i (hullE xs ws i n) < mq xs ws i (i + (n + 1)) then hullE xs ws i n else i + (n + 1)
theorem hullE_bd {xs ws : List Int} {i : Nat} : ∀ n, i ≤ hullE xs ws i n ∧ hullE xs ws i n ≤ i + n
  | 0 => ⟨Nat.le_refl _, Nat.le_refl _⟩
  | n + 1 => by
    have ih := hullE_bd (xs := xs) (ws := ws) (i := i) n
    simp only [hullE]
    split
    · omega
    · omega
theorem hullE_min {xs ws : List Int} {i : Nat} : ∀ n k, i ≤ k → k ≤ i + n → mq xs ws i (hullE xs ws i n) ≤ mq xs ws i k
  | 0, k, h1, h2 => by obtain rfl : k = i := by omega
                       exact Rat.le_refl
  | n + 1, k, h1, h2 => by
    have ih := hullE_min (xs := xs) (ws := ws) (i := i) n
    simp only [hullE]
    by_cases hk : k = i + (n + 1)
    · subst hk; split <;> grind
    · have := ih k h1 (by omega); split <;> grind
theorem hullE_last {xs ws : List Int} {i : Nat} : ∀ n k, hullE xs ws i n < k → k ≤ i + n → mq xs ws i (hullE xs ws i n) < mq xs ws i k
  | 0, k, h1, h2 => by simp only [hullE] at h1; omega
  | n + 1, k, h1, h2 => by
    have ih := hullE_last (xs := xs) (ws := ws) (i := i) n k
    by_cases hlt : mq xs ws i (hullE xs ws i n) < mq xs ws i (i + (n + 1))
    · simp only [hullE, if_pos hlt] at h1 ⊢
      by_cases hk : k = i + (n + 1)
      · subst hk; exact hlt
      · exact ih h1 (by omega)
    · simp only [hullE, if_neg hlt] at h1
      omega

/-- Past a block's end the mean from its beginning on is greater. -/
theorem Bks.past {xs ws : List Int} {m : Nat} {B : Nat → Nat} (hv : Vl xs ws) (h : Bks xs ws m B) {i : Nat} (hi : i < m) {k : Nat} (hk : B (i + 1) - B i < k) (hkn : B i + k ≤ xs.length) :
    mn xs ws (B i) (B (i + 1) - B i) < mn xs ws (B i) k := by
  have hu := h.up i hi
  have hl := h.le (m - (i + 1)) (i + 1) (by omega)
  have hi1 : i + 1 < m := by
    rcases Nat.lt_or_ge (i + 1) m with h1 | h1
    · exact h1
    · have := h.last
      rw [show m = i + 1 from by omega] at this
      omega
  obtain ⟨t, ht⟩ : ∃ t, k = (B (i + 1) - B i) + t := ⟨k - (B (i + 1) - B i), by omega⟩
  have hB : B i + (B (i + 1) - B i) = B (i + 1) := by omega
  have hinc := h.inc i hi1
  have hf := h.from hv (m - (i + 1)) (i + 1) (by omega) (by omega) (c := mn xs ws (B (i + 1)) (B (i + 1 + 1) - B (i + 1))) Rat.le_refl t (by omega) (by omega)
  rw [show i + 1 + 1 = i + 2 from rfl] at hf
  have p0 := dsum_pos hv (i := B (i + 1)) (n := t) (by omega) (by omega)
  have e1 := mn_mul hv (i := B i) (n := B (i + 1) - B i) (by omega) (by omega)
  have e2 := mn_mul hv (i := B i) (n := k) (by omega) (by omega)
  have p2 := dsum_pos hv (i := B i) (n := k) (by omega) (by omega)
  have k1 : 0 < (mn xs ws (B (i + 1)) (B (i + 2) - B (i + 1)) - mn xs ws (B i) (B (i + 1) - B i)) * (dsum ws (B (i + 1)) t : Rat) := Rat.mul_pos (by grind) p0
  generalize mn xs ws (B i) (B (i + 1) - B i) = c at *
  generalize mn xs ws (B (i + 1)) (B (i + 2) - B (i + 1)) = c' at *
  have e3 : (wsum xs ws (B i) k : Rat) = (wsum xs ws (B i) (B (i + 1) - B i) : Rat) + (wsum xs ws (B (i + 1)) t : Rat) := by rw [ht, wsum_add, hB, Rat.intCast_add]
  have e4 : (dsum ws (B i) k : Rat) = (dsum ws (B i) (B (i + 1) - B i) : Rat) + (dsum ws (B (i + 1)) t : Rat) := by rw [ht, dsum_add, hB, Rat.intCast_add]
  by_cases hlt : c < mn xs ws (B i) k
  · exact hlt
  · have k3 : 0 ≤ (c - mn xs ws (B i) k) * (dsum ws (B i) k : Rat) := Rat.mul_nonneg (by grind) (by grind)
    exfalso
    rw [e3] at e2
    have : (c - mn xs ws (B i) k) * (dsum ws (B i) k : Rat) = c * ((dsum ws (B i) (B (i + 1) - B i) : Rat) + (dsum ws (B (i + 1)) t : Rat)) - ((wsum xs ws (B i) (B (i + 1) - B i) : Rat) + (wsum xs ws (B (i + 1)) t : Rat)) := by rw [← e2, ← e4]; grind
    grind

theorem hull_end {xs ws : List Int} {m : Nat} {B : Nat → Nat} (hv : Vl xs ws) (h : Bks xs ws m B) {i : Nat} (hi : i < m) : hullE xs ws (B i) (xs.length - 1 - B i) = B (i + 1) - 1 := by
  have hu := h.up i hi
  have hl := h.le (m - (i + 1)) (i + 1) (by omega)
  have b1 := hullE_bd (xs := xs) (ws := ws) (i := B i) (xs.length - 1 - B i)
  have b2 := hullE_min (xs := xs) (ws := ws) (i := B i) (xs.length - 1 - B i) (B (i + 1) - 1) (by omega) (by omega)
  have b3 := hullE_last (xs := xs) (ws := ws) (i := B i) (xs.length - 1 - B i) (B (i + 1) - 1)
  have b4 := h.from hv (m - i) i (by omega) (by omega) (c := mn xs ws (B i) (B (i + 1) - B i)) Rat.le_refl
  have b5 := fun k => h.past hv hi (k := k)
  generalize hullE xs ws (B i) (xs.length - 1 - B i) = e at *
  rw [mq_mn, mq_mn, show B (i + 1) - 1 + 1 - B i = B (i + 1) - B i from by omega] at b2 b3
  by_cases h1 : e < B (i + 1) - 1
  · have h2 := b3 h1 (by omega)
    have h3 := b4 (e + 1 - B i) (by omega) (by omega)
    have e1 := mn_mul hv (i := B i) (n := e + 1 - B i) (by omega) (by omega)
    have p1 := dsum_pos hv (i := B i) (n := e + 1 - B i) (by omega) (by omega)
    have k3 := nonneg_left (x := mn xs ws (B i) (e + 1 - B i) - mn xs ws (B i) (B (i + 1) - B i)) p1 (by grind)
    grind
  · by_cases h2 : B (i + 1) - 1 < e
    · have h3 := b5 (e + 1 - B i) (by omega) (by omega)
      grind
    · omega

/-- c is the mean between a and b of the row that rises. -/
structure Sad (xs ws : List Int) (a b : Nat) (c : Rat) : Prop where
  onw : ∀ k, 1 ≤ k → a + k ≤ xs.length → c * (dsum ws a k : Rat) ≤ (wsum xs ws a k : Rat)
  upto : ∀ s k, 1 ≤ k → s + k = b → (wsum xs ws s k : Rat) ≤ c * (dsum ws s k : Rat)
theorem sad_ex {xs ws : List Int} (hv : Vl xs ws) {x : Nat} (hx : x < xs.length) : ∃ a b, a ≤ x ∧ x < b ∧ b ≤ xs.length ∧ Sad xs ws a b (bestQ xs ws x) := by
  have hB := bks_pool hv
  have hd := poolR_dec1 (xs := xs) (ws := ws)
  obtain ⟨t, h1, h2, h3⟩ := bd_find (poolR_first hv.n0) (poolR xs ws xs.length).length x (by rw [bd_cons_eq]; exact hx)
  have e := bmq_eq (ws := ws) hd h1 h2 h3
  have hle := hB.le ((poolR xs ws xs.length).length - (t + 1)) (t + 1) (by omega)
  rw [best_eq hv hx, e, mq_mn]
  have hfr := hB.from hv ((poolR xs ws xs.length).length - t) t (by omega) (by omega) (c := mn xs ws (bd (xs.length :: poolR xs ws xs.length) t) (bd (xs.length :: poolR xs ws xs.length) (t + 1) - bd (xs.length :: poolR xs ws xs.length) t)) Rat.le_refl
  have hup := hB.upto hv t h1 (c := mn xs ws (bd (xs.length :: poolR xs ws xs.length) t) (bd (xs.length :: poolR xs ws xs.length) (t + 1) - bd (xs.length :: poolR xs ws xs.length) t)) Rat.le_refl
  generalize bd (xs.length :: poolR xs ws xs.length) t = a at *
  generalize bd (xs.length :: poolR xs ws xs.length) (t + 1) = b at *
  rw [show b - 1 + 1 - a = b - a from by omega]
  exact ⟨a, b, h2, h3, hle, hfr, hup⟩
theorem sad_best {xs ws : List Int} (hv : Vl xs ws) {x a b : Nat} {c : Rat} (h2 : a ≤ x) (h3 : x < b) (hle : b ≤ xs.length) (h : Sad xs ws a b c) : bestQ xs ws x = c := by
  have lo : ∀ i, i ≤ x → lowQ xs ws x i ≤ c := by
    intro i hi
    have h4 := mnQ_le (L := tab (fun j => mq xs ws i (x + j)) (xs.length - x)) (xs.length - x - 1) (b - 1 - x) (by omega)
    rw [gq_tab (by omega), mq_mn, show x + (b - 1 - x) + 1 - i = b - i from by omega] at h4
    have h5 := h.upto i (b - i) (by omega) (by omega)
    have e1 := mn_mul hv (i := i) (n := b - i) (by omega) (by omega)
    have p1 := dsum_pos hv (i := i) (n := b - i) (by omega) (by omega)
    have k3 : 0 ≤ (c - mn xs ws i (b - i)) * (dsum ws i (b - i) : Rat) := by grind
    have k4 := nonneg_left p1 k3
    unfold lowQ
    grind
  have hi : c ≤ lowQ xs ws x a := by
    refine le_mnQ _ fun j hj => ?_
    rw [gq_tab (by omega), mq_mn]
    have h5 := h.onw (x + j + 1 - a) (by omega) (by omega)
    have e1 := mn_mul hv (i := a) (n := x + j + 1 - a) (by omega) (by omega)
    have p1 := dsum_pos hv (i := a) (n := x + j + 1 - a) (by omega) (by omega)
    have k3 : 0 ≤ (mn xs ws a (x + j + 1 - a) - c) * (dsum ws a (x + j + 1 - a) : Rat) := by grind
    have k4 := nonneg_left p1 k3
    grind
  have g1 : bestQ xs ws x ≤ c := mxQ_le _ fun j hj => by rw [gq_tab (by omega)]; exact lo j hj
  have g2 : gq (tab (lowQ xs ws x) (x + 1)) a ≤ bestQ xs ws x := le_mxQ _ _ h2
  rw [gq_tab (by omega)] at g2
  grind

/-- The row that rises does so. -/
theorem best_mono {xs ws : List Int} {x : Nat} (hx : x + 1 < xs.length) : bestQ xs ws x ≤ bestQ xs ws (x + 1) := by
  refine mxQ_le _ fun i hi => ?_
  rw [gq_tab (by omega)]
  have h1 : lowQ xs ws x i ≤ lowQ xs ws (x + 1) i := by
    refine le_mnQ _ fun j hj => ?_
    rw [gq_tab (by omega)]
    have h4 := mnQ_le (L := tab (fun j => mq xs ws i (x + j)) (xs.length - x)) (xs.length - x - 1) (j + 1) (by omega)
    rw [gq_tab (by omega), show x + (j + 1) = x + 1 + j from by omega] at h4
    exact h4
  have g2 : gq (tab (lowQ xs ws (x + 1)) (x + 1 + 1)) i ≤ bestQ xs ws (x + 1) := le_mxQ _ _ (by omega)
  rw [gq_tab (by omega)] at g2
  grind

theorem gi_reverse {xs : List Int} {k : Nat} (h : k < xs.length) : gi xs.reverse k = gi xs (xs.length - 1 - k) := by
  unfold gi
  simp only [List.getD_eq_getElem?_getD]
  rw [List.getElem?_reverse h]
theorem gi_map_neg {xs : List Int} (k : Nat) : gi (xs.map (- ·)) k = - gi xs k := by
  unfold gi
  simp only [List.getD_eq_getElem?_getD, List.getElem?_map]
  cases xs[k]? <;> simp

/-- The other way round with the other signs. -/
def trn (xs : List Int) : List Int := xs.reverse.map (- ·)
theorem trn_length (xs : List Int) : (trn xs).length = xs.length := by simp [trn]
theorem gi_trn {xs : List Int} {k : Nat} (h : k < xs.length) : gi (trn xs) k = - gi xs (xs.length - 1 - k) := by
  unfold trn
  rw [gi_map_neg, gi_reverse h]
theorem vl_trn {xs ws : List Int} (hv : Vl xs ws) : Vl (trn xs) ws.reverse := by
  have h0 := hv.n0
  have h1 := hv.nw
  refine ⟨by rw [trn_length]; exact hv.n0, by rw [trn_length]; exact hv.n8, by rw [trn_length, List.length_reverse]; exact hv.nw, fun k hk => ?_, fun k hk => ?_⟩
  · rw [trn_length] at hk
    rw [gi_trn hk]
    have := hv.x (xs.length - 1 - k) (by omega)
    omega
  · rw [trn_length] at hk
    rw [gi_reverse (by omega)]
    exact hv.w _ (by omega)
theorem dsum_trn {xs ws : List Int} (hv : Vl xs ws) (i : Nat) : ∀ k, i + k ≤ xs.length → dsum ws.reverse i k = dsum ws (xs.length - i - k) k
  | 0, _ => rfl
  | k + 1, h => by
    have ih := dsum_trn hv i k (by omega)
    have h1 := hv.nw
    have e := dsum_add ws (xs.length - i - (k + 1)) 1 k
    rw [show 1 + k = k + 1 from by omega, show xs.length - i - (k + 1) + 1 = xs.length - i - k from by omega] at e
    rw [e]
    simp only [dsum]
    rw [ih, gi_reverse (by omega), show ws.length - 1 - (i + k) = xs.length - i - (k + 1) + 0 from by omega]
    omega
theorem wsum_trn {xs ws : List Int} (hv : Vl xs ws) (i : Nat) : ∀ k, i + k ≤ xs.length → wsum (trn xs) ws.reverse i k = - wsum xs ws (xs.length - i - k) k
  | 0, _ => rfl
  | k + 1, h => by
    have ih := wsum_trn hv i k (by omega)
    have h1 := hv.nw
    have e := wsum_add xs ws (xs.length - i - (k + 1)) 1 k
    rw [show 1 + k = k + 1 from by omega, show xs.length - i - (k + 1) + 1 = xs.length - i - k from by omega] at e
    rw [e]
    simp only [wsum]
    rw [ih, gi_reverse (by omega), gi_trn (by omega), show ws.length - 1 - (i + k) = xs.length - i - (k + 1) + 0 from by omega, show xs.length - 1 - (i + k) = xs.length - i - (k + 1) + 0 from by omega, Int.neg_mul]
    omega
theorem best_trn {xs ws : List Int} (hv : Vl xs ws) {x : Nat} (hx : x < xs.length) : bestQ (trn xs) ws.reverse x = - bestQ xs ws (xs.length - 1 - x) := by
  obtain ⟨a, b, h1, h2, h3, h4⟩ := sad_ex hv (x := xs.length - 1 - x) (by omega)
  generalize bestQ xs ws (xs.length - 1 - x) = c at *
  refine sad_best (vl_trn hv) (a := xs.length - b) (b := xs.length - a) (by omega) (by omega) (by rw [trn_length]; omega) ⟨fun k hk1 hk2 => ?_, fun s k hk1 hk2 => ?_⟩
  · rw [trn_length] at hk2
    rw [dsum_trn hv _ k (by omega), wsum_trn hv _ k (by omega), show xs.length - (xs.length - b) - k = b - k from by omega, Rat.intCast_neg]
    have := h4.upto (b - k) k hk1 (by omega)
    grind
  · rw [dsum_trn hv _ k (by omega), wsum_trn hv _ k (by omega), show xs.length - s - k = a from by omega, Rat.intCast_neg]
    have := h4.onw k hk1 (by omega)
    grind

end Go.Proofs.Ytcmbfkdhfdiamaa
