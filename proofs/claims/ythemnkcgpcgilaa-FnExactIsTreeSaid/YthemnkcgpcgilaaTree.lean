/- Trees: impl.IsTree and spec.IsTree. -/
import Derived.Test.YthemnkcgpcgilaaGapsI
import Derived.Test.YthemnkcgpcgilaaSorted
namespace Go.Proofs.Ythemnkcgpcgilaa
open Go.RowKit

def allN (f : Nat → Bool) : Nat → Bool
  | 0 => true
  | k + 1 => allN f k && f k
theorem allN_iff (f : Nat → Bool) : ∀ n, allN f n = true ↔ ∀ k, k < n → f k = true
  | 0 => by simp [allN]
  | n + 1 => by
    rw [allN, Bool.and_eq_true, allN_iff f n]
    constructor
    · rintro ⟨h1, h2⟩ k hk
      by_cases e : k = n
      · subst e; exact h2
      · exact h1 k (by omega)
    · intro h
      exact ⟨fun k hk => h k (by omega), h n (by omega)⟩
theorem allN_false {f : Nat → Bool} {n k : Nat} (hk : k < n) (h : f k = false) : allN f n = false := by
  cases e : allN f n with
  | false => rfl
  | true => rw [(allN_iff f n).1 e k hk] at h; cases h

def tA (xss : List (List Int)) (a b c : Nat) : Bool := decide (gm xss a b ≤ max (gm xss a c) (gm xss c b))
def sT (xss : List (List Int)) : Bool := allN (fun a => allN (fun b => allN (tA xss a b) xss.length) xss.length) xss.length
def m3 (x y z : Int) : Bool := gi (srt [x, y, z]) 1 == gi (srt [x, y, z]) 2
def iA (xss : List (List Int)) (i k j : Nat) : Bool := m3 (gm xss i k) (gm xss i j) (gm xss k j)
def iT (xss : List (List Int)) : Bool := allN (fun i => allN (fun k => allN (iA xss i k) k) i) xss.length
def trV (xss : List (List Int)) : Bool := gpB xss && sT xss
theorem m3_iff (x y z : Int) : m3 x y z = true ↔ x ≤ max y z ∧ y ≤ max x z ∧ z ≤ max x y := by
  have e : srt [x, y, z] = insK id z (insK id y (insK id x [])) := rfl
  unfold m3
  rw [e, beq_iff_eq]
  simp only [insK, id]
  by_cases h1 : x ≤ y
  · rw [if_pos h1]
    simp only [insK, id]
    by_cases h2 : x ≤ z
    · rw [if_pos h2]
      by_cases h3 : y ≤ z
      · rw [if_pos h3]; simp only [gi, List.getD_cons_succ, List.getD_cons_zero]; omega
      · rw [if_neg h3]; simp only [gi, List.getD_cons_succ, List.getD_cons_zero]; omega
    · rw [if_neg h2]; simp only [gi, List.getD_cons_succ, List.getD_cons_zero]; omega
  · rw [if_neg h1]
    simp only [insK, id]
    by_cases h2 : y ≤ z
    · rw [if_pos h2]
      by_cases h3 : x ≤ z
      · rw [if_pos h3]; simp only [gi, List.getD_cons_succ, List.getD_cons_zero]; omega
      · rw [if_neg h3]; simp only [gi, List.getD_cons_succ, List.getD_cons_zero]; omega
    · rw [if_neg h2]; simp only [gi, List.getD_cons_succ, List.getD_cons_zero]; omega
theorem gp_sym {xss : List (List Int)} (h : Gp xss) {a b : Nat} (ha : a < xss.length) (hb : b < xss.length) : gm xss a b = gm xss b a := by
  rcases Nat.lt_trichotomy a b with h1 | h1 | h1
  · exact (h.low b a hb h1).2
  · rw [h1]
  · exact (h.low a b ha h1).2.symm
theorem gp_nonneg {xss : List (List Int)} (h : Gp xss) {a b : Nat} (ha : a < xss.length) (hb : b < xss.length) : 0 ≤ gm xss a b := by
  rcases Nat.lt_trichotomy a b with h1 | h1 | h1
  · have := (h.low b a hb h1).1; have := gp_sym h ha hb; omega
  · rw [h1, h.diag b hb]; exact Int.le_refl _
  · have := (h.low a b ha h1).1; omega
theorem tree_eq {xss : List (List Int)} (h : Gp xss) : iT xss = sT xss := by
  rw [Bool.eq_iff_iff]
  unfold iT sT
  simp only [allN_iff, iA, tA, m3_iff, decide_eq_true_eq]
  constructor
  · intro hi a ha b hb c hc
    have s1 := gp_sym h ha hb
    have s2 := gp_sym h ha hc
    have s3 := gp_sym h hc hb
    have n1 := gp_nonneg h ha hc
    have n2 := gp_nonneg h hc hb
    by_cases e1 : a = b
    · subst e1
      have := h.diag a ha
      omega
    · by_cases e2 : c = a
      · subst e2; omega
      · by_cases e3 : c = b
        · subst e3; omega
        · rcases Nat.lt_trichotomy a b with q1 | q1 | q1
          · rcases Nat.lt_trichotomy a c with q2 | q2 | q2
            · rcases Nat.lt_trichotomy b c with q3 | q3 | q3
              · have := hi c hc b q3 a q1; omega
              · omega
              · have := hi b hb c q3 a q2; omega
            · omega
            · have := hi b hb a q1 c q2; omega
          · omega
          · rcases Nat.lt_trichotomy a c with q2 | q2 | q2
            · have := hi c hc a q2 b q1; omega
            · omega
            · rcases Nat.lt_trichotomy b c with q3 | q3 | q3
              · have := hi a ha c q2 b q3; omega
              · omega
              · have := hi a ha b q1 c q3; omega
  · intro hs i hi k hk j hj
    have hkn : k < xss.length := by omega
    have hjn : j < xss.length := by omega
    have s1 := gp_sym h hi hkn
    have s2 := gp_sym h hi hjn
    have s3 := gp_sym h hkn hjn
    have a1 := hs i hi k hkn j hjn
    have a2 := hs i hi j hjn k hkn
    have a3 := hs k hkn j hjn i hi
    omega

set_option maxHeartbeats 4000000 in
theorem sisTree_any (g : Nat) (H : Nat → Nat) (xss : List (List Int)) (w : World) (h : Mat w g H xss) (hn : xss.length ≤ 1048576) :
    Calls Try.prog 42 #[.slice (some ⟨g, 0, none⟩) xss.length xss.length] w fun e w' => e = .returned (.bool (trV xss)) ∧ Below w.heap.size w w' := by
  have HM := Lib.hid h
  cases hv : gpB xss with
  | false =>
    have e : trV xss = false := by simp [trV, hv]
    rw [e]
    clear e h
    go_enter Try.func42, Try.ntmps42
    go_wp2_with (go_at_call 74; refine (svalidGaps_any g H xss _ HM.out hn).mono ?_; rintro e w1 ⟨rfl, hb1⟩; rw [hv])
    go_ret
    exact ⟨rfl, hb1⟩
  | true =>
    have e : trV xss = sT xss := by simp [trV, hv]
    have HGP := Lib.hid (gp_of hv)
    have n6 := HGP.out.n6
    have HST := Lib.hid (show sT xss = allN (fun a => allN (fun b => allN (tA xss a b) xss.length) xss.length) xss.length from rfl)
    rw [e]
    clear e h
    go_enter Try.func42, Try.ntmps42
    go_wp2_with (go_at_call 74; refine (svalidGaps_any g H xss _ HM.out hn).mono ?_; rintro e w1 ⟨rfl, hb1⟩; rw [hv])
    have z1 := hb1.size
    have HB1 := Lib.hid hb1
    clear hb1
    go_loopw [3] (fun v3 wr => ∃ a : Nat, v3 = .int .i64 a ∧ a ≤ xss.length ∧ allN (fun a => allN (fun b => allN (tA xss a b) xss.length) xss.length) a = true ∧ Below w1.heap.size w1 wr) (fun v3 _ => xss.length - (intOf v3).toNat)
    case atStart => exact ⟨0, rfl, by omega, rfl, Below.refl _ _⟩
    case round =>
      obtain ⟨a, rfl, ha, hfa, hb⟩ := hrel
      have HFA := Lib.hid hfa
      have HB := Lib.hid hb
      clear hfa hb
      by_cases hla : a < xss.length
      · go_wp2_with fail
        go_loopw [4] (fun v4 wr => ∃ b : Nat, v4 = .int .i64 b ∧ b ≤ xss.length ∧ allN (fun b => allN (tA xss a b) xss.length) b = true ∧ Below w1.heap.size w1 wr) (fun v4 _ => xss.length - (intOf v4).toNat)
        case atStart => exact ⟨0, rfl, by omega, rfl, HB.out⟩
        case round =>
          obtain ⟨b, rfl, hb, hfb, hbl⟩ := hrel
          have HFB := Lib.hid hfb
          have HB := Lib.hid hbl
          clear hfb hbl
          by_cases hlb : b < xss.length
          · go_wp2_with fail
            go_loopw [5] (fun v5 wr => ∃ c : Nat, v5 = .int .i64 c ∧ c ≤ xss.length ∧ allN (tA xss a b) c = true ∧ Below w1.heap.size w1 wr) (fun v5 _ => xss.length - (intOf v5).toNat)
            case atStart => exact ⟨0, rfl, by omega, rfl, HB.out⟩
            case round =>
              obtain ⟨c, rfl, hc, hfc, hbl⟩ := hrel
              have HFC := Lib.hid hfc
              have HB := Lib.hid hbl
              have hz := hbl.size
              have hbw : Below w.heap.size w wr := HB1.out.trans (hbl.mono z1)
              clear hfc hbl
              by_cases hlc : c < xss.length
              · obtain ⟨y1, r1⟩ := (HM.out.below hbw).row hla
                obtain ⟨y2, r2⟩ := (HM.out.below hbw).row hlc
                have l1 := HGP.out.len a hla
                have l2 := HGP.out.len c hlc
                have x1 := r1.cell b (by omega)
                have x2 := r1.cell c (by omega)
                have x3 := r2.cell b (by omega)
                rw [Nat.zero_add] at x1 x2 x3
                have st : tA xss a b c = decide (gm xss a b ≤ max (gm xss a c) (gm xss c b)) := rfl
                have e1 : gi (gl xss a) b = gm xss a b := rfl
                have e2 : gi (gl xss a) c = gm xss a c := rfl
                have e3 : gi (gl xss c) b = gm xss c b := rfl
                rw [e1] at x1
                rw [e2] at x2
                rw [e3] at x3
                obtain ⟨p, hp⟩ : ∃ x, gm xss a b = x := ⟨_, rfl⟩
                obtain ⟨q, hq⟩ : ∃ x, gm xss a c = x := ⟨_, rfl⟩
                obtain ⟨r, hr⟩ : ∃ x, gm xss c b = x := ⟨_, rfl⟩
                rw [hp] at x1 st
                rw [hq] at x2 st
                rw [hr] at x3 st
                obtain ⟨n1, hn1⟩ : ∃ n, (gl xss a).length = n := ⟨_, rfl⟩
                obtain ⟨n2, hn2⟩ : ∃ n, (gl xss c).length = n := ⟨_, rfl⟩
                rw [hn1] at y1 l1
                rw [hn2] at y2 l2
                have i1 : (b : Int) < (n1 : Int) := by omega
                have i2 : (c : Int) < (n1 : Int) := by omega
                have i3 : (b : Int) < (n2 : Int) := by omega
                obtain ⟨mx, hmx⟩ : ∃ mx, (if q < r then r else q) = mx := ⟨_, rfl⟩
                have hmx2 : max q r = mx := by rw [← hmx]; split <;> omega
                rw [hmx2] at st
                have ST := Lib.hid st
                clear e1 e2 e3 hp hq hr hn1 hn2 l1 l2 r1 r2 st hbw
                by_cases t : mx < p
                · have t1 : decide (mx < p) = true := by simpa using t
                  have F := Lib.hid (show sT xss = false from by rw [HST.out]; exact allN_false hla (allN_false hlb (allN_false hlc (by rw [ST.out]; simp; omega))))
                  clear t
                  go_upto_region 12 with fail
                  go_quiet (fail)
                  go_wp2_with fail
                  go_ret
                  have hb3 : Below w.heap.size w wr := HB1.out.trans (HB.out.mono z1)
                  exact ⟨by rw [F.out]; rfl, Below.drewN hb3 _⟩
                · have t1 : decide (mx < p) = false := by simpa using t
                  have S := Lib.hid (show allN (tA xss a b) (c + 1) = true from by rw [allN, HFC.out, ST.out]; simp; omega)
                  clear t
                  go_upto_region 12 with fail
                  go_quiet (fail)
                  go_wp2_with fail
                  go_roundw
                  case rel => exact ⟨c + 1, by go_num, by omega, S.out, Below.drewN HB.out _⟩
                  case measure => simp [intOf]; omega
              · have e : c = xss.length := by omega
                subst e
                have S := Lib.hid (show allN (fun b => allN (tA xss a b) xss.length) (b + 1) = true from by rw [allN, HFB.out, HFC.out]; rfl)
                clear hbw
                go_wp2_with fail
                go_roundw
                case rel => exact ⟨b + 1, by go_num, by omega, S.out, HB.out⟩
                case measure => simp [intOf]; omega
          · have e : b = xss.length := by omega
            subst e
            have S := Lib.hid (show allN (fun a => allN (fun b => allN (tA xss a b) xss.length) xss.length) (a + 1) = true from by rw [allN, HFA.out, HFB.out]; rfl)
            go_wp2_with fail
            go_roundw
            case rel => exact ⟨a + 1, by go_num, by omega, S.out, HB.out⟩
            case measure => simp [intOf]; omega
      · have e : a = xss.length := by omega
        subst e
        have S := Lib.hid (HST.out.trans HFA.out)
        go_wp2_with fail
        go_ret
        exact ⟨by rw [S.out]; rfl, HB1.out.trans (HB.out.mono z1)⟩

set_option maxHeartbeats 4000000 in
theorem isTree_any (g : Nat) (H : Nat → Nat) (xss : List (List Int)) (w : World) (h : Mat w g H xss) (hn : xss.length ≤ 1048576) :
    Calls Try.prog 44 #[.slice (some ⟨g, 0, none⟩) xss.length xss.length] w fun e w' => e = .returned (.bool (trV xss)) ∧ Below w.heap.size w w' := by
  have HM := Lib.hid h
  cases hv : gpB xss with
  | false =>
    have e : trV xss = false := by simp [trV, hv]
    rw [e]
    clear e h
    go_enter Try.func44, Try.ntmps44
    go_wp2_with (go_at_call 75; refine (validGaps_any g H xss _ HM.out hn).mono ?_; rintro e w1 ⟨rfl, hb1⟩; rw [hv])
    go_ret
    exact ⟨rfl, hb1⟩
  | true =>
    have HGP := Lib.hid (gp_of hv)
    have n6 := HGP.out.n6
    have e : trV xss = iT xss := by simp [trV, hv, tree_eq HGP.out]
    have HST := Lib.hid (show iT xss = allN (fun i => allN (fun k => allN (iA xss i k) k) i) xss.length from rfl)
    rw [e]
    clear e h
    go_enter Try.func44, Try.ntmps44
    go_wp2_with (go_at_call 75; refine (validGaps_any g H xss _ HM.out hn).mono ?_; rintro e w1 ⟨rfl, hb1⟩; rw [hv])
    have z1 := hb1.size
    have HB1 := Lib.hid hb1
    clear hb1
    go_loopw [12] (fun v3 wr => ∃ a : Nat, v3 = .int .i64 a ∧ a ≤ xss.length ∧ allN (fun i => allN (fun k => allN (iA xss i k) k) i) a = true ∧ Below w1.heap.size w1 wr) (fun v3 _ => xss.length - (intOf v3).toNat)
    case atStart => exact ⟨0, rfl, by omega, rfl, Below.refl _ _⟩
    case round =>
      obtain ⟨a, rfl, ha, hfa, hb⟩ := hrel
      have HFA := Lib.hid hfa
      have HB := Lib.hid hb
      clear hfa hb
      by_cases hla : a < xss.length
      · go_wp2_with fail
        go_loopw [16] (fun v4 wr => ∃ b : Nat, v4 = .int .i64 b ∧ b ≤ a ∧ allN (fun k => allN (iA xss a k) k) b = true ∧ Below w1.heap.size w1 wr) (fun v4 _ => a - (intOf v4).toNat)
        case atStart => exact ⟨0, rfl, by omega, rfl, HB.out⟩
        case round =>
          obtain ⟨b, rfl, hb, hfb, hbl⟩ := hrel
          have HFB := Lib.hid hfb
          have HB := Lib.hid hbl
          clear hfb hbl
          by_cases hlb : b < a
          · go_wp2_with fail
            go_loopw [20] (fun v5 wr => ∃ c : Nat, v5 = .int .i64 c ∧ c ≤ b ∧ allN (iA xss a b) c = true ∧ Below w1.heap.size w1 wr) (fun v5 _ => b - (intOf v5).toNat)
            case atStart => exact ⟨0, rfl, by omega, rfl, HB.out⟩
            case round =>
              obtain ⟨c, rfl, hc, hfc, hbl⟩ := hrel
              have HFC := Lib.hid hfc
              have HB := Lib.hid hbl
              have hz := hbl.size
              have hbw : Below w.heap.size w wr := HB1.out.trans (hbl.mono z1)
              clear hfc hbl
              by_cases hlc : c < b
              · have hbn : b < xss.length := by omega
                obtain ⟨y1, r1⟩ := (HM.out.below hbw).row hla
                obtain ⟨y2, r2⟩ := (HM.out.below hbw).row hbn
                have l1 := HGP.out.len a hla
                have l2 := HGP.out.len b hbn
                have x1 := r1.cell b (by omega)
                have x2 := r1.cell c (by omega)
                have x3 := r2.cell c (by omega)
                rw [Nat.zero_add] at x1 x2 x3
                have st : iA xss a b c = (gi (srt [gm xss a b, gm xss a c, gm xss b c]) 1 == gi (srt [gm xss a b, gm xss a c, gm xss b c]) 2) := rfl
                have e1 : gi (gl xss a) b = gm xss a b := rfl
                have e2 : gi (gl xss a) c = gm xss a c := rfl
                have e3 : gi (gl xss b) c = gm xss b c := rfl
                rw [e1] at x1
                rw [e2] at x2
                rw [e3] at x3
                obtain ⟨p, hp⟩ : ∃ x, gm xss a b = x := ⟨_, rfl⟩
                obtain ⟨q, hq⟩ : ∃ x, gm xss a c = x := ⟨_, rfl⟩
                obtain ⟨r, hr⟩ : ∃ x, gm xss b c = x := ⟨_, rfl⟩
                rw [hp] at x1 st
                rw [hq] at x2 st
                rw [hr] at x3 st
                obtain ⟨n1, hn1⟩ : ∃ n, (gl xss a).length = n := ⟨_, rfl⟩
                obtain ⟨n2, hn2⟩ : ∃ n, (gl xss b).length = n := ⟨_, rfl⟩
                rw [hn1] at y1 l1
                rw [hn2] at y2 l2
                have i1 : (b : Int) < (n1 : Int) := by omega
                have i2 : (c : Int) < (n1 : Int) := by omega
                have i3 : (c : Int) < (n2 : Int) := by omega
                have i4 : (a : Int) < (xss.length : Int) := by omega
                have i5 : (b : Int) < (xss.length : Int) := by omega
                have hmade : RowI (wr.drew.alloc (.cells (ic [p, q, r]).toArray 3)) wr.drew.heap.size 0 [p, q, r] := Blk.row (by have := Blk.made wr.drew (ic [p, q, r]).toArray 3; simpa using this)
                have CS := Lib.hid (sorted_any wr.drew.heap.size 0 3 [p, q, r] _ hmade (by simp) (by simp))
                obtain ⟨u, hu⟩ : ∃ u, gi (srt [p, q, r]) 1 = u := ⟨_, rfl⟩
                obtain ⟨v, hv⟩ : ∃ u, gi (srt [p, q, r]) 2 = u := ⟨_, rfl⟩
                have HU := Lib.hid hu
                have HVV := Lib.hid hv
                rw [hu, hv] at st
                have ST := Lib.hid st
                have hsl : (srt [p, q, r]).length = 3 := srt_length _
                have HSL := Lib.hid hsl
                have B0 := Lib.hid (show Below wr.heap.size wr (wr.drew.alloc (.cells (ic [p, q, r]).toArray 3)) from (Below.drew (Below.refl _ _)).alloc (Nat.le_refl _) _)
                clear e1 e2 e3 hp hq hr hn1 hn2 l1 l2 r1 r2 st hbw hmade hu hv hsl
                go_upto_region 12 with fail
                (refine region_tail 21 (by kernel_rfl) (by kernel_rfl) ?_; simp only [List.take_succ_cons, List.take_zero, List.drop_succ_cons, List.drop_zero]; (repeat (go_big_quiet_step (fail))); refine wpQuiet_nil ?_)
                go_wp2_with (go_at_call 54; refine CS.out.mono ?_; rintro e w5 ⟨g5, c5, rfl, ho, hb5⟩; have HR := Lib.hid ho.row; have HB5 := Lib.hid hb5; clear ho hb5)
                have s1 := HR.out.cell 1 (by rw [HSL.out]; omega)
                have s2 := HR.out.cell 2 (by rw [HSL.out]; omega)
                rw [Nat.zero_add, HU.out] at s1
                rw [Nat.zero_add, HVV.out] at s2
                have B5 := Lib.hid (B0.out.trans (HB5.out.mono B0.out.size))
                by_cases t : u = v
                · have t1 : (u != v) = false := by simp [t]
                  have S := Lib.hid (show allN (iA xss a b) (c + 1) = true from by rw [allN, HFC.out, ST.out]; simp [t])
                  clear t
                  go_quiet (fail)
                  go_wp2_with fail
                  go_roundw
                  case rel => exact ⟨c + 1, by go_num, by omega, S.out, Below.drewN (HB.out.trans (B5.out.mono hz)) _⟩
                  case measure => simp [intOf]; omega
                · have t1 : (u != v) = true := by rw [bne_iff_ne]; exact t
                  have F := Lib.hid (show iT xss = false from by rw [HST.out]; exact allN_false hla (allN_false hlb (allN_false hlc (by rw [ST.out]; simpa using t))))
                  clear t
                  go_quiet (fail)
                  go_wp2_with fail
                  go_ret
                  have hb3 : Below w1.heap.size w1 w5 := HB.out.trans (B5.out.mono hz)
                  exact ⟨by rw [F.out]; rfl, Below.drewN (HB1.out.trans (hb3.mono z1)) _⟩
              · have e : c = b := by omega
                subst e
                have S := Lib.hid (show allN (fun k => allN (iA xss a k) k) (c + 1) = true from by rw [allN, HFB.out, HFC.out]; rfl)
                clear hbw
                go_wp2_with fail
                go_roundw
                case rel => exact ⟨c + 1, by go_num, by omega, S.out, HB.out⟩
                case measure => simp [intOf]; omega
          · have e : b = a := by omega
            subst e
            have S := Lib.hid (show allN (fun i => allN (fun k => allN (iA xss i k) k) i) (b + 1) = true from by rw [allN, HFA.out, HFB.out]; rfl)
            go_wp2_with fail
            go_roundw
            case rel => exact ⟨b + 1, by go_num, by omega, S.out, HB.out⟩
            case measure => simp [intOf]; omega
      · have e : a = xss.length := by omega
        subst e
        have S := Lib.hid (HST.out.trans HFA.out)
        go_wp2_with fail
        go_ret
        exact ⟨by rw [S.out]; rfl, HB1.out.trans (HB.out.mono z1)⟩

end Go.Proofs.Ythemnkcgpcgilaa
