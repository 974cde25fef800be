/- spec.leastMisses. -/
import Derived.Test.YtfbccnameppikaaPiecesMiss
import Derived.Test.YtfbccnameppikaaCuts
import Derived.Deep.DeepCutAuto
namespace Go.Proofs.Ytfbccnameppikaa
open Go.RowKit

/-- The least sums of at most p + 1 pieces, for each end. -/
def rowA (xs : List Int) (p m : Nat) : List Rat := tab (fun e => amN misQ xs p e) m
theorem infoFS : (Try.prog.info? 55).map (fun i => (i.zero, i.size, i.bytes)) = some (some (.slice none 0 0), 1, 24) := by kernel_rfl

/-- The rows so far. -/
def OutA (xs : List Int) (w : World) (base g m cap : Nat) : Prop :=
  ∃ Cs : List Value, w.ownsRow base 55 1 (.slice (some ⟨g, 0, none⟩) m cap) m Cs ∧
    ∀ j, j < m → ∃ gr cr, Cs[j]? = some (.slice (some ⟨gr, 0, none⟩) (xs.length + 1) cr) ∧ base ≤ gr ∧ gr ≠ g ∧ Blk w gr 27 (fc (rowA xs j (xs.length + 1)))
theorem OutA.below {xs : List Int} {w w' : World} {base g m cap : Nat} (h : OutA xs w base g m cap) (hb : Below w.heap.size w w') : OutA xs w' base g m cap := by
  obtain ⟨Cs, h1, h2⟩ := h
  refine ⟨Cs, own_below1 h1 hb, fun j hj => ?_⟩
  obtain ⟨gr, cr, a, b, c, d⟩ := h2 j hj
  exact ⟨gr, cr, a, b, c, d.below hb⟩
theorem OutA.lt {xs : List Int} {w : World} {base g m cap : Nat} (h : OutA xs w base g m cap) : base ≤ g ∧ g < w.heap.size := by
  obtain ⟨Cs, h1, h2⟩ := h
  exact ⟨(Blk.of_own h1).2, (Blk.of_own h1).1.lt⟩
theorem OutA.row {xs : List Int} {w : World} {base g m cap : Nat} (h : OutA xs w base g m cap) {j : Nat} (hj : j < m) :
    ∃ gr cr, w.cell? ⟨g, j, none⟩ = some (.slice (some ⟨gr, 0, none⟩) (xs.length + 1) cr) ∧ Blk w gr 27 (fc (rowA xs j (xs.length + 1))) := by
  obtain ⟨Cs, h1, h2⟩ := h
  obtain ⟨gr, cr, a, b, c, d⟩ := h2 j hj
  exact ⟨gr, cr, (Blk.of_own h1).1.cell a, d⟩
theorem own_grown1 {w w' : World} {base n g : Nat} {e : TypeId} {v : Value} {cs : List Value} (h : w.ownsRow base e 1 v n cs) (hb : w.grownBy w' (some g)) (hne : v.ownBlock ≠ some g) : w'.ownsRow base e 1 v n cs :=
  World.ownsRow.kept h (row := some g) hb (.inr hne)

theorem ownF_made (w : World) (base : Nat) (q : Rat) (hb : base ≤ w.heap.size) : OwnF (w.alloc (.cells #[.int .i64 (up q), .int .i64 (dn q)] 27)) base (.slice (some ⟨w.heap.size, 0, none⟩) 1 1) 1 [q] :=
  ⟨rfl, .inr ⟨w.heap.size, 1, #[.int .i64 (up q), .int .i64 (dn q)], rfl, hb, heap_alloc_new w _, Nat.le_refl _, by unfold maxLen; omega, rfl, rfl⟩⟩
theorem rowA_one (xs : List Int) (p : Nat) : rowA xs p 1 = [0] := by unfold rowA tab; cases p <;> rfl
theorem rowA_succ (xs : List Int) (p m : Nat) : rowA xs p (m + 1) = rowA xs p m ++ [amN misQ xs p m] := tab_succ _ _
/-- One row more. -/
theorem OutA.app {xs : List Int} {wc w' : World} {base g m cap g' cap' gr cr : Nat} {Cs : List Value} {o : Obj} (h1 : wc.ownsRow base 55 1 (.slice (some ⟨g, 0, none⟩) m cap) m Cs)
    (h2 : ∀ j, j < m → ∃ gr cr, Cs[j]? = some (.slice (some ⟨gr, 0, none⟩) (xs.length + 1) cr) ∧ base ≤ gr ∧ gr ≠ g ∧ Blk wc gr 27 (fc (rowA xs j (xs.length + 1))))
    (hr : Blk wc gr 27 (fc (rowA xs m (xs.length + 1)))) (hbr : base ≤ gr) (hgr : gr ≠ g)
    (o1 : w'.ownsRow base 55 1 (.slice (some ⟨g', 0, none⟩) (m + 1) cap') (m + 1) (Cs ++ [.slice (some ⟨gr, 0, none⟩) (xs.length + 1) cr])) (o2 : (wc.alloc o).grownBy w' (some g)) (o3 : some g = some g' ∨ (wc.alloc o).heap.size ≤ g') : OutA xs w' base g' (m + 1) cap' := by
  have hl : Cs.length = m := by have := h1.1; rwa [Nat.mul_one] at this
  have key : ∀ gx, gx < wc.heap.size → gx ≠ g → gx ≠ g' := fun gx h1 h2 => by
    rcases o3 with h | h
    · have := Option.some.inj h; omega
    · simp at h; omega
  refine ⟨_, o1, fun j hj => ?_⟩
  by_cases hjm : j < m
  · obtain ⟨gx, cx, a, b, c, d⟩ := h2 j hjm
    exact ⟨gx, cx, by rw [List.getElem?_append_left (by omega)]; exact a, b, key gx d.lt c, (d.below below_alloc).grown o2 c⟩
  · obtain rfl : j = m := by omega
    exact ⟨gr, cr, by rw [← hl]; simp, hbr, key gr hr.lt hgr, (hr.below below_alloc).grown o2 hgr⟩

set_option maxHeartbeats 8000000 in
theorem leastMisses_any (b o c pn : Nat) (xs : List Int) (w : World) (h : RowI w b o xs) (hv : Rv xs) (hp1 : 1 ≤ pn) (hp8 : pn ≤ 8) :
    Calls Try.prog 39 #[.slice (some ⟨b, o, none⟩) xs.length c, .int .i64 pn] w
      fun e w' => ∃ g cap, e = .returned (.slice (some ⟨g, 0, none⟩) pn cap) ∧ OutA xs w' w.heap.size g pn cap ∧ Below w.heap.size w w' := by
  have n0 := hv.n0
  have n8 := hv.n8
  have HX := Lib.hid hv.x
  have H := Lib.hid h
  obtain ⟨q0, hz0⟩ : ∃ q0, qd 0 1 = q0 := ⟨_, rfl⟩
  have Z0 := Lib.hid (show q0 = 0 by rw [← hz0]; unfold qd; simp)
  have CF := Lib.hid (fun w => sfrac_as 0 1 q0 hz0 w (by omega) (by omega) (by omega) (by omega) (by omega))
  obtain ⟨n, hn⟩ : ∃ n, xs.length = n := ⟨_, rfl⟩
  have HN := Lib.hid hn
  have CP := Lib.hid (fun a e (h1 : a < e) (h2 : e ≤ n) w (h : RowI w b o xs) => smiss_any b o c a e xs _ w h h1 (by omega) hv.n8 hv.x rfl)
  have PN := Lib.hid (fun p e (h1 : 1 ≤ e) (h2 : e ≤ n) => (amN_least misQ xs p e h1 (by omega)).pq misQ_good (by rw [List.length_take]; omega) (hv.x.take e))
  have PC := Lib.hid (fun i k (h1 : i < k) (h2 : k ≤ n) => misQ_pcq (xs := xs) h1 (by omega : k ≤ xs.length) hv.n8 hv.x)
  rw [hn] at n0 n8 CP ⊢
  clear h hn hv hz0
  go_enter Try.func39, Try.ntmps39
  go_upto_region 3 with fail
  refine wp_abstract (fun W => OutA xs W w.heap.size w.heap.size 0 0 ∧ Below w.heap.size w W) ⟨⟨[], World.ownsRow_made w #[] 0 (Nat.le_refl _) (by unfold maxLen; omega) rfl, fun j hj => absurd hj (Nat.not_lt_zero _)⟩, by (repeat' (first | (with_reducible exact Below.refl _ _) | (with_reducible assumption) | (with_reducible refine Below.drewN ?_ _) | (with_reducible refine Below.alloc ?_ ?_ _) | (with_reducible refine Below.drew ?_) | (with_reducible refine Below.setCell ?_ ?_ _) | (with_reducible refine Below.trans ?_ (Below.mono (by assumption) ?_)) | go_size | (with_reducible refine Nat.le_trans ?_ (Below.size (by assumption)))))⟩ ?_
  rintro W ⟨ho, hb⟩
  have O := Lib.hid ho
  have B := Lib.hid hb
  have hzW := hb.size
  clear ho hb
  go_wp2_with (go_at_call 44; refine (CF.out _).mono ?_; rintro e w1 ⟨rfl, hb1⟩; have hz1 := hb1.size)
  obtain ⟨g7, hg7⟩ : ∃ g7, w1.heap.size = g7 := ⟨_, rfl⟩
  have o7 := ownF_made w1 W.heap.size q0 hz1
  have b7 : Below w1.heap.size w1 (w1.alloc (.cells #[.int .i64 (up q0), .int .i64 (dn q0)] 27)) := below_alloc
  have B7 : Below W.heap.size W (w1.alloc (.cells #[.int .i64 (up q0), .int .i64 (dn q0)] 27)) := hb1.trans (b7.mono hz1)
  rw [hg7] at o7 ⊢
  obtain ⟨w2, hw2⟩ : ∃ w2, w1.alloc (.cells #[.int .i64 (up q0), .int .i64 (dn q0)] 27) = w2 := ⟨_, rfl⟩
  rw [hw2] at o7 B7 ⊢
  have O7 := Lib.hid (show OwnF w2 W.heap.size (.slice (some ⟨g7, 0, none⟩) 1 1) 1 (rowA xs 0 1) by rw [rowA_one, ← Z0.out]; exact o7)
  have B7 := Lib.hid B7
  clear hb1 b7 hw2 o7 hg7 hz1
  go_loopw [7, 8] (fun v7 v8 wr => ∃ k g7 cap7 : Nat, v8 = .int .i64 k ∧ 1 ≤ k ∧ k ≤ n + 1 ∧ v7 = .slice (some ⟨g7, 0, none⟩) k cap7 ∧ OwnF wr W.heap.size (.slice (some ⟨g7, 0, none⟩) k cap7) k (rowA xs 0 k) ∧ Below W.heap.size W wr) (fun _ v8 _ => n + 1 - (intOf v8).toNat)
  case atStart => exact ⟨1, g7, 1, rfl, by omega, by omega, rfl, O7.out, B7.out⟩
  case round =>
    clear O7 B7
    obtain ⟨k, g7, cap7, rfl, hk1, hk2, rfl, ho, hb⟩ := hrel
    have O7 := Lib.hid ho
    have B7 := Lib.hid hb
    have hz := hb.size
    have l7 := (Blk.of_own ho).2
    clear ho hb
    by_cases hlt : k ≤ n
    · have CE := CP.out 0 k (by omega) hlt
      have e1 : rowA xs 0 (k + 1) = rowA xs 0 k ++ [misQ (pc xs 0 k)] := by
        obtain ⟨j, rfl⟩ : ∃ j, k = j + 1 := ⟨k - 1, by omega⟩
        rw [rowA_succ, pc_zero]; rfl
      obtain ⟨cq, hcq⟩ : ∃ cq, misQ (pc xs 0 k) = cq := ⟨_, rfl⟩
      rw [hcq] at CE e1
      have CE := Lib.hid CE
      have E1 := Lib.hid e1
      clear hcq e1
      go_wp2_with (first
        | (go_at_call 54; refine (CE.out _ (H.out.below (B.out.trans (B7.out.mono hzW)))).mono ?_; rintro en w5 ⟨rfl, hb5⟩; have hz5 := hb5.size; have O5 := Lib.hid (O7.out.below hb5))
        | (at_builtin; refine wpList_app1 rfl (.tmp 25) (.tmp 29) 55 rfl W.heap.size 27 (.agg #[.int .i64 0, .int .i64 0]) 2 16 Try.underlying55 infoF rfl (by decide) (by decide) _ _ _ rfl (World.ownsRow.alloc O5.out _) ⟨_, 0, none⟩ 1 [.int .i64 (up cq), .int .i64 (dn cq)] rfl rfl (cell_two_new _ _ _ _) (by simp [Value.oneCell']) (by omega) (by simp; omega) ?_; intro g9 cap9 w9 o1 o2 o3))
      go_roundw
      case rel =>
        exact ⟨k + 1, g9, cap9, by go_num, by omega, by omega, rfl, by rw [E1.out]; exact OwnF.app o1, ((B7.out.trans (hb5.mono hz)).alloc (by omega) _).trans (Below.app (World.ownsRow.alloc O5.out _) (by simp; omega) o2)⟩
      case measure => simp [intOf]; omega
    · have hkn : k = n + 1 := by omega
      subst hkn
      have O2 := Lib.hid (O.out.below B7.out)
      have K7 := Lib.hid O7.out.blk
      obtain ⟨Cs, c1, c2⟩ := O2.out
      have C1 := Lib.hid c1
      have C2 := Lib.hid c2
      have lo := O.out.lt
      clear c1 c2 O7
      go_wp2_with (at_builtin; refine wpList_app1 rfl (.tmp 31) (.tmp 33) 56 rfl w.heap.size 55 (.slice none 0 0) 1 24 Try.underlying56 infoFS rfl (by decide) (by decide) _ _ _ rfl (World.ownsRow.alloc C1.out _) ⟨_, 0, none⟩ 1 [.slice (some ⟨g7, 0, none⟩) (n + 1) cap7] rfl rfl (cell_one_new1 _ _ _) (by simp [Value.oneCell']) (by omega) (by simp; omega) ?_; intro g9 cap9 w9 o1 o2 o3)
      have out9 : OutA xs w9 w.heap.size g9 1 cap9 := OutA.app C1.out C2.out (by rw [HN.out]; exact K7.out) (by omega) (by omega) (by rw [HN.out]; exact o1) o2 o3
      have B9 : Below w.heap.size w w9 := ((B.out.trans (B7.out.mono hzW)).alloc (by omega) _).trans (Below.app (World.ownsRow.alloc C1.out _) (by simp; omega) o2)
      have OO := Lib.hid out9
      have BB := Lib.hid B9
      clear out9 B9 o1 o2 o3 C1 C2 K7 O2 lo
      go_loopw [6, 9] (fun v6 v9 wr => ∃ p g cap : Nat, v9 = .int .i64 ((p + 2 : Nat) : Int) ∧ p + 1 ≤ pn ∧ v6 = .slice (some ⟨g, 0, none⟩) (p + 1) cap ∧ OutA xs wr w.heap.size g (p + 1) cap ∧ Below w.heap.size w wr) (fun _ v9 _ => pn + 2 - (intOf v9).toNat)
      case atStart => exact ⟨0, g9, cap9, rfl, hp1, rfl, OO.out, BB.out⟩
      case round =>
        clear OO BB O B B7 hz hzW l7
        obtain ⟨p, g, cap, rfl, hpp, rfl, ho, hb⟩ := hrel
        have O := Lib.hid ho
        have B := Lib.hid hb
        have hz := hb.size
        obtain ⟨lo1, lo2⟩ := ho.lt
        clear ho hb
        by_cases hlp : p + 2 ≤ pn
        · obtain ⟨wo, hwo⟩ : ∃ wo : World, wo = wr := ⟨_, rfl⟩
          rw [← hwo] at O B hz lo2 ⊢
          clear hwo
          obtain ⟨P, hP⟩ : ∃ P, p + 2 = P := ⟨_, rfl⟩
          have HP := Lib.hid hP
          have hPn : P ≤ pn := by omega
          have hPi : (P : Int) - 2 = (p : Int) := by omega
          have qP : IntKind.i64.wrap ((P : Int) - 2) = (p : Int) := by rw [hPi]; exact IntWalk.i64_in _ (by omega)
          have hpp1 : p < p + 1 := by omega
          rw [hP]
          clear hP
          go_wp2_with (go_at_call 44; refine (CF.out _).mono ?_; rintro e w1 ⟨rfl, hb1⟩; have hz1 := hb1.size)
          obtain ⟨g10, hg10⟩ : ∃ g10, w1.heap.size = g10 := ⟨_, rfl⟩
          have o7 := ownF_made w1 wo.heap.size q0 hz1
          have b7 : Below w1.heap.size w1 (w1.alloc (.cells #[.int .i64 (up q0), .int .i64 (dn q0)] 27)) := below_alloc
          have B7 : Below wo.heap.size wo (w1.alloc (.cells #[.int .i64 (up q0), .int .i64 (dn q0)] 27)) := hb1.trans (b7.mono hz1)
          rw [hg10] at o7 ⊢
          obtain ⟨w2, hw2⟩ : ∃ w2, w1.alloc (.cells #[.int .i64 (up q0), .int .i64 (dn q0)] 27) = w2 := ⟨_, rfl⟩
          rw [hw2] at o7 B7 ⊢
          have O7 := Lib.hid (show OwnF w2 wo.heap.size (.slice (some ⟨g10, 0, none⟩) 1 1) 1 (rowA xs (p + 1) 1) by rw [rowA_one, ← Z0.out]; exact o7)
          have B7 := Lib.hid B7
          clear hb1 b7 hw2 o7 hg10 hz1
          go_loopw [10, 11] (fun v10 v11 wr => ∃ k g10 cap10 : Nat, v11 = .int .i64 k ∧ 1 ≤ k ∧ k ≤ n + 1 ∧ v10 = .slice (some ⟨g10, 0, none⟩) k cap10 ∧ OwnF wr wo.heap.size (.slice (some ⟨g10, 0, none⟩) k cap10) k (rowA xs (p + 1) k) ∧ Below wo.heap.size wo wr) (fun _ v11 _ => n + 1 - (intOf v11).toNat)
          case atStart => exact ⟨1, g10, 1, rfl, by omega, by omega, rfl, O7.out, B7.out⟩
          case round =>
            clear O7 B7
            obtain ⟨k, g10, cap10, rfl, hk1, hk2, rfl, ho, hb⟩ := hrel
            have O10 := Lib.hid ho
            have B10 := Lib.hid hb
            have hz10 := hb.size
            have l10 := (Blk.of_own ho).2
            clear ho hb
            by_cases hlt : k ≤ n
            · obtain ⟨w7, hw7⟩ : ∃ w7 : World, w7 = wr := ⟨_, rfl⟩
              rw [← hw7] at O10 B10 hz10 ⊢
              clear hw7
              obtain ⟨gr, cr, y0, r0⟩ := (O.out.below B10.out).row (j := p) (by omega)
              rw [HN.out] at y0 r0
              have x1 := r0.f0 (k := k) (by unfold rowA; rw [tab_length]; omega)
              have x2 := r0.f1 (k := k) (by unfold rowA; rw [tab_length]; omega)
              have eq : gq (rowA xs p (n + 1)) k = amN misQ xs p k := by unfold rowA; exact gq_tab (by omega)
              rw [eq] at x1 x2
              have R0 := Lib.hid r0
              have Y0 := Lib.hid y0
              obtain ⟨aq, haq⟩ : ∃ aq, amN misQ xs p k = aq := ⟨_, rfl⟩
              rw [haq] at x1 x2
              have t9 : (k : Int) < (n : Int) + 1 := by omega
              have HA0 := Lib.hid (show amD misQ xs (amN misQ xs p) k (1 - 1) = aq from haq)
              clear r0 eq haq
              go_wp2_with fail
              obtain ⟨g12, hg12⟩ : ∃ g12, w7.heap.size = g12 := ⟨_, rfl⟩
              have k12 : Blk (w7.alloc (.cells #[.int .i64 (up aq), .int .i64 (dn aq)] 27)) g12 27 (fc [aq]) := by rw [← hg12]; exact Blk.made w7 #[.int .i64 (up aq), .int .i64 (dn aq)] 27
              have b12 : Below w7.heap.size w7 (w7.alloc (.cells #[.int .i64 (up aq), .int .i64 (dn aq)] 27)) := below_alloc
              have G12 := Lib.hid hg12
              rw [hg12]
              obtain ⟨w8, hw8⟩ : ∃ w8, w7.alloc (.cells #[.int .i64 (up aq), .int .i64 (dn aq)] 27) = w8 := ⟨_, rfl⟩
              rw [hw8] at k12 b12 ⊢
              have K12 := Lib.hid k12
              have B12 := Lib.hid b12
              clear hw8 hg12 x1 x2 k12 b12 y0
              go_loopw [13] (fun v13 wr => ∃ i : Nat, v13 = .int .i64 i ∧ 1 ≤ i ∧ i ≤ k ∧ Blk wr g12 27 (fc [amD misQ xs (amN misQ xs p) k (i - 1)]) ∧ Below w7.heap.size w7 wr) (fun v13 _ => k - (intOf v13).toNat)
              case atStart => exact ⟨1, rfl, Nat.le_refl _, hk1, by rw [HA0.out]; exact K12.out, B12.out⟩
              case round =>
                clear K12 B12
                obtain ⟨i, rfl, hi1, hi2, hk, hb⟩ := hrel
                have K := Lib.hid hk
                have B12 := Lib.hid hb
                have hz12 := hb.size
                have l12 := hk.lt
                clear hk hb
                by_cases hlik : i < k
                · have s1 := PN.out p i hi1 (by omega)
                  have s2 := PC.out i k hlik hlt
                  have s3 : Pq 6048000 (amN misQ xs p i + misQ (pc xs i k)) := by
                    obtain ⟨M, g1, g2, g3⟩ := (amN_least misQ xs p i hi1 (by rw [HN.out]; omega)).got
                    have := (g1.snoc (pc_ne (by rw [HN.out]; omega) hlik) (take_pc (by omega))).pq misQ_good (by rw [List.length_take]; have := HN.out; omega) (HX.out.take k)
                    rwa [cSum_append, cSum_one, g3] at this
                  have s4 : Pq 6048000 (amD misQ xs (amN misQ xs p) k (i - 1)) := by
                    rcases amD_or misQ xs (amN misQ xs p) k (i - 1) with e | ⟨a, h1, h2, h3⟩
                    · rw [e]; exact PN.out p k hk1 hlt
                    · obtain ⟨M, g1, g2, g3⟩ := (amN_least misQ xs p a h1 (by rw [HN.out]; omega)).got
                      have := (g1.snoc (pc_ne (by rw [HN.out]; omega) (show a < k by omega)) (take_pc (by omega))).pq misQ_good (by rw [List.length_take]; have := HN.out; omega) (HX.out.take k)
                      rw [h3, ← g3, ← cSum_one misQ (pc xs a k), ← cSum_append]
                      exact this
                  have CPc := CP.out i k hlik hlt
                  have e1 : amD misQ xs (amN misQ xs p) k (i + 1 - 1) = mnR (amD misQ xs (amN misQ xs p) k (i - 1)) (amN misQ xs p i + misQ (pc xs i k)) := by
                    obtain ⟨d, rfl⟩ : ∃ d, i = d + 1 := ⟨i - 1, by omega⟩
                    rfl
                  have y0 := keepC B12.out Y0.out
                  have r0 := R0.out.below B12.out
                  have x1 := r0.f0 (k := i) (by unfold rowA; rw [tab_length]; omega)
                  have x2 := r0.f1 (k := i) (by unfold rowA; rw [tab_length]; omega)
                  have eq : gq (rowA xs p (n + 1)) i = amN misQ xs p i := by unfold rowA; exact gq_tab (by omega)
                  rw [eq] at x1 x2
                  obtain ⟨aq, haq⟩ : ∃ aq, amN misQ xs p i = aq := ⟨_, rfl⟩
                  obtain ⟨cq, hcq⟩ : ∃ cq, misQ (pc xs i k) = cq := ⟨_, rfl⟩
                  obtain ⟨bq, hbq⟩ : ∃ bq, amD misQ xs (amN misQ xs p) k (i - 1) = bq := ⟨_, rfl⟩
                  rw [haq] at s1 s3 x1 x2 e1
                  rw [hcq] at s2 s3 CPc e1
                  rw [hbq] at s4 e1
                  obtain ⟨sm, hsm⟩ : ∃ sm, aq + cq = sm := ⟨_, rfl⟩
                  rw [hsm] at s3 e1
                  have o1 := plus_ok s1 s2
                  have o2 := less_ok (s3.mono (show (6048000 : Int) ≤ 12096000 by omega)) (s4.mono (show (6048000 : Int) ≤ 12096000 by omega))
                  have PW := Lib.hid (fun w => splus_any aq cq sm hsm w (by omega) (by omega))
                  have LW := Lib.hid (fun w => sless_any sm bq w (by omega))
                  have CPc := Lib.hid CPc
                  have E1 := Lib.hid e1
                  have HBQ := Lib.hid hbq
                  have t8 : (i : Int) < (n : Int) + 1 := by omega
                  have t7 : (p : Int) < (p : Int) + 1 := by omega
                  have RB := Lib.hid (H.out.below ((B.out.trans (B10.out.mono hz)).trans (B12.out.mono (Nat.le_trans hz hz10))))
                  clear haq hcq hbq hsm s1 s2 s3 s4 o1 o2 e1 eq r0
                  go_upto_region 20 with fail
                  go_cut [14] (fun s14 wx => ∃ g14, s14 = .pointer (some ⟨g14, 0, none⟩) ∧ wr.heap.size ≤ g14 ∧ Blk wx g14 27 (fc [sm]) ∧ Below wr.heap.size wr wx)
                  case first =>
                    clear hPi
                    have q0p : (0 : Int) ≤ (p : Int) := by omega
                    have q0i : (0 : Int) ≤ (i : Int) := by omega
                    go_region_held3 (fun w' => w'.cell? ⟨g, p, none⟩ = some (.slice (some ⟨gr, 0, none⟩) (n + 1) cr) ∧ w'.cell? ⟨gr, i * 2, none⟩ = some (.int .i64 (up aq)) ∧ w'.cell? ⟨gr, i * 2 + 1, none⟩ = some (.int .i64 (dn aq)) ∧ Below wr.heap.size wr w')
                      ((exact keepS3 (W := wr) (by (repeat' (first | (with_reducible exact Below.refl _ _) | (with_reducible assumption) | (with_reducible refine Below.drewN ?_ _) | (with_reducible refine Below.alloc ?_ ?_ _) | (with_reducible refine Below.drew ?_) | (with_reducible refine Below.setCell ?_ ?_ _) | (with_reducible refine Below.trans ?_ (Below.mono (by assumption) ?_)) | go_size | (with_reducible refine Nat.le_trans ?_ (Below.size (by assumption)))))) ⟨y0, x1, x2, Below.refl _ _⟩))
                      ((first
                        | (go_at_call 54; have hS : _ ∧ _ ∧ _ ∧ Below wr.heap.size wr _ := (by assumption); refine (CPc.out _ (RB.out.below hS.2.2.2)).mono ?_; rintro e w3 ⟨rfl, hb3⟩; obtain ⟨hc3, hf3⟩ := bcell hb3; have hz3 := hb3.size; (try simp only [World.size_alloc, World.size_drew] at hz3); (try have y3 : wr.heap.size < w3.heap.size := (by omega)))
                        | (go_at_call 43; refine (PW.out _).mono ?_; rintro e w4 ⟨rfl, hb4⟩; obtain ⟨hc4, hf4⟩ := bcell hb4; have hz4 := hb4.size; (try simp only [World.size_alloc] at hz4); (try have y4 : wr.heap.size < w4.heap.size := (by omega)); (try have y5 : w3.heap.size < w4.heap.size := (by omega)))))
                    all_goals go_wp2_with fail
                    all_goals go_meet
                    all_goals refine ⟨_, rfl, by omega, ?_, by (repeat' (first | (with_reducible exact Below.refl _ _) | (with_reducible assumption) | (with_reducible refine Below.drewN ?_ _) | (with_reducible refine Below.alloc ?_ ?_ _) | (with_reducible refine Below.drew ?_) | (with_reducible refine Below.setCell ?_ ?_ _) | (with_reducible refine Below.trans ?_ (Below.mono (by assumption) ?_)) | go_size | (with_reducible refine Nat.le_trans ?_ (Below.size (by assumption)))))⟩
                    all_goals change Blk _ _ _ [.int .i64 (up sm), .int .i64 (dn sm)]
                    all_goals (repeat' (first | ((with_reducible refine Blk.made' _ ?_ ?_) <;> first | rfl | (simp; done)) | (with_reducible refine Blk.two (x := .int .i64 0) (y := .int .i64 0) ?_ _ _) | (with_reducible refine Blk.drews ?_) | (with_reducible refine Blk.allocs ?_ _) | ((with_reducible refine Blk.others ?_ ?_); rotate_left; (focus (first | (simp; done) | (simp; omega)))) | (with_reducible refine Blk.below ?_ (by with_reducible assumption))))
                  case rest =>
                    obtain ⟨g14, rfl, hg14, hk14, hb14⟩ := hcut
                    have hl14 := hk14.lt
                    have hz14 := hb14.size
                    have hne : g14 ≠ g12 := by omega
                    have Kc := Lib.hid (K.out.below hb14)
                    have l12b : g12 < wc.heap.size := by omega
                    obtain ⟨v1, v2⟩ := hk14.one0
                    obtain ⟨u1, u2⟩ := Kc.out.one0
                    rw [HBQ.out] at u1 u2
                    have f1 := Kc.out.frozen 0
                    have f2 := Kc.out.frozen 1
                    have Bc := Lib.hid (B12.out.trans (hb14.mono hz12))
                    have hg12 := G12.out
                    have hw712 : w7.heap.size ≤ g12 := by omega
                    clear hk14 hb14 y0 x1 x2 hg12 K CPc RB
                    by_cases hcmp : sm < bq
                    · have t1 : decide (sm < bq) = true := by simpa using hcmp
                      have E2 := Lib.hid (show amD misQ xs (amN misQ xs p) k (i + 1 - 1) = sm by rw [E1.out, mnR, if_pos hcmp])
                      clear hcmp
                      go_wp2_with (go_at_call 45; refine (LW.out _).mono ?_; rintro e w7 ⟨rfl, hb7⟩; obtain ⟨hc7, hf7⟩ := bcell hb7; have hz7 := hb7.size; have l12c := Nat.lt_of_lt_of_le l12b hz7)
                      go_roundw
                      case rel =>
                        refine ⟨i + 1, by go_num, by omega, by omega, ?_, ((Bc.out.trans (hb7.mono (by omega))).setCell hw712 _).setCell hw712 _⟩
                        rw [E2.out]
                        exact (Kc.out.below hb7).two (x := .int .i64 (up (amD misQ xs (amN misQ xs p) k (i - 1)))) (y := .int .i64 (dn (amD misQ xs (amN misQ xs p) k (i - 1)))) _ _
                      case measure => simp [intOf]; omega
                    · have t1 : decide (sm < bq) = false := by simpa using hcmp
                      have E2 := Lib.hid (show amD misQ xs (amN misQ xs p) k (i + 1 - 1) = amD misQ xs (amN misQ xs p) k (i - 1) by rw [E1.out, mnR, if_neg hcmp, HBQ.out])
                      clear hcmp
                      go_wp2_with (go_at_call 45; refine (LW.out _).mono ?_; rintro e w7 ⟨rfl, hb7⟩; obtain ⟨hc7, hf7⟩ := bcell hb7; have hz7 := hb7.size; have l12c := Nat.lt_of_lt_of_le l12b hz7)
                      go_roundw
                      case rel => exact ⟨i + 1, by go_num, by omega, by omega, by rw [E2.out]; exact Kc.out.below hb7, Bc.out.trans (hb7.mono (by omega))⟩
                      case measure => simp [intOf]; omega
                · have hik : i = k := by omega
                  obtain ⟨v1, v2⟩ := K.out.one0
                  rw [hik] at v1 v2
                  have e1 : amD misQ xs (amN misQ xs p) k (k - 1) = amN misQ xs (p + 1) k := by
                    obtain ⟨d, rfl⟩ : ∃ d, k = d + 1 := ⟨k - 1, by omega⟩
                    rfl
                  have e2 : rowA xs (p + 1) (k + 1) = rowA xs (p + 1) k ++ [amN misQ xs (p + 1) k] := rowA_succ _ _ _
                  rw [e1] at v1 v2
                  obtain ⟨rq, hrq⟩ : ∃ rq, amN misQ xs (p + 1) k = rq := ⟨_, rfl⟩
                  rw [hrq] at v1 v2 e2
                  have E2 := Lib.hid e2
                  have O5 := Lib.hid (O10.out.below B12.out)
                  clear e1 e2 hrq hik K
                  go_wp2_with (at_builtin; refine wpList_app1 rfl (.tmp 77) (.tmp 79) 55 rfl wo.heap.size 27 (.agg #[.int .i64 0, .int .i64 0]) 2 16 Try.underlying55 infoF rfl (by decide) (by decide) _ _ _ rfl (World.ownsRow.alloc O5.out _) ⟨_, 0, none⟩ 1 [.int .i64 (up rq), .int .i64 (dn rq)] rfl rfl (cell_two_new _ _ _ _) (by simp [Value.oneCell']) (by omega) (by simp; omega) ?_; intro g9 cap9 w9 o1 o2 o3)
                  go_roundw
                  case rel => exact ⟨k + 1, g9, cap9, by go_num, by omega, by omega, rfl, by rw [E2.out]; exact OwnF.app o1, ((B10.out.trans (B12.out.mono hz10)).alloc (by omega) _).trans (Below.app (World.ownsRow.alloc O5.out _) (by simp; omega) o2)⟩
                  case measure => simp [intOf]; omega
            · have hkn : k = n + 1 := by omega
              subst hkn
              have O2 := Lib.hid (O.out.below B10.out)
              have K7 := Lib.hid O10.out.blk
              obtain ⟨Cs, c1, c2⟩ := O2.out
              have C1 := Lib.hid c1
              have C2 := Lib.hid c2
              have hzz : w.heap.size ≤ g10 := by omega
              have hgg : g10 ≠ g := by omega
              clear c1 c2
              go_wp2_with (at_builtin; refine wpList_app1 rfl (.tmp 81) (.tmp 83) 56 rfl w.heap.size 55 (.slice none 0 0) 1 24 Try.underlying56 infoFS rfl (by decide) (by decide) _ _ _ rfl (World.ownsRow.alloc C1.out _) ⟨_, 0, none⟩ 1 [.slice (some ⟨g10, 0, none⟩) (n + 1) cap10] rfl rfl (cell_one_new1 _ _ _) (by simp [Value.oneCell']) (by omega) (by simp; omega) ?_; intro g9 cap9 w9 o1 o2 o3)
              go_roundw
              case rel =>
                have hPe := HP.out
                refine ⟨p + 1, g9, cap9, by rw [← hPe]; go_num, by omega, rfl, OutA.app C1.out C2.out (by rw [HN.out]; exact K7.out) hzz hgg (by rw [HN.out]; exact o1) o2 o3, ?_⟩
                exact ((B.out.trans (B10.out.mono hz)).alloc (by omega) _).trans (Below.app (World.ownsRow.alloc C1.out _) (by simp; omega) o2)
              case measure => simp [intOf]; omega
        · have hpn : p + 1 = pn := by omega
          have ho := O.out
          rw [hpn] at ho
          have HO := Lib.hid ho
          have HPN := Lib.hid hpn
          clear ho hpn
          go_wp2_with fail
          go_ret
          exact ⟨g, cap, by rw [HPN.out]; rfl, HO.out, B.out⟩

end Go.Proofs.Ytfbccnameppikaa
