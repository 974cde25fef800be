/- The generators of points: two rows of the call's own, of at most nine numbers each. -/
import Derived.Test.YtoioafadenniiaaGrow
import Derived.Test.YtoioafadenniiaaAppS
import Derived.Deep.DeepCutAuto
namespace Go.Proofs.Ytoioafadenniiaa
open Go.RowKit

/-- One element more for the row at g4, in a world that a new block has been made in. -/
theorem app_facts {w wc w4 : World} {base g4 c4 g5 c5 g' cap k m g n c : Nat} {xs ws : List Int} {x p : Int} {ad : Option Addr} {o : Obj} (ha : OwnI wc base (.slice (some ⟨g4, 0, none⟩) k c4) k xs) (hb : OwnI wc base (.slice (some ⟨g5, 0, none⟩) m c5) m ws) (hne : g4 ≠ g5)
    (hr : Rdr wc g ad n c p) (hg : w.grownBy wc (some g)) (hbase : base = w.heap.size) (hgw : g < w.heap.size)
    (o1 : w4.ownsRow base 3 1 (.slice (some ⟨g', 0, none⟩) (k + 1) cap) (k + 1) (ic xs ++ [.int .i64 x])) (o2 : (wc.alloc o).grownBy w4 (some g4)) (o3 : some g4 = some g' ∨ (wc.alloc o).heap.size ≤ g') :
    OwnI w4 base (.slice (some ⟨g', 0, none⟩) (k + 1) cap) (k + 1) (xs ++ [x]) ∧ OwnI w4 base (.slice (some ⟨g5, 0, none⟩) m c5) m ws ∧ g' ≠ g5 ∧ Rdr w4 g ad n c p ∧ w.grownBy w4 (some g) := by
  have h4 := (Blk.of_own ha).2
  have h5 := (Blk.of_own hb).1.lt
  have h6 : wc.heap.size ≤ (wc.alloc o).heap.size := by simp
  refine ⟨OwnI.app o1, (hb.below below_alloc).grown o2 (fun e => hne (Option.some.inj e).symm), ?_, (hr.below below_alloc).keep o2 (by omega), grown_far (grown_trans hg (grown_of_below _ below_alloc)) o2 (by omega)⟩
  rcases o3 with h | h
  · have := Option.some.inj h
    omega
  · omega

/-- The two rows under way. -/
structure Two (w : World) (base g4 c4 g5 c5 k : Nat) (xs ws : List Int) : Prop where
  a : OwnI w base (.slice (some ⟨g4, 0, none⟩) k c4) k xs
  b : OwnI w base (.slice (some ⟨g5, 0, none⟩) k c5) k ws
  ne : g4 ≠ g5
theorem Two.grown {w w' : World} {base g4 c4 g5 c5 k gr : Nat} {xs ws : List Int} (h : Two w base g4 c4 g5 c5 k xs ws) (hb : w.grownBy w' (some gr)) (hlt : gr < base) : Two w' base g4 c4 g5 c5 k xs ws :=
  ⟨h.a.grown hb (fun e => by have h1 : g4 = gr := Option.some.inj e; have := (Blk.of_own h.a).2; omega), h.b.grown hb (fun e => by have h1 : g5 = gr := Option.some.inj e; have := (Blk.of_own h.b).2; omega), h.ne⟩
theorem Two.below {w w' : World} {base g4 c4 g5 c5 k : Nat} {xs ws : List Int} (h : Two w base g4 c4 g5 c5 k xs ws) (hb : Below w.heap.size w w') : Two w' base g4 c4 g5 c5 k xs ws := ⟨h.a.below hb, h.b.below hb, h.ne⟩

theorem ic_set (xs : List Int) (v : Int) : (ic xs).set 0 (.int .i64 v) = ic (xs.set 0 v) := by
  cases xs <;> simp [ic]

set_option maxHeartbeats 8000000 in
theorem someCloud_any (g n c : Nat) (ad : Option Addr) (w : World) (h : Rdr w g ad n c 0) :
    Calls Try.prog 68 #[.pointer (some ⟨g, 0, none⟩)] w fun e w' => ∃ g1 c1 g2 c2 xs ws p',
      e = .returned (.tuple #[.slice (some ⟨g1, 0, none⟩) xs.length c1, .slice (some ⟨g2, 0, none⟩) ws.length c2]) ∧ w.heap.size ≤ g1 ∧ w.heap.size ≤ g2 ∧ RowI w' g1 0 xs ∧ RowI w' g2 0 ws ∧
        (xs.length ≤ 9 ∧ xs.length ≤ c1) ∧ (ws.length ≤ 9 ∧ ws.length ≤ c2) ∧ p' ≤ 60 ∧ Rdr w' g ad n c p' ∧ w.grownBy w' (some g) := by
  have hgl := h.blk.lt
  have H := Lib.hid h
  clear h
  have hb8 : ∀ k, k < 8 → 0 ≤ gi [4, 5, 3, 6, 2, 7, 1, 0] k ∧ gi [4, 5, 3, 6, 2, 7, 1, 0] k ≤ 8 := by decide
  go_enter Try.func68, Try.ntmps68
  go_upto_region 3 with fail
  refine wp_abstract (fun W => Two W w.heap.size w.heap.size 0 (w.heap.size + 1) 0 0 [] [] ∧ Below w.heap.size w W) ⟨⟨?_, ?_, by omega⟩, by (repeat' (first | (with_reducible exact Below.refl _ _) | (with_reducible assumption) | (with_reducible refine Below.drewN ?_ _) | (with_reducible refine Below.alloc ?_ ?_ _) | (with_reducible refine Below.drew ?_) | (with_reducible refine Below.setCell ?_ ?_ _) | (with_reducible refine Below.trans ?_ (Below.mono (by assumption) ?_)) | go_size | (with_reducible refine Nat.le_trans ?_ (Below.size (by assumption)))))⟩ ?_
  · exact OwnI.below (World.ownsRow_made w #[] 0 (Nat.le_refl _) (by unfold maxLen; omega) rfl) below_alloc
  · have h2 : OwnI ((w.alloc (.cells #[] 3)).alloc (.cells #[] 3)) w.heap.size (.slice (some ⟨(w.alloc (.cells #[] 3)).heap.size, 0, none⟩) 0 0) 0 [] := World.ownsRow_made (w.alloc (.cells #[] 3)) #[] 0 (show w.heap.size ≤ _ by simp) (by unfold maxLen; omega) rfl
    simpa using h2
  rintro W ⟨ht, hb⟩
  have HT := Lib.hid ht
  have HR := Lib.hid (H.out.below hb)
  have HB := Lib.hid (grown_of_below (some g) hb)
  have hz := hb.size
  clear ht hb
  go_upto_region 4 with (go_at_call 63; refine (pick_any g n c ad 0 3 _ HR.out (by omega) (by omega) (by omega)).mono ?_; rintro e w3 ⟨v3, rfl, v30, v31, r3, h3⟩)
  have HT3 := Lib.hid (HT.out.grown h3 hgl)
  have HR3 := Lib.hid r3
  have HG3 := Lib.hid (grown_trans HB.out h3)
  have hz3 := h3.size
  have h8 := row_made w3 [4, 5, 3, 6, 2, 7, 1, 0]
  have hb9 : Below w3.heap.size w3 (w3.alloc (.cells (ic [4, 5, 3, 6, 2, 7, 1, 0]).toArray 3)) := below_alloc
  have hgl3 := r3.blk.lt
  clear r3 h3 HT HR HB
  go_wp2_with (go_at_call 64; refine (one_any g n c w3.heap.size 0 8 ad (0 + 1) [4, 5, 3, 6, 2, 7, 1, 0] _ (HR3.out.below hb9) h8 (by omega) (by omega) (by simp) (by simp)).mono ?_; rintro e w4 ⟨k0, hk0, rfl, hr4, hg4⟩)
  obtain ⟨nn, hnn⟩ : ∃ nn, gi [4, 5, 3, 6, 2, 7, 1, 0] k0 = nn := ⟨_, rfl⟩
  have hn8 := hb8 k0 hk0
  rw [hnn] at hn8 ⊢
  have HT4 := Lib.hid ((HT3.out.below hb9).grown hg4 hgl)
  have HR4 := Lib.hid hr4
  have HG4 := Lib.hid (grown_trans (grown_trans HG3.out (grown_of_below (some g) hb9)) hg4)
  clear hr4 hg4 hb9 h8 HT3 HR3 HG3 hb8 hk0 hnn
  go_loopw [4, 5] (fun v4 v5 wr => ∃ (k g4 c4 g5 c5 : Nat) (xs ws : List Int) (p : Int), v4 = .slice (some ⟨g4, 0, none⟩) k c4 ∧ v5 = .slice (some ⟨g5, 0, none⟩) k c5 ∧ (k : Int) ≤ nn ∧ p ≤ 2 + 5 * (k : Int) ∧ Two wr w.heap.size g4 c4 g5 c5 k xs ws ∧ Rdr wr g ad n c p ∧ w.grownBy wr (some g))
    (fun v4 _ _ => match v4 with | .slice _ m _ => nn.toNat - m | _ => 0)
  case atStart => exact ⟨0, w.heap.size, 0, w.heap.size + 1, 0, [], [], _, rfl, rfl, by omega, by omega, HT4.out, HR4.out, HG4.out⟩
  case round =>
    clear HT4 HR4 HG4
    obtain ⟨k, g4, c4, g5, c5, xs, ws, p, rfl, rfl, hk, hp, ht, hr, hg⟩ := hrel
    have HT := Lib.hid ht
    have HR := Lib.hid hr
    have HG := Lib.hid hg
    have hz := hg.size
    have hgr : g < wr.heap.size := hr.blk.lt
    have hg4 := (Blk.of_own ht.a).2
    have hg5 := (Blk.of_own ht.b).2
    clear ht hr hg
    by_cases hlt : (k : Int) < nn
    · go_upto_region 7 with (go_at_call 63; refine (pick_any g n c ad p 11 _ HR.out (by omega) (by omega) (by omega)).mono ?_; rintro e w1 ⟨v1, rfl, v10, v11, r1, h1⟩)
      have R1 := Lib.hid r1
      have HT1 := Lib.hid (HT.out.grown h1 hgl)
      have HG1 := Lib.hid (grown_trans HG.out h1)
      clear r1 h1 HT HG HR
      go_upto_region 8 with (go_at_call 63; refine (pick_any g n c ad (p + 1) 25 _ R1.out (by omega) (by omega) (by omega)).mono ?_; rintro e w2 ⟨v2, rfl, v20, v21, r2, h2⟩)
      have R2 := Lib.hid r2
      have HT2 := Lib.hid (HT1.out.grown h2 hgl)
      have HG2 := Lib.hid (grown_trans HG1.out h2)
      clear r2 h2 HT1 HG1 R1
      go_upto_if 30 with (go_at_call 63; refine (pick_any g n c ad (p + 1 + 1) 2 _ R2.out (by omega) (by omega) (by omega)).mono ?_; rintro e w5 ⟨v5, rfl, v50, v51, r5, h5⟩)
      have R5 := Lib.hid r5
      have HT5 := Lib.hid (HT2.out.grown h5 hgl)
      have HG5 := Lib.hid (grown_trans HG2.out h5)
      clear r5 h5 HT2 HG2 R2
      go_cut [9] (fun s9 wx => ∃ (y p' : Int), s9 = .int .i64 y ∧ p' ≤ p + 4 ∧ Two wx w.heap.size g4 c4 g5 c5 k xs ws ∧ Rdr wx g ad n c p' ∧ w.grownBy wx (some g))
      case first =>
        by_cases hv : v5 = 0
        · have t1 : (v5 == 0) = true := by rw [hv]; rfl
          have bm : -5 ≤ (v3 - 1) * (v1 - 5) ∧ (v3 - 1) * (v1 - 5) ≤ 5 := by
            rcases (by omega : v3 = 0 ∨ v3 = 1 ∨ v3 = 2) with h | h | h <;> subst h <;> omega
          go_wp2_with (go_at_call 63; refine (pick_any g n c ad (p + 1 + 1 + 1) 4 _ R5.out (by omega) (by omega) (by omega)).mono ?_; rintro e w7 ⟨v7, rfl, v70, v71, r7, h7⟩)
          go_meet
          exact ⟨_, _, rfl, by omega, HT5.out.grown h7 hgl, r7, grown_trans HG5.out h7⟩
        · have t1 : (v5 == 0) = false := by simpa using hv
          go_wp2
          go_meet
          exact ⟨_, _, rfl, by omega, HT5.out, R5.out, HG5.out⟩
      case rest =>
        obtain ⟨y, p', rfl, hp', ht, hr, hg⟩ := hcut
        have HT := Lib.hid ht
        have HR := Lib.hid hr
        have HG := Lib.hid hg
        clear ht hr hg HT5 HG5 R5
        have hzc := HG.out.size
        go_upto_region 11 with (at_builtin; refine wpList_app1 rfl (.tmp 38) (.tmp 40) 22 rfl w.heap.size 3 (.int .i64 0) 1 8 Try.underlying22 infoI rfl (by decide) (by decide) _ _ _ rfl (World.ownsRow.alloc HT.out.a _) ⟨wc.heap.size, 0, none⟩ 1 [.int .i64 (v1 - 5)] rfl rfl (cell_one_new _ _ _) (by simp [Value.oneCell']) (by omega) (by simp; omega) ?_; intro g6 cap6 w6 o1 o2 o3)
        obtain ⟨a6, b6, n6, r6, g6'⟩ := app_facts HT.out.a HT.out.b HT.out.ne HR.out HG.out rfl hgl o1 o2 o3
        have A6 := Lib.hid a6
        have B6 := Lib.hid b6
        have R6 := Lib.hid r6
        have G6 := Lib.hid g6'
        have hzg := g6'.size
        clear a6 b6 r6 g6' o1 o2 o3 HT HR HG
        go_wp2_with (at_builtin; refine wpList_app1 rfl (.tmp 42) (.tmp 44) 22 rfl w.heap.size 3 (.int .i64 0) 1 8 Try.underlying22 infoI rfl (by decide) (by decide) _ _ _ rfl (World.ownsRow.alloc B6.out _) ⟨w6.heap.size, 0, none⟩ 1 [.int .i64 y] rfl rfl (cell_one_new _ _ _) (by simp [Value.oneCell']) (by omega) (by simp; omega) ?_; intro g9 cap9 w9 o1 o2 o3)
        obtain ⟨b9, a9, n9, r9, h9⟩ := app_facts B6.out A6.out (Ne.symm n6) R6.out G6.out rfl hgl o1 o2 o3
        go_roundw
        case rel => exact ⟨k + 1, g6, cap6, g9, cap9, xs ++ [_], ws ++ [_], p', by go_num, by go_num, by omega, by omega, ⟨a9, b9, Ne.symm n9⟩, r9, h9⟩
        case measure => simp; omega
    · have hl4 := HT.out.a.len
      have hl5 := HT.out.b.len
      go_upto_region 13 with (go_at_call 63; refine (pick_any g n c ad p 30 _ HR.out (by omega) (by omega) (by omega)).mono ?_; rintro e w1 ⟨v1, rfl, v10, v11, r1, h1⟩)
      have R1 := Lib.hid r1
      have HT1 := Lib.hid (HT.out.grown h1 hgl)
      have HG1 := Lib.hid (grown_trans HG.out h1)
      have hz1 := HG1.out.size
      have hgr1 := R1.out.blk.lt
      clear r1 h1 HT HG HR
      by_cases e0 : v1 = 0
      · have t1 : (v1 == 0) = true := by rw [e0]; rfl
        go_wp2_with (at_builtin; refine wpList_app1 rfl (.tmp 51) (.tmp 52) 22 rfl w.heap.size 3 (.int .i64 0) 1 8 Try.underlying22 infoI rfl (by decide) (by decide) _ _ _ rfl (World.ownsRow.alloc HT1.out.b _) ⟨w1.heap.size, 0, none⟩ 1 [.int .i64 0] rfl rfl (cell_one_new _ _ _) (by simp [Value.oneCell']) (by omega) (by simp; omega) ?_; intro g9 cap9 w9 o1 o2 o3)
        obtain ⟨b9, a9, n9, r9, h9⟩ := app_facts HT1.out.b HT1.out.a (Ne.symm HT1.out.ne) R1.out HG1.out rfl hgl o1 o2 o3
        go_ret2
        exact ⟨g4, c4, g9, cap9, xs, ws ++ [0], _, by rw [hl4, List.length_append, hl5]; rfl, hg4, (Blk.of_own b9).2, a9.row, b9.row, ⟨by omega, by have := OwnI.cap a9; omega⟩, ⟨by rw [List.length_append, hl5]; simp; omega, by have := OwnI.cap b9; rw [List.length_append, hl5]; simpa using this⟩, by omega, r9, h9⟩
      · have t1 : (v1 == 0) = false := by simpa using e0
        by_cases e1 : v1 = 1
        · have t2 : (v1 == 1) = true := by rw [e1]; rfl
          by_cases hk0 : k = 0
          · subst hk0
            go_wp2_with fail
            go_ret2
            exact ⟨g4, c4, g5, c5, xs, ws, _, by rw [hl4, hl5]; rfl, hg4, hg5, HT1.out.a.row, HT1.out.b.row, ⟨by omega, by have := OwnI.cap HT1.out.a; omega⟩, ⟨by omega, by have := OwnI.cap HT1.out.b; omega⟩, by omega, R1.out, HG1.out⟩
          · have hk1 : (0 : Int) < (k : Int) := by omega
            have hk2 : 0 < k := by omega
            have h3 := row_made w1 [13, -13, 12]
            have hb3 : Below w1.heap.size w1 (w1.alloc (.cells (ic [13, -13, 12]).toArray 3)) := below_alloc
            have lg4 := (Blk.of_own HT1.out.a).1.lt
            have hne4 : g4 ≠ g := by omega
            go_wp2_with (go_at_call 64; refine (one_any g n c w1.heap.size 0 3 ad (p + 1) [13, -13, 12] _ (R1.out.below hb3) h3 (by omega) (by omega) (by simp) (by simp)).mono ?_; rintro e w8 ⟨k8, hk8, rfl, r8, h8⟩; have T8 := (HT1.out.below hb3).grown h8 hgl; have k4 := (Blk.of_own T8.a).1; have c0 := k4.cell (j := 0) (get_ic (k := 0) (by omega)); have f0 := k4.frozen 0)
            go_ret2
            have hk' := k4.set 0 (.int .i64 (gi [13, -13, 12] k8))
            rw [ic_set] at hk'
            have h5 := (Blk.of_own T8.b).1.other (.int .i64 (gi [13, -13, 12] k8)) (a := ⟨g4, 0, none⟩) (fun h => T8.ne h)
            have hll := T8.a.len
            refine ⟨g4, c4, g5, c5, xs.set 0 (gi [13, -13, 12] k8), ws, p + 1 + 1, by rw [List.length_set, hl4, hl5]; rfl, hg4, hg5, hk'.row, h5.row, ⟨by rw [List.length_set]; omega, by have := OwnI.cap T8.a; rw [List.length_set]; omega⟩, ⟨by omega, by have := OwnI.cap T8.b; omega⟩, by omega, ?_, ?_⟩
            · exact r8.keep (b := g4) (grownBy_set (grownBy_refl _ _) _) (by omega)
            · exact grown_far (grown_trans (grown_trans HG1.out (grown_of_below (some g) hb3)) h8) (grownBy_set (grownBy_refl _ _) _) hg4
        · have t2 : (v1 == 1) = false := by simpa using e1
          go_wp2_with fail
          go_ret2
          exact ⟨g4, c4, g5, c5, xs, ws, _, by rw [hl4, hl5]; rfl, hg4, hg5, HT1.out.a.row, HT1.out.b.row, ⟨by omega, by have := OwnI.cap HT1.out.a; omega⟩, ⟨by omega, by have := OwnI.cap HT1.out.b; omega⟩, by omega, R1.out, HG1.out⟩

/-- Two rows of the call's own, of at most nine numbers each. -/
def Drawn (w : World) (e : Ending) (w' : World) : Prop := ∃ g1 c1 g2 c2 xs ws,
  e = .returned (.tuple #[.slice (some ⟨g1, 0, none⟩) xs.length c1, .slice (some ⟨g2, 0, none⟩) ws.length c2]) ∧ w.heap.size ≤ g1 ∧ w.heap.size ≤ g2 ∧ RowI w' g1 0 xs ∧ RowI w' g2 0 ws ∧
    (xs.length ≤ 9 ∧ xs.length ≤ c1) ∧ (ws.length ≤ 9 ∧ ws.length ≤ c2) ∧ Below w.heap.size w w'

theorem drawSquareLine_any (ad : Option Addr) (n c : Nat) (w : World) (h : CodeB w w.heap.size ad n) (hn : n ≤ 9223372036854775807) (hc : n ≤ c) :
    Calls Try.prog 25 #[.slice ad n c] w (Drawn w) := by
  have H := Lib.hid h
  clear h
  go_enter Try.func25, Try.ntmps25
  go_wp2_with (first
    | (go_at_call 61; refine (newReader_any ad n c _ H.out hn hc).mono ?_; rintro e w1 ⟨g, n', c', rfl, rfl, hr, hb1⟩; have hz1 := hb1.size; have hl1 := hr.blk.lt)
    | (go_at_call 68; refine (someCloud_any _ n' c' ad _ hr).mono ?_; rintro e w2 ⟨g1, c1, g2, c2, xs, ws, p', rfl, k1, k2, r1, r2, l1, l2, hp', hr', hg⟩))
  go_ret2
  exact ⟨g1, c1, g2, c2, xs, ws, rfl, by omega, by omega, r1, r2, l1, l2, hb1.grown hg hz1 (fun k hk => by have := Option.some.inj hk; omega)⟩

theorem drawNearLine_any (ad : Option Addr) (n c : Nat) (w : World) (h : CodeB w w.heap.size ad n) (hn : n ≤ 9223372036854775807) (hc : n ≤ c) :
    Calls Try.prog 37 #[.slice ad n c] w (Drawn w) := by
  have H := Lib.hid h
  clear h
  go_enter Try.func37, Try.ntmps37
  go_wp2_with (first
    | (go_at_call 61; refine (newReader_any ad n c _ H.out hn hc).mono ?_; rintro e w1 ⟨g, n', c', rfl, rfl, hr, hb1⟩; have hz1 := hb1.size; have hl1 := hr.blk.lt)
    | (go_at_call 68; refine (someCloud_any _ n' c' ad _ hr).mono ?_; rintro e w2 ⟨g1, c1, g2, c2, xs, ws, p', rfl, k1, k2, r1, r2, l1, l2, hp', hr', hg⟩))
  go_ret2
  exact ⟨g1, c1, g2, c2, xs, ws, rfl, by omega, by omega, r1, r2, l1, l2, hb1.grown hg hz1 (fun k hk => by have := Option.some.inj hk; omega)⟩

theorem drawStripByThrees_any (ad : Option Addr) (n c : Nat) (w : World) (h : CodeB w w.heap.size ad n) (hn : n ≤ 9223372036854775807) (hc : n ≤ c) :
    Calls Try.prog 34 #[.slice ad n c] w (Drawn w) := by
  have H := Lib.hid h
  clear h
  go_enter Try.func34, Try.ntmps34
  go_wp2_with (first
    | (go_at_call 61; refine (newReader_any ad n c _ H.out hn hc).mono ?_; rintro e w1 ⟨g, n', c', rfl, rfl, hr, hb1⟩; have hz1 := hb1.size; have hl1 := hr.blk.lt)
    | (go_at_call 68; refine (someCloud_any _ n' c' ad _ hr).mono ?_; rintro e w2 ⟨g1, c1, g2, c2, xs, ws, p', rfl, k1, k2, r1, r2, l1, l2, hp', hr', hg⟩))
  go_ret2
  exact ⟨g1, c1, g2, c2, xs, ws, rfl, by omega, by omega, r1, r2, l1, l2, hb1.grown hg hz1 (fun k hk => by have := Option.some.inj hk; omega)⟩

end Go.Proofs.Ytoioafadenniiaa
