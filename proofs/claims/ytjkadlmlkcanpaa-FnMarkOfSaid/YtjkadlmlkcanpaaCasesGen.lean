/- The generators of cases with marks. -/
import Derived.Test.YtjkadlmlkcanpaaDataOf
namespace Go.Proofs.Ytjkadlmlkcanpaa
open Go.RowKit

theorem RowI.grownN {w w' : World} {b o g : Nat} {xs : List Int} (h : RowI w b o xs) (hb : w.grownBy w' (some g)) (hne : b ≠ g) : RowI w' b o xs :=
  ⟨Nat.lt_of_lt_of_le h.blk hb.size, fun k hk => by
    rw [World.cell?_of_block (a := ⟨b, o + k, none⟩) (hb.block b h.blk (fun e => hne (Option.some.inj e)))]
    exact h.cell k hk⟩

set_option maxHeartbeats 1000000 in
theorem pick_le (g n c : Nat) (ad : Option Addr) (p m : Int) (w : World) (h : Rdr w g ad n c p) (hp : p < 1000000) (hm2 : m ≤ 1048576) :
    Calls Try.prog 63 #[.pointer (some ⟨g, 0, none⟩), .int .i64 m] w
      fun e w' => ∃ v : Int, e = .returned (.int .i64 v) ∧ 0 ≤ v ∧ v ≤ 1048576 ∧ Rdr w' g ad n c (p + 1) ∧ w.grownBy w' (some g) := by
  by_cases hm : 1 ≤ m
  · refine (pick_any g n c ad p m w h hp hm hm2).mono ?_
    rintro e w1 ⟨v, rfl, v0, v1, hr, hg⟩
    exact ⟨v, rfl, v0, by omega, hr, hg⟩
  · have hp0 := h.p0
    have hset := h.set
    have c1 := h.blk.cell (j := 0) rfl
    have c2 := h.blk.cell (j := 1) rfl
    have f2 := h.blk.frozen 1
    have q1 : IntKind.i64.wrap (p + 1) = p + 1 := IntWalk.i64_in _ (by omega)
    have t1 : decide (m < 1) = true := by simp; omega
    have HS := Lib.hid hset
    clear hset h
    go_enter Try.func63, Try.ntmps63
    go_wp2
    go_ret
    exact ⟨0, rfl, by omega, by omega, HS.out, grownBy_set (grownBy_refl w (some g)) _⟩

set_option maxHeartbeats 4000000 in
theorem someCases_any (g n c : Nat) (ad : Option Addr) (p : Int) (w : World) (h : Rdr w g ad n c p) (hp : p ≤ 900) :
    Calls Try.prog 61 #[.pointer (some ⟨g, 0, none⟩)] w fun e w' => ∃ g1 c1 g2 c2 xs ws p',
      e = .returned (.tuple #[.slice (some ⟨g1, 0, none⟩) xs.length c1, .slice (some ⟨g2, 0, none⟩) ws.length c2]) ∧ RowI w' g1 0 xs ∧ RowI w' g2 0 ws ∧
    (xs.length ≤ 21 ∧ xs.length ≤ c1) ∧ (ws.length ≤ 22 ∧ ws.length ≤ c2) ∧ (g1 ≠ g ∧ g2 ≠ g) ∧ p' ≤ p + 64 ∧ Rdr w' g ad n c p' ∧ w.grownBy w' (some g) := by
  have hgl := h.blk.lt
  have HR := Lib.hid h
  have h8 := row_made w [5, 6, 4, 8, 3, 2, 10, 1, 0]
  have hb9 : Below w.heap.size w (w.alloc (.cells (ic [5, 6, 4, 8, 3, 2, 10, 1, 0]).toArray 3)) := below_alloc
  have hb8 : ∀ k, k < 9 → gi [5, 6, 4, 8, 3, 2, 10, 1, 0] k ≤ 10 := by decide
  clear h
  go_enter Try.func61, Try.ntmps61
  go_upto_region 2 with (first
    | (go_at_call 62; refine (one_any g n c w.heap.size 0 9 ad p [5, 6, 4, 8, 3, 2, 10, 1, 0] _ (HR.out.below hb9) h8 (by omega) (by omega) (by simp) (by simp)).mono ?_; rintro e w4 ⟨k0, hk0, rfl, hr4, hg4⟩; have hm8 := hb8 k0 hk0; have hz4 := hg4.size; have HG4 := Lib.hid (grown_trans (grown_of_below (some g) hb9) hg4))
    | (go_at_call 83; refine (dataOf_any g n c ad _ _ _ hr4 (by omega) hm8).mono ?_; rintro e w5 ⟨g1, c1, xs, p1, rfl, ho, hl, hp', hr, hg⟩; have HG5 := Lib.hid (grown_trans HG4.out hg); have hz5 := hg.size))
  have HX := Lib.hid ho.row
  have hxc := ho.cap
  have HR5 := Lib.hid hr
  have hg1 := (Blk.of_own ho).2
  have hg1l := ho.row.blk
  have z4 := HG4.out.size
  have z5 := HG5.out.size
  have hne : g1 ≠ g := by omega
  clear ho hr hg hr4 hg4 hm8 hb8 h8 hb9 hk0 HR
  have h0 : OwnI (w5.alloc (.cells #[] 3)) w5.heap.size (.slice (some ⟨w5.heap.size, 0, none⟩) 0 0) 0 [] := World.ownsRow_made w5 #[] 0 (Nat.le_refl _) (by unfold maxLen; omega) rfl
  have H0 := Lib.hid h0
  have hr0 := HR5.out.below (below_alloc (W := w5) (o := .cells #[] 3))
  have HR0 := Lib.hid hr0
  have G0 := Lib.hid (grown_of_below (some g) (below_alloc (W := w5) (o := .cells #[] 3)))
  clear h0 hr0
  go_upto_region 4 with fail
  go_loopw [5, 6] (fun v5 v6 wr => ∃ (k g5 c5 : Nat) (ms : List Int) (p' : Int), v6 = .int .i64 k ∧ k ≤ xs.length ∧ v5 = .slice (some ⟨g5, 0, none⟩) k c5 ∧ p' ≤ p1 + 2 * k ∧ OwnI wr w5.heap.size (.slice (some ⟨g5, 0, none⟩) k c5) k ms ∧ Rdr wr g ad n c p' ∧ w5.grownBy wr (some g))
    (fun _ v6 _ => xs.length - (intOf v6).toNat)
  case atStart => exact ⟨0, w5.heap.size, 0, [], p1, rfl, by omega, rfl, by omega, H0.out, HR0.out, G0.out⟩
  case round =>
    clear H0 HR0 G0
    obtain ⟨k, g5, c5, ms, p', rfl, hk, rfl, hp1, ht, hr, hg⟩ := hrel
    have HT := Lib.hid ht
    have HR := Lib.hid hr
    have HG := Lib.hid hg
    have hz := hg.size
    have hg5 := (Blk.of_own ht).2
    have hg5l := (Blk.of_own ht).1.lt
    have hp0' := hr.p0
    have hgr : g < wr.heap.size := hr.blk.lt
    have hlm := ht.len
    clear ht hr hg
    by_cases hlt : k < xs.length
    · go_upto_region 7 with (go_at_call 63; refine (pick_any g n c ad p' 2 _ HR.out (by omega) (by omega) (by omega)).mono ?_; rintro e w1 ⟨v1, rfl, v10, v11, r1, h1⟩; have HT1 := Lib.hid (HT.out.grown h1 (by simp [Value.ownBlock]; omega)); have HR1 := Lib.hid r1; have HG1 := Lib.hid (grown_trans HG.out h1); have hz1 := h1.size)
      clear HT HR HG r1 h1
      go_wp2_with fail
      refine (pick_any g n c ad _ 2 _ HR1.out (by omega) (by omega) (by omega)).mono ?_
      rintro e w2 ⟨v2, rfl, v20, v21, r2, h2⟩
      have HT2 := Lib.hid (HT1.out.grown h2 (by simp [Value.ownBlock]; omega))
      have HR2 := Lib.hid r2
      have HG2 := Lib.hid (grown_trans HG1.out h2)
      have hz2 := h2.size
      have y1 := (HX.out.grownN HG2.out hne).cell k hlt
      rw [Nat.zero_add] at y1
      obtain ⟨x, hx⟩ : ∃ x, gi xs k = x := ⟨_, rfl⟩
      rw [hx] at y1
      clear HT1 HR1 HG1 r2 h2 hx
      have APP : ∀ m : Int, ∀ (w6 : World) (g6 cap6 : Nat), (w2.alloc (.cells #[.int .i64 m] 3)).grownBy w6 (some g5) ∨ (w2.alloc (.cells #[.int .i64 m] 3)).grownBy w6 (some g5) → Rdr w6 g ad n c (p' + 1 + 1) ∧ w5.grownBy w6 (some g) := fun m w6 g6 cap6 o2 => by
        exact app_row HR2.out HG2.out (by omega) (o2.elim id id) hg5
      have AP := Lib.hid APP
      clear APP
      by_cases t1 : v2 = 0
      · have t1' : (v2 == 0) = true := by rw [t1]; rfl
        by_cases t2 : 0 < x
        · have t2' : decide (0 < x) = true := by simpa using t2
          clear t1 t2
          go_wp2_with (at_builtin; refine wpList_app1 rfl (.tmp 32) (.tmp 34) 22 rfl w5.heap.size 3 (.int .i64 0) 1 8 Try.underlying22 infoI rfl (by decide) (by decide) _ _ _ rfl (World.ownsRow.alloc HT2.out _) ⟨_, 0, none⟩ 1 [.int .i64 _] rfl rfl (cell_one_new _ _ _) (by simp [Value.oneCell']) (by omega) (by simp; omega) ?_; intro g6 cap6 w6 o1 o2 o3)
          obtain ⟨r6, g6'⟩ := AP.out _ w6 g6 cap6 (.inl o2)
          go_roundw
          case rel => exact ⟨k + 1, g6, cap6, ms ++ [_], p' + 1 + 1, by go_num, by omega, rfl, by omega, OwnI.app o1, r6, g6'⟩
          case measure => simp [intOf]; omega
        · have t2' : decide (0 < x) = false := by simpa using t2
          clear t1 t2
          go_wp2_with (at_builtin; refine wpList_app1 rfl (.tmp 32) (.tmp 34) 22 rfl w5.heap.size 3 (.int .i64 0) 1 8 Try.underlying22 infoI rfl (by decide) (by decide) _ _ _ rfl (World.ownsRow.alloc HT2.out _) ⟨_, 0, none⟩ 1 [.int .i64 _] rfl rfl (cell_one_new _ _ _) (by simp [Value.oneCell']) (by omega) (by simp; omega) ?_; intro g6 cap6 w6 o1 o2 o3)
          obtain ⟨r6, g6'⟩ := AP.out _ w6 g6 cap6 (.inl o2)
          go_roundw
          case rel => exact ⟨k + 1, g6, cap6, ms ++ [_], p' + 1 + 1, by go_num, by omega, rfl, by omega, OwnI.app o1, r6, g6'⟩
          case measure => simp [intOf]; omega
      · have t1' : (v2 == 0) = false := by simpa using t1
        clear t1
        go_wp2_with (at_builtin; refine wpList_app1 rfl (.tmp 32) (.tmp 34) 22 rfl w5.heap.size 3 (.int .i64 0) 1 8 Try.underlying22 infoI rfl (by decide) (by decide) _ _ _ rfl (World.ownsRow.alloc HT2.out _) ⟨_, 0, none⟩ 1 [.int .i64 _] rfl rfl (cell_one_new _ _ _) (by simp [Value.oneCell']) (by omega) (by simp; omega) ?_; intro g6 cap6 w6 o1 o2 o3)
        obtain ⟨r6, g6'⟩ := AP.out _ w6 g6 cap6 (.inl o2)
        go_roundw
        case rel => exact ⟨k + 1, g6, cap6, ms ++ [_], p' + 1 + 1, by go_num, by omega, rfl, by omega, OwnI.app o1, r6, g6'⟩
        case measure => simp [intOf]; omega
    · have e : k = xs.length := by omega
      subst e
      go_upto_region 11 with (go_at_call 63; refine (pick_any g n c ad p' 30 _ HR.out (by omega) (by omega) (by omega)).mono ?_; rintro e w1 ⟨v1, rfl, v10, v11, r1, h1⟩; have HT1 := Lib.hid (HT.out.grown h1 (by simp [Value.ownBlock]; omega)); have HR1 := Lib.hid r1; have HG1 := Lib.hid (grown_trans HG.out h1); have hz1 := h1.size)
      clear HT HR HG r1 h1
      by_cases t1 : v1 = 0
      · have t1' : (v1 == 0) = true := by rw [t1]; rfl
        clear t1
        go_wp2_with (at_builtin; refine wpList_app1 rfl (.tmp 41) (.tmp 42) 22 rfl w5.heap.size 3 (.int .i64 0) 1 8 Try.underlying22 infoI rfl (by decide) (by decide) _ _ _ rfl (World.ownsRow.alloc HT1.out _) ⟨_, 0, none⟩ 1 [.int .i64 _] rfl rfl (cell_one_new _ _ _) (by simp [Value.oneCell']) (by omega) (by simp; omega) ?_; intro g6 cap6 w6 o1 o2 o3)
        obtain ⟨r6, g6'⟩ := app_row HR1.out HG1.out (by omega) o2 hg5
        go_ret2
        have ho := OwnI.app o1
        have hlo := ho.len
        refine ⟨g1, c1, g6, cap6, xs, ms ++ [0], p' + 1, ?_, HX.out.grownN g6' hne, ho.row, ⟨hl, hxc⟩, ⟨by omega, ?_⟩, ⟨hne, by have := (Blk.of_own o1).2; omega⟩, by omega, r6, grown_trans HG5.out g6'⟩
        · rw [hlo]; rfl
        · rw [hlo]; exact ho.cap
      · have t1' : (v1 == 0) = false := by simpa using t1
        by_cases t2 : v1 = 1
        · have t2' : (v1 == 1) = true := by rw [t2]; rfl
          by_cases t3 : 0 < xs.length
          · have hbk := (Blk.of_own HT1.out).1
            have y1 := hbk.cell (get_ic (k := 0) (by omega))
            have f1 := hbk.frozen 0
            have hset := hbk.set 0 (.int .i64 2)
            have e : (ic ms).set 0 (.int .i64 2) = ic (ms.set 0 2) := by unfold ic; rw [List.map_set]
            rw [e] at hset
            have hrs := Blk.row hset
            have hc5 := HT1.out.cap
            have t3' : decide (0 < xs.length) = true := by simpa using t3
            have t4 : decide ((0 : Int) < (xs.length : Int)) = true := by simpa using t3
            have h0l : (0 : Int) < (xs.length : Int) := by omega
            have HRS := Lib.hid hrs
            clear t1 t2 t3 hset hbk hrs e
            go_wp2_with fail
            go_ret2
            have hr2 : Rdr (w1.setCell ⟨g5, 0, none⟩ (.int .i64 2)) g ad n c (p' + 1) := HR1.out.keep (grownBy_set (grownBy_refl w1 (some g5)) _) (by omega)
            have hg2 : w5.grownBy (w1.setCell ⟨g5, 0, none⟩ (.int .i64 2)) (some g) := grown_far HG1.out (grownBy_set (grownBy_refl w1 (some g5)) _) hg5
            refine ⟨g1, c1, g5, c5, xs, ms.set 0 2, p' + 1, ?_, HX.out.grownN hg2 hne, HRS.out, ⟨hl, hxc⟩, ⟨by rw [List.length_set]; omega, ?_⟩, ⟨hne, by omega⟩, by omega, hr2, grown_trans HG5.out hg2⟩
            · rw [List.length_set, hlm]; rfl
            · rw [List.length_set, hlm]; exact hc5
          · have t3' : decide (0 < xs.length) = false := by simpa using t3
            have t4 : decide ((0 : Int) < (xs.length : Int)) = false := by rw [decide_eq_false_iff_not]; omega
            clear t1 t2 t3
            go_wp2_with fail
            go_ret2
            refine ⟨g1, c1, g5, c5, xs, ms, p' + 1, ?_, HX.out.grownN HG1.out hne, HT1.out.row, ⟨hl, hxc⟩, ⟨by omega, ?_⟩, ⟨hne, by omega⟩, by omega, HR1.out, grown_trans HG5.out HG1.out⟩
            · rw [hlm]; rfl
            · rw [hlm]; exact HT1.out.cap
        · have t2' : (v1 == 1) = false := by simpa using t2
          clear t1 t2
          go_wp2_with fail
          go_ret2
          refine ⟨g1, c1, g5, c5, xs, ms, p' + 1, ?_, HX.out.grownN HG1.out hne, HT1.out.row, ⟨hl, hxc⟩, ⟨by omega, ?_⟩, ⟨hne, by omega⟩, by omega, HR1.out, grown_trans HG5.out HG1.out⟩
          · rw [hlm]; rfl
          · rw [hlm]; exact HT1.out.cap

theorem results4 {fn : Func} {t u v x : Tmp} (h : fn.results = #[.tmp t, .tmp u, .tmp v, .tmp x]) (tmps : Array Value) (P : Program) (w : World) :
    (results fn tmps).run P w = .ok (.tuple #[tmps.getD t undef, tmps.getD u undef, tmps.getD v undef, tmps.getD x undef]) w := by
  simp [results, h]

/-- Two rows of the call's own, and two numbers. -/
def PickedC (w : World) (e : Ending) (w' : World) : Prop := ∃ (g1 c1 g2 c2 : Nat) (xs ws : List Int) (x k : Int),
  e = .returned (.tuple #[.slice (some ⟨g1, 0, none⟩) xs.length c1, .slice (some ⟨g2, 0, none⟩) ws.length c2, .int .i64 x, .int .i64 k]) ∧ RowI w' g1 0 xs ∧ RowI w' g2 0 ws ∧
    (xs.length ≤ 21 ∧ xs.length ≤ c1) ∧ (ws.length ≤ 22 ∧ ws.length ≤ c2) ∧ Below w.heap.size w w'

set_option maxHeartbeats 4000000 in
set_option maxRecDepth 100000 in
theorem drawMarkOf_any (ad : Option Addr) (n c : Nat) (w : World) (h : CodeB w w.heap.size ad n) (hn : n ≤ 9223372036854775807) (hc : n ≤ c) :
    Calls Try.prog 31 #[.slice ad n c] w (PickedC w) := by
  have H := Lib.hid h
  clear h
  go_enter Try.func31, Try.ntmps31
  go_upto_region 3 with (first
    | (go_at_call 51; refine (newReader_any ad n c _ H.out hn hc).mono ?_; rintro e w1 ⟨g, n', c', rfl, hge, hr, hb1⟩; have hgw : w.heap.size ≤ g := (by omega); clear hge; have hz1 := hb1.size; have hl1 := hr.blk.lt)
    | (go_at_call 61; refine (someCases_any g n' c' ad _ _ hr (by omega)).mono ?_; rintro e w2 ⟨g1, c1, g2, c2, xs, ws, p2, rfl, r1, r2, l1, l2, ⟨hne1, hne2⟩, hp2, hr2, hg2⟩))
  have R1 := Lib.hid r1
  have R2 := Lib.hid r2
  have HR2 := Lib.hid hr2
  clear hr r1 r2 hr2
  go_wp2_with fail
  refine (pick_any g n' c' ad p2 21 _ HR2.out (by omega) (by omega) (by omega)).mono ?_
  rintro e w3 ⟨v3, rfl, v30, v31, r3, h3⟩
  have HR3 := Lib.hid r3
  have q3 : IntKind.i64.wrap (v3 - 10) = v3 - 10 := IntWalk.i64_in _ (by omega)
  clear r3 HR2
  go_wp2_with fail
  refine (pick_any g n' c' ad _ 200 _ HR3.out (by omega) (by omega) (by omega)).mono ?_
  rintro e w4 ⟨v4, rfl, v40, v41, r4, h4⟩
  have q4 : IntKind.i64.wrap (v4 - 100) = v4 - 100 := IntWalk.i64_in _ (by omega)
  have h8 := row_made w4 [v3 - 10, v4 - 100, 0, 200, 201]
  have hb8 : Below w4.heap.size w4 (w4.alloc (.cells (ic [v3 - 10, v4 - 100, 0, 200, 201]).toArray 3)) := below_alloc
  have r5 := r4.below hb8
  have HR5 := Lib.hid r5
  have hl4 := r4.blk.lt
  have G4 := Lib.hid (grown_trans (grown_trans h3 h4) (grown_of_below (some g) hb8))
  clear r4 r5 hb8 h3 h4 HR3
  go_wp2_with fail
  refine (one_any g n' c' w4.heap.size 0 5 ad _ [v3 - 10, v4 - 100, 0, 200, 201] _ HR5.out h8 (by omega) (by omega) (by simp) (by simp)).mono ?_
  rintro e w5 ⟨k5, hk5, rfl, r6, h6⟩
  have HR6 := Lib.hid r6
  have G6 := Lib.hid (grown_trans G4.out h6)
  obtain ⟨x, hx⟩ : ∃ x, gi [v3 - 10, v4 - 100, 0, 200, 201] k5 = x := ⟨_, rfl⟩
  rw [hx]
  clear hx r6 h6 G4 h8 HR5 q3 q4 hk5
  go_wp2_with fail
  refine (pick_le g n' c' ad _ xs.length _ HR6.out (by omega) (by omega)).mono ?_
  rintro e w7 ⟨v7, rfl, v70, v71, r7, h7⟩
  have q7 : IntKind.i64.wrap (1 + v7) = 1 + v7 := IntWalk.i64_in _ (by omega)
  have q8 : IntKind.i64.wrap ((xs.length : Int) + 1) = (xs.length : Int) + 1 := IntWalk.i64_in _ (by omega)
  have h8 := row_made w7 [1 + v7, 1, 3, xs.length, 0, (xs.length : Int) + 1]
  have hb8 : Below w7.heap.size w7 (w7.alloc (.cells (ic [1 + v7, 1, 3, xs.length, 0, (xs.length : Int) + 1]).toArray 3)) := below_alloc
  have r8 := r7.below hb8
  have HR8 := Lib.hid r8
  have hl7 := r7.blk.lt
  have G8 := Lib.hid (grown_trans (grown_trans G6.out h7) (grown_of_below (some g) hb8))
  clear r7 r8 hb8 h7 G6 HR6
  go_wp2_with fail
  refine (one_any g n' c' w7.heap.size 0 6 ad _ [1 + v7, 1, 3, xs.length, 0, (xs.length : Int) + 1] _ HR8.out h8 (by omega) (by omega) (by simp) (by simp)).mono ?_
  rintro e w9 ⟨k9, hk9, rfl, r9, h9⟩
  obtain ⟨k, hk⟩ : ∃ x, gi [1 + v7, 1, 3, xs.length, 0, (xs.length : Int) + 1] k9 = x := ⟨_, rfl⟩
  rw [hk]
  have G9 := Lib.hid (grown_trans G8.out h9)
  clear hk hk9 r9 h9 G8 h8 HR8
  go_wp2_with fail
  (try simp only [Exit.inBlock, Exit.then])
  refine bodyPost_ret (results4 rfl _ _ _) rfl ?_
  exact ⟨g1, c1, g2, c2, xs, ws, x, k, rfl, R1.out.grownN G9.out hne1, R2.out.grownN G9.out hne2, l1, l2, hb1.grown (grown_trans hg2 G9.out) hz1 (fun k hk => by have := Option.some.inj hk; omega)⟩

end Go.Proofs.Ytjkadlmlkcanpaa
