/- The reference's generator of numbers with weights: two rows of the call's own, of at most nine numbers each. -/
import Derived.Test.YtcmbfkdhfdiamaaReader
import Derived.Test.YtcmbfkdhfdiamaaKeep
import Derived.Deep.LoopGhost
namespace Go.Proofs.Ytcmbfkdhfdiamaa
open Go.RowKit

theorem OwnI.grown {w w' : World} {base n gr : Nat} {v : Value} {xs : List Int} (h : OwnI w base v n xs) (hb : w.grownBy w' (some gr)) (hne : v.ownBlock ≠ some gr) : OwnI w' base v n xs :=
  World.ownsRow.kept h (row := some gr) hb (.inr hne)
theorem grown_trans {w w1 w2 : World} {r : Option Nat} (h : w.grownBy w1 r) (h' : w1.grownBy w2 r) : w.grownBy w2 r :=
  ⟨h'.os.trans h.os, h'.tape.trans h.tape, h'.output.trans h.output, Nat.le_trans h.size h'.size, fun k hk hne => (h'.block k (Nat.lt_of_lt_of_le hk h.size) hne).trans (h.block k hk hne)⟩
theorem grown_of_below {w w' : World} (r : Option Nat) (h : Below w.heap.size w w') : w.grownBy w' r := ⟨h.os, h.tape, h.output, h.size, fun k hk _ => h.block k hk⟩
theorem Rdr.keep {w w' : World} {g n c b : Nat} {ad : Option Addr} {p : Int} (h : Rdr w g ad n c p) (hb : w.grownBy w' (some b)) (hne : g < b) : Rdr w' g ad n c p := by
  refine ⟨h.blk.grown hb (by omega), ?_, h.len, h.p0⟩
  rcases h.code with h1 | ⟨bb, o, h1, h2, h3⟩
  · exact .inl h1
  · refine .inr ⟨bb, o, h1, h2, fun k hk => ?_⟩
    obtain ⟨v, v0, v1, hv⟩ := h3 k hk
    refine ⟨v, v0, v1, ?_⟩
    rw [← hv]
    exact World.cell?_of_block (hb.block bb (World.block_lt_of_cell? w _ hv) (fun e => by have := Option.some.inj e; omega))

theorem grown_far {w w1 w2 : World} {r : Option Nat} {b : Nat} (h : w.grownBy w1 r) (h' : w1.grownBy w2 (some b)) (hb : w.heap.size ≤ b) : w.grownBy w2 r :=
  ⟨h'.os.trans h.os, h'.tape.trans h.tape, h'.output.trans h.output, Nat.le_trans h.size h'.size, fun k hk hne => (h'.block k (Nat.lt_of_lt_of_le hk h.size) (fun e => by have := Option.some.inj e; omega)).trans (h.block k hk hne)⟩
/-- One element more for the row at g4, in a world that a new block has been made in. -/
theorem app_facts {w wc w4 : World} {base g4 c4 g5 c5 g' cap k m g n c : Nat} {xs ws : List Int} {x p : Int} {ad : Option Addr} {o : Obj} (ha : OwnI wc base (.slice (some ⟨g4, 0, none⟩) k c4) k xs) (hb : OwnI wc base (.slice (some ⟨g5, 0, none⟩) m c5) m ws) (hne : g4 ≠ g5)
    (hr : Rdr wc g ad n c p) (hg : w.grownBy wc (some g)) (hbase : base = w.heap.size) (hgw : g < w.heap.size)
    (o1 : w4.ownsRow base 3 1 (.slice (some ⟨g', 0, none⟩) (k + 1) cap) (k + 1) (ic xs ++ [.int .i64 x])) (o2 : (wc.alloc o).grownBy w4 (some g4)) (o3 : some g4 = some g' ∨ (wc.alloc o).heap.size ≤ g') :
    OwnI w4 base (.slice (some ⟨g', 0, none⟩) (k + 1) cap) (k + 1) (xs ++ [x]) ∧ OwnI w4 base (.slice (some ⟨g5, 0, none⟩) m c5) m ws ∧ g' ≠ g5 ∧ Rdr w4 g ad n c p ∧ w.grownBy w4 (some g) := by
  have h4 := (Blk.of_own ha).2
  have h5 := (Blk.of_own hb).1.lt
  have h6 : wc.heap.size ≤ (wc.alloc o).heap.size := by simp
  refine ⟨OwnI.app o1, (hb.below below_alloc).grown o2 (fun e => hne (Option.some.inj e).symm), ?_, (hr.below below_alloc).keep o2 (by omega), grown_far (grown_trans hg (grown_of_below _ below_alloc)) o2 (by omega)⟩
  rcases o3 with h | h
  · have := Option.some.inj h
    omega
  · omega

/-- The two rows under way. -/
structure Two (w : World) (base g4 c4 g5 c5 k : Nat) (xs ws : List Int) : Prop where
  a : OwnI w base (.slice (some ⟨g4, 0, none⟩) k c4) k xs
  b : OwnI w base (.slice (some ⟨g5, 0, none⟩) k c5) k ws
  ne : g4 ≠ g5
theorem Two.grown {w w' : World} {base g4 c4 g5 c5 k gr : Nat} {xs ws : List Int} (h : Two w base g4 c4 g5 c5 k xs ws) (hb : w.grownBy w' (some gr)) (hlt : gr < base) : Two w' base g4 c4 g5 c5 k xs ws :=
  ⟨h.a.grown hb (fun e => by have h1 : g4 = gr := Option.some.inj e; have := (Blk.of_own h.a).2; omega), h.b.grown hb (fun e => by have h1 : g5 = gr := Option.some.inj e; have := (Blk.of_own h.b).2; omega), h.ne⟩
theorem Two.below {w w' : World} {base g4 c4 g5 c5 k : Nat} {xs ws : List Int} (h : Two w base g4 c4 g5 c5 k xs ws) (hb : Below w.heap.size w w') : Two w' base g4 c4 g5 c5 k xs ws := ⟨h.a.below hb, h.b.below hb, h.ne⟩
theorem row_made (w : World) (xs : List Int) : RowI (w.alloc (.cells (ic xs).toArray 3)) w.heap.size 0 xs := Blk.row (by have := Blk.made w (ic xs).toArray 3; simpa using this)

set_option maxHeartbeats 4000000 in
theorem someLoads_any (g n c : Nat) (ad : Option Addr) (w : World) (h : Rdr w g ad n c 0) :
    Calls Try.prog 60 #[.pointer (some ⟨g, 0, none⟩)] w fun e w' => ∃ g1 c1 g2 c2 xs ws,
      e = .returned (.tuple #[.slice (some ⟨g1, 0, none⟩) xs.length c1, .slice (some ⟨g2, 0, none⟩) ws.length c2]) ∧ w.heap.size ≤ g1 ∧ w.heap.size ≤ g2 ∧ RowI w' g1 0 xs ∧ RowI w' g2 0 ws ∧
        (xs.length ≤ 9 ∧ xs.length ≤ c1) ∧ (ws.length ≤ 9 ∧ ws.length ≤ c2) ∧ w.grownBy w' (some g) := by
  have hgl := h.blk.lt
  have H := Lib.hid h
  clear h
  have hb8 : ∀ k, k < 8 → 0 ≤ gi [4, 5, 6, 3, 8, 2, 1, 0] k ∧ gi [4, 5, 6, 3, 8, 2, 1, 0] k ≤ 8 := by decide
  go_enter Try.func60, Try.ntmps60
  go_upto_region 3 with fail
  refine wp_abstract (fun W => Two W w.heap.size w.heap.size 0 (w.heap.size + 1) 0 0 [] [] ∧ Below w.heap.size w W) ⟨⟨?_, ?_, by omega⟩, by (repeat' (first | (with_reducible exact Below.refl _ _) | (with_reducible assumption) | (with_reducible refine Below.drewN ?_ _) | (with_reducible refine Below.alloc ?_ ?_ _) | (with_reducible refine Below.drew ?_) | (with_reducible refine Below.setCell ?_ ?_ _) | (with_reducible refine Below.trans ?_ (Below.mono (by assumption) ?_)) | go_size | (with_reducible refine Nat.le_trans ?_ (Below.size (by assumption)))))⟩ ?_
  · exact OwnI.below (World.ownsRow_made w #[] 0 (Nat.le_refl _) (by unfold maxLen; omega) rfl) below_alloc
  · have h2 : OwnI ((w.alloc (.cells #[] 3)).alloc (.cells #[] 3)) w.heap.size (.slice (some ⟨(w.alloc (.cells #[] 3)).heap.size, 0, none⟩) 0 0) 0 [] := World.ownsRow_made (w.alloc (.cells #[] 3)) #[] 0 (show w.heap.size ≤ _ by simp) (by unfold maxLen; omega) rfl
    simpa using h2
  rintro W ⟨ht, hb⟩
  have HT := Lib.hid ht
  have HR := Lib.hid (H.out.below hb)
  have HB := Lib.hid (grown_of_below (some g) hb)
  have hz := hb.size
  have h8 := row_made W [4, 5, 6, 3, 8, 2, 1, 0]
  have hb9 : Below W.heap.size W (W.alloc (.cells (ic [4, 5, 6, 3, 8, 2, 1, 0]).toArray 3)) := below_alloc
  clear ht hb
  go_wp2_with (go_at_call 84; refine (one_any g n c W.heap.size 0 8 ad 0 [4, 5, 6, 3, 8, 2, 1, 0] _ (HR.out.below hb9) h8 (by omega) (by omega) (by simp) (by simp)).mono ?_; rintro e w4 ⟨k0, hk0, rfl, hr4, hg4⟩)
  obtain ⟨nn, hnn⟩ : ∃ nn, gi [4, 5, 6, 3, 8, 2, 1, 0] k0 = nn := ⟨_, rfl⟩
  have hn8 := hb8 k0 hk0
  rw [hnn] at hn8 ⊢
  have HT4 := Lib.hid ((HT.out.below hb9).grown hg4 hgl)
  have HR4 := Lib.hid hr4
  have HG4 := Lib.hid (grown_trans (grown_trans HB.out (grown_of_below (some g) hb9)) hg4)
  clear hr4 hg4 hb9 h8 HT HR HB hb8 hk0 hnn
  go_loopw [4, 5] (fun v4 v5 wr => ∃ (k g4 c4 g5 c5 : Nat) (xs ws : List Int) (p : Int), v4 = .slice (some ⟨g4, 0, none⟩) k c4 ∧ v5 = .slice (some ⟨g5, 0, none⟩) k c5 ∧ (k : Int) ≤ nn ∧ p ≤ 1 + 10 * (k : Int) ∧ Two wr w.heap.size g4 c4 g5 c5 k xs ws ∧ Rdr wr g ad n c p ∧ w.grownBy wr (some g))
    (fun v4 _ _ => match v4 with | .slice _ m _ => nn.toNat - m | _ => 0)
  case atStart => exact ⟨0, w.heap.size, 0, w.heap.size + 1, 0, [], [], 1, rfl, rfl, by omega, by omega, HT4.out, HR4.out, HG4.out⟩
  case round =>
    clear HT4 HR4 HG4
    obtain ⟨k, g4, c4, g5, c5, xs, ws, p, rfl, rfl, hk, hp, ht, hr, hg⟩ := hrel
    have HT := Lib.hid ht
    have HR := Lib.hid hr
    have HG := Lib.hid hg
    have hz := hg.size
    have hgr : g < wr.heap.size := hr.blk.lt
    have hg4 := (Blk.of_own ht.a).2
    have hg5 := (Blk.of_own ht.b).2
    clear ht hr hg
    by_cases hlt : (k : Int) < nn
    · go_upto_region 6 with (go_at_call 95; refine (pick_any g n c ad p 13 _ HR.out (by omega) (by omega) (by omega)).mono ?_; rintro e w1 ⟨v1, rfl, v10, v11, r1, h1⟩)
      have R1 := Lib.hid r1
      have H1 := Lib.hid h1
      have HT1 := Lib.hid (HT.out.grown h1 hgl)
      have HG1 := Lib.hid (grown_trans HG.out h1)
      clear r1 h1 HT HG HR
      go_upto_if 22 with (go_at_call 95; refine (pick_any g n c ad (p + 1) 4 _ R1.out (by omega) (by omega) (by omega)).mono ?_; rintro e w2 ⟨v2, rfl, v20, v21, r2, h2⟩)
      have R2 := Lib.hid r2
      have HT2 := Lib.hid (HT1.out.grown h2 hgl)
      have HG2 := Lib.hid (grown_trans HG1.out h2)
      clear r2 h2 HT1 HG1 R1 H1
      go_cut [7] (fun s7 wx => ∃ (x p' : Int), s7 = .int .i64 x ∧ p' ≤ p + 3 ∧ Two wx w.heap.size g4 c4 g5 c5 k xs ws ∧ Rdr wx g ad n c p' ∧ w.grownBy wx (some g))
      case first =>
        by_cases hv : v2 = 0
        · have t1 : (v2 == 0) = true := by rw [hv]; rfl
          go_wp2_with (go_at_call 95; refine (pick_any g n c ad (p + 1 + 1) 61 _ R2.out (by omega) (by omega) (by omega)).mono ?_; rintro e w3 ⟨v3, rfl, v30, v31, r3, h3⟩)
          go_meet
          exact ⟨_, _, rfl, by omega, HT2.out.grown h3 hgl, r3, grown_trans HG2.out h3⟩
        · have t1 : (v2 == 0) = false := by simpa using hv
          go_wp2
          go_meet
          exact ⟨_, _, rfl, by omega, HT2.out, R2.out, HG2.out⟩
      case rest =>
        obtain ⟨x, p', rfl, hp', ht, hr, hg⟩ := hcut
        have HT := Lib.hid ht
        have HR := Lib.hid hr
        have HG := Lib.hid hg
        clear ht hr hg HT2 HG2 R2
        have hzc := HG.out.size
        go_upto_region 9 with (at_builtin; refine wpList_app1 rfl (.tmp 26) (.tmp 28) 23 rfl w.heap.size 3 (.int .i64 0) 1 8 Try.underlying23 infoI rfl (by decide) (by decide) _ _ _ rfl (World.ownsRow.alloc HT.out.a _) ⟨wc.heap.size, 0, none⟩ 1 [.int .i64 x] rfl rfl (cell_one_new _ _ _) (by simp [Value.oneCell']) (by omega) (by simp; omega) ?_; intro g6 cap6 w6 o1 o2 o3)
        obtain ⟨a6, b6, n6, r6, g6'⟩ := app_facts HT.out.a HT.out.b HT.out.ne HR.out HG.out rfl hgl o1 o2 o3
        have A6 := Lib.hid a6
        have B6 := Lib.hid b6
        have R6 := Lib.hid r6
        have G6 := Lib.hid g6'
        clear a6 b6 r6 g6' o1 o2 o3 HT HR HG
        go_wp2_with (first
          | (go_at_call 95; refine (pick_any g n c ad p' 5 _ R6.out (by omega) (by omega) (by omega)).mono ?_; rintro e w7 ⟨v7, rfl, v70, v71, r7, h7⟩; have hb8 := row_made w7 [1, 1, 2, 1 + v7]; have hl7 := r7.blk.lt)
          | (go_at_call 84; refine (one_any g n c w7.heap.size 0 4 ad (p' + 1) [1, 1, 2, 1 + v7] _ (r7.below below_alloc) hb8 (by omega) (by omega) (by simp) (by simp)).mono ?_; rintro e w8 ⟨k8, hk8, rfl, r8, h8⟩; have hz8 := h8.size; have b8 := ((B6.out.grown h7 (fun e => by have h1 : g5 = g := Option.some.inj e; omega)).below below_alloc).grown h8 (fun e => by have h1 : g5 = g := Option.some.inj e; omega); have a8 := ((A6.out.grown h7 (fun e => by have h1 : g6 = g := Option.some.inj e; have := (Blk.of_own A6.out).2; omega)).below below_alloc).grown h8 (fun e => by have h1 : g6 = g := Option.some.inj e; have := (Blk.of_own A6.out).2; omega); have g8 := grown_trans (grown_trans (grown_trans G6.out h7) (grown_of_below (some g) below_alloc)) h8; have hz8' := g8.size)
          | (at_builtin; refine wpList_app1 rfl (.tmp 30) (.tmp 37) 23 rfl w.heap.size 3 (.int .i64 0) 1 8 Try.underlying23 infoI rfl (by decide) (by decide) _ _ _ rfl (World.ownsRow.alloc b8 _) ⟨w8.heap.size, 0, none⟩ 1 [.int .i64 (gi [1, 1, 2, 1 + v7] k8)] rfl rfl (cell_one_new _ _ _) (by simp [Value.oneCell']) (by omega) (by simp; omega) ?_; intro g9 cap9 w9 o1 o2 o3))
        obtain ⟨b9, a9, n9, r9, h9⟩ := app_facts b8 a8 (Ne.symm n6) r8 g8 rfl hgl o1 o2 o3
        go_roundw
        case rel => exact ⟨k + 1, g6, cap6, g9, cap9, xs ++ [x], ws ++ [gi [1, 1, 2, 1 + v7] k8], p' + 1 + 1, by go_num, by go_num, by omega, by omega, ⟨a9, b9, Ne.symm n9⟩, r9, h9⟩
        case measure => simp; omega
    · have hl4 := HT.out.a.len
      have hl5 := HT.out.b.len
      go_upto_region 11 with (go_at_call 95; refine (pick_any g n c ad p 40 _ HR.out (by omega) (by omega) (by omega)).mono ?_; rintro e w1 ⟨v1, rfl, v10, v11, r1, h1⟩)
      have R1 := Lib.hid r1
      have HT1 := Lib.hid (HT.out.grown h1 hgl)
      have HG1 := Lib.hid (grown_trans HG.out h1)
      have hz1 := HG1.out.size
      clear r1 h1 HT HG HR
      by_cases e0 : v1 = 0
      · have t1 : (v1 == 0) = true := by rw [e0]; rfl
        go_wp2_with (at_builtin; refine wpList_app1 rfl (.tmp 44) (.tmp 45) 23 rfl w.heap.size 3 (.int .i64 0) 1 8 Try.underlying23 infoI rfl (by decide) (by decide) _ _ _ rfl (World.ownsRow.alloc HT1.out.b _) ⟨w1.heap.size, 0, none⟩ 1 [.int .i64 1] rfl rfl (cell_one_new _ _ _) (by simp [Value.oneCell']) (by omega) (by simp; omega) ?_; intro g9 cap9 w9 o1 o2 o3)
        obtain ⟨b9, a9, n9, r9, h9⟩ := app_facts HT1.out.b HT1.out.a (Ne.symm HT1.out.ne) R1.out HG1.out rfl hgl o1 o2 o3
        go_ret2
        exact ⟨g4, c4, g9, cap9, xs, ws ++ [1], by rw [hl4, List.length_append, hl5]; rfl, hg4, (Blk.of_own b9).2, a9.row, b9.row, ⟨by omega, by have := OwnI.cap a9; omega⟩, ⟨by rw [List.length_append, hl5]; simp; omega, by have := OwnI.cap b9; rw [List.length_append, hl5]; simpa using this⟩, h9⟩
      · have t1 : (v1 == 0) = false := by simpa using e0
        by_cases e1 : v1 = 1
        · have t2 : (v1 == 1) = true := by rw [e1]; rfl
          go_wp2_with (first | (at_builtin; refine wpList_app1 rfl (.tmp 49) (.tmp 50) 23 rfl w.heap.size 3 (.int .i64 0) 1 8 Try.underlying23 infoI rfl (by decide) (by decide) _ _ _ rfl (World.ownsRow.alloc HT1.out.a _) ⟨w1.heap.size, 0, none⟩ 1 [.int .i64 31] rfl rfl (cell_one_new _ _ _) (by simp [Value.oneCell']) (by omega) (by simp; omega) ?_; intro g8 cap8 w8 p1 p2 p3; obtain ⟨a8, b8, n8, r8, h8⟩ := app_facts HT1.out.a HT1.out.b HT1.out.ne R1.out HG1.out rfl hgl p1 p2 p3; have hz8 := h8.size) | (at_builtin; refine wpList_app1 rfl (.tmp 52) (.tmp 53) 23 rfl w.heap.size 3 (.int .i64 0) 1 8 Try.underlying23 infoI rfl (by decide) (by decide) _ _ _ rfl (World.ownsRow.alloc b8 _) ⟨w8.heap.size, 0, none⟩ 1 [.int .i64 1] rfl rfl (cell_one_new _ _ _) (by simp [Value.oneCell']) (by omega) (by simp; omega) ?_; intro g9 cap9 w9 o1 o2 o3))
          obtain ⟨b9, a9, n9, r9, h9⟩ := app_facts b8 a8 (Ne.symm n8) r8 h8 rfl hgl o1 o2 o3
          go_ret2
          exact ⟨g8, cap8, g9, cap9, xs ++ [31], ws ++ [1], by rw [List.length_append, List.length_append, hl4, hl5]; rfl, (Blk.of_own a9).2, (Blk.of_own b9).2, a9.row, b9.row, ⟨by rw [List.length_append, hl4]; simp; omega, by have := OwnI.cap a9; rw [List.length_append, hl4]; simpa using this⟩, ⟨by rw [List.length_append, hl5]; simp; omega, by have := OwnI.cap b9; rw [List.length_append, hl5]; simpa using this⟩, h9⟩
        · have t2 : (v1 == 1) = false := by simpa using e1
          by_cases e2 : v1 = 2
          · have t3 : (v1 == 2) = true := by rw [e2]; rfl
            go_wp2_with (first
              | (at_builtin; refine wpList_app1 rfl (.tmp 57) (.tmp 58) 23 rfl w.heap.size 3 (.int .i64 0) 1 8 Try.underlying23 infoI rfl (by decide) (by decide) _ _ _ rfl (World.ownsRow.alloc HT1.out.a _) ⟨w1.heap.size, 0, none⟩ 1 [.int .i64 1] rfl rfl (cell_one_new _ _ _) (by simp [Value.oneCell']) (by omega) (by simp; omega) ?_; intro g8 cap8 w8 p1 p2 p3; obtain ⟨a8, b8, n8, r8, h8⟩ := app_facts HT1.out.a HT1.out.b HT1.out.ne R1.out HG1.out rfl hgl p1 p2 p3; have hz8 := h8.size)
              | (go_at_call 84; refine (one_any g n c w8.heap.size 0 2 ad (p + 1) [0, 6] _ (r8.below below_alloc) (row_made w8 [0, 6]) (by have := r8.blk.lt; omega) (by omega) (by simp) (by simp)).mono ?_; rintro e w10 ⟨k8, hk8, rfl, r10, h10⟩; have b10 := (b8.below below_alloc).grown h10 (fun e => by have h1 : g5 = g := Option.some.inj e; omega); have a10 := (a8.below below_alloc).grown h10 (fun e => by have h1 : g8 = g := Option.some.inj e; have := (Blk.of_own a8).2; omega); have h11 := grown_trans (grown_trans h8 (grown_of_below (some g) below_alloc)) h10; have hz11 := h11.size)
              | (at_builtin; refine wpList_app1 rfl (.tmp 60) (.tmp 64) 23 rfl w.heap.size 3 (.int .i64 0) 1 8 Try.underlying23 infoI rfl (by decide) (by decide) _ _ _ rfl (World.ownsRow.alloc b10 _) ⟨w10.heap.size, 0, none⟩ 1 [.int .i64 (gi [0, 6] k8)] rfl rfl (cell_one_new _ _ _) (by simp [Value.oneCell']) (by omega) (by simp; omega) ?_; intro g9 cap9 w9 o1 o2 o3))
            obtain ⟨b9, a9, n9, r9, h9⟩ := app_facts b10 a10 (Ne.symm n8) r10 h11 rfl hgl o1 o2 o3
            go_ret2
            exact ⟨g8, cap8, g9, cap9, xs ++ [1], ws ++ [gi [0, 6] k8], by rw [List.length_append, List.length_append, hl4, hl5]; rfl, (Blk.of_own a9).2, (Blk.of_own b9).2, a9.row, b9.row, ⟨by rw [List.length_append, hl4]; simp; omega, by have := OwnI.cap a9; rw [List.length_append, hl4]; simpa using this⟩, ⟨by rw [List.length_append, hl5]; simp; omega, by have := OwnI.cap b9; rw [List.length_append, hl5]; simpa using this⟩, h9⟩
          · have t3 : (v1 == 2) = false := by simpa using e2
            go_wp2
            go_ret2
            exact ⟨g4, c4, g5, c5, xs, ws, by rw [hl4, hl5]; rfl, hg4, hg5, HT1.out.a.row, HT1.out.b.row, ⟨by omega, by have := OwnI.cap HT1.out.a; omega⟩, ⟨by omega, by have := OwnI.cap HT1.out.b; omega⟩, HG1.out⟩

end Go.Proofs.Ytcmbfkdhfdiamaa
