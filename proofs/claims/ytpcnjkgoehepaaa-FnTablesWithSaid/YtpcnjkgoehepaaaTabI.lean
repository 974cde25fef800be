/- impl.tables: walked, all rows. -/
import Derived.Test.YtpcnjkgoehepaaaTabT
import Derived.Test.YtpcnjkgoehepaaaTabRt
namespace Go.Proofs.Ytpcnjkgoehepaaa
open Go.RowKit

theorem sm_zero : ∀ {L : List Nat}, sm L = 0 → ∀ x ∈ L, x = 0
  | [], _, x, hx => by simp at hx
  | c :: L, h, x, hx => by
    rw [sm] at h
    rcases List.mem_cons.1 hx with rfl | hx
    · omega
    · exact sm_zero (L := L) (by omega) x hx
theorem allB_iN {L : List Nat} {b : Nat} (h : ∀ x ∈ L, x ≤ b) : allB (iN L) 0 b = true := by
  rw [allB_iff]
  intro k hk
  rw [iN_length] at hk
  rw [gi_iN, inB_iff, List.getD_eq_getElem?_getD, List.getElem?_eq_getElem hk]
  have := h _ (List.getElem_mem hk)
  simp only [Option.getD_some]
  omega

set_option maxHeartbeats 1000000 in
theorem tables_nil : TBL [] := by
  intro cols br o1 cr bc oc cc w hok _ rC _ _ _ _
  have h0 : sm cols = 0 := hok.eq ▸ rfl
  have e1 : tN [] cols = 1 := by rw [tN, if_pos h0]
  have e2 : wN [] cols = 1 := by rw [wN, if_pos h0]
  have hb : allB (iN cols) 0 0 = true := allB_iN (b := 0) fun x hx => by rw [sm_zero h0 x hx]; exact Nat.le_refl _
  rw [e1, e2]
  have CL := fun W (hW : RowI W bc oc (iN cols)) => allIn_any 0 0 bc oc cc (iN cols) W hW (by rw [iN_length]; have := hok.nc; omega)
  simp only [iN_length, hb] at CL
  obtain ⟨n, hn⟩ : ∃ n, cols.length = n := ⟨_, rfl⟩
  rw [hn] at CL ⊢
  have HCL := Lib.hid (fun W (hW : Below w.heap.size w W) => CL W (rC.below hW))
  show Calls Try.prog 28 #[.slice (some ⟨br, o1, none⟩) 0 cr, .slice (some ⟨bc, oc, none⟩) n cc] w _
  clear CL hn hb e1 e2 h0 rC hok
  go_enter Try.func28, Try.ntmps28
  go_wp2_with (go_at_call 26; refine (HCL.out _ (by (repeat' (first | (with_reducible exact Below.refl _ _) | (with_reducible assumption) | (with_reducible refine Below.drewN ?_ _) | (with_reducible refine Below.alloc ?_ ?_ _) | (with_reducible refine Below.drew ?_) | (with_reducible refine Below.setCell ?_ ?_ _) | (with_reducible refine Below.trans ?_ (Below.mono (by assumption) ?_)) | go_size | (with_reducible refine Nat.le_trans ?_ (Below.size (by assumption))))))).mono ?_; rintro e w1 ⟨rfl, hb⟩)
  go_ret2
  exact ⟨rfl, by (repeat' (first | (with_reducible exact Below.refl _ _) | (with_reducible assumption) | (with_reducible refine Below.drewN ?_ _) | (with_reducible refine Below.alloc ?_ ?_ _) | (with_reducible refine Below.drew ?_) | (with_reducible refine Below.setCell ?_ ?_ _) | (with_reducible refine Below.trans ?_ (Below.mono (by assumption) ?_)) | go_size | (with_reducible refine Nat.le_trans ?_ (Below.size (by assumption)))))⟩

/-- What impl.tables' callback keeps between the rows. -/
def TJ (r : Nat) (R cols : List Nat) (g br o1 cr bc oc cc nr n : Nat) (i : Nat) (W : World) : Prop :=
  Blk W (g + 2) 3 [.int .i64 (pS (fun x => tN R (lf cols x)) ((en r cols).take i) : Nat)] ∧ Blk W (g + 3) 3 [.int .i64 (pS (fun x => here (fct r) x * wN R (lf cols x)) ((en r cols).take i) : Nat)] ∧
  W.cell? ⟨g, 0, none⟩ = some (.slice (some ⟨br, o1, none⟩) nr cr) ∧ W.cell? ⟨g + 1, 0, none⟩ = some (.slice (some ⟨bc, oc, none⟩) n cc) ∧ RowI W br o1 (iN (r :: R)) ∧ RowI W bc oc (iN cols)
theorem TJ.stb {r : Nat} {R cols : List Nat} {g br o1 cr bc oc cc nr n : Nat} (h1 : br < g) (h2 : bc < g) : Stb (g + 4) (TJ r R cols g br o1 cr bc oc cc nr n) := by
  intro i W W' ⟨a1, a2, a3, a4, a5, a6⟩ hb
  have row : ∀ {b o : Nat} {xs : List Int}, b < g → RowI W b o xs → RowI W' b o xs := fun {b o xs} hlt h => ⟨Nat.lt_of_lt_of_le h.blk hb.size, fun k hk => (hb.cell (p := ⟨b, o + k, none⟩) (show b < g + 4 by omega)).trans (h.cell k hk)⟩
  exact ⟨a1.of_eq (hb.block _ (by omega)), a2.of_eq (hb.block _ (by omega)), (hb.cell (p := ⟨g, 0, none⟩) (show g < g + 4 by omega)).trans a3, (hb.cell (p := ⟨g + 1, 0, none⟩) (show g + 1 < g + 4 by omega)).trans a4, row h1 a5, row h2 a6⟩
theorem TJ.start {r : Nat} {R cols : List Nat} {br o1 cr bc oc cc nr n : Nat} {w : World} (h1 : RowI w br o1 (iN (r :: R))) (h2 : RowI w bc oc (iN cols)) :
    TJ r R cols w.heap.size br o1 cr bc oc cc nr n 0 ((((w.alloc (.cells #[.slice (some ⟨br, o1, none⟩) nr cr] 23)).alloc (.cells #[.slice (some ⟨bc, oc, none⟩) n cc] 23)).alloc (.cells #[.int .i64 0] 3)).alloc (.cells #[.int .i64 0] 3)) := by
  obtain ⟨w1, hw1⟩ : ∃ w1, w.alloc (.cells #[.slice (some ⟨br, o1, none⟩) nr cr] 23) = w1 := ⟨_, rfl⟩
  have k1 := Blk.made w #[.slice (some ⟨br, o1, none⟩) nr cr] 23
  have s1 : w1.heap.size = w.heap.size + 1 := by rw [← hw1]; simp
  have b1 : Below w.heap.size w w1 := by rw [← hw1]; exact below_alloc
  rw [hw1] at k1 ⊢
  obtain ⟨w2, hw2⟩ : ∃ w2, w1.alloc (.cells #[.slice (some ⟨bc, oc, none⟩) n cc] 23) = w2 := ⟨_, rfl⟩
  have k2 := Blk.made w1 #[.slice (some ⟨bc, oc, none⟩) n cc] 23
  have s2 : w2.heap.size = w.heap.size + 2 := by rw [← hw2]; simp [s1]
  have b2 : Below w1.heap.size w1 w2 := by rw [← hw2]; exact below_alloc
  rw [hw2, s1] at k2
  rw [hw2]
  obtain ⟨w3, hw3⟩ : ∃ w3, w2.alloc (.cells #[.int .i64 0] 3) = w3 := ⟨_, rfl⟩
  have k3 := Blk.made w2 #[.int .i64 0] 3
  have s3 : w3.heap.size = w.heap.size + 3 := by rw [← hw3]; simp [s2]
  have b3 : Below w2.heap.size w2 w3 := by rw [← hw3]; exact below_alloc
  rw [hw3, s2] at k3
  rw [hw3]
  have k4 := Blk.made w3 #[.int .i64 0] 3
  have b4 : Below w3.heap.size w3 (w3.alloc (.cells #[.int .i64 0] 3)) := below_alloc
  rw [s3] at k4
  have b34 := b3.trans (b4.mono b3.size)
  have b24 := b2.trans (b34.mono b2.size)
  have b14 := b1.trans (b24.mono b1.size)
  exact ⟨k3.below b4, k4, (k1.below b24).cell rfl, (k2.below b34).cell rfl, h1.below b14, h2.below b14⟩
theorem Kp.toBelow {S : Nat → Prop} {w W w' : World} (h1 : Below w.heap.size w W) (h2 : Kp S W w') (hS : ∀ k, S k → w.heap.size ≤ k) : Below w.heap.size w w' :=
  ⟨h2.os.trans h1.os, h2.tape.trans h1.tape, h2.output.trans h1.output, Nat.le_trans h1.size h2.size, fun k hk => (h2.block k (Nat.lt_of_lt_of_le hk h1.size) (fun hs => by have := hS k hs; omega)).trans (h1.block k hk)⟩
/-- The callback at each row. -/
theorem TJ.all {r : Nat} {R cols : List Nat} {g br o1 cr bc oc cc : Nat} (HT : TBL R) (hok : TOk (r :: R) cols) (h1 : br < g) (h2 : bc < g) (hcr : (r :: R).length ≤ cr) (hcr2 : cr ≤ 9223372036854775807) :
    AllC (fun k => k = g + 2 ∨ k = g + 3) 41 (fun v => #[v, .pointer (some ⟨g + 1, 0, none⟩), .pointer (some ⟨g, 0, none⟩), .pointer (some ⟨g + 2, 0, none⟩), .pointer (some ⟨g + 3, 0, none⟩)])
      (TJ r R cols g br o1 cr bc oc cc (r :: R).length cols.length) 0 (en r cols) := by
  intro i row hi W v ⟨a1, a2, a3, a4, a5, a6⟩ hv
  rw [Nat.zero_add] at a1 a2 ⊢
  refine (tables1_any r R cols row HT hok (List.mem_of_getElem? hi) _ _ (hok.atT hi) (hok.atW hi) (g + 2) (g + 3) g (g + 1) br o1 cr bc oc cc v W a1 a2 (by omega) a3 a4 a5 a6 hcr hcr2 hv).mono ?_
  rintro e w' ⟨rfl, b1, b2, b3⟩
  refine ⟨rfl, ⟨?_, ?_, b3.cell (by show ¬ (g = g + 2 ∨ g = g + 3); omega) a3, b3.cell (by show ¬ (g + 1 = g + 2 ∨ g + 1 = g + 3); omega) a4, b3.row (by omega) a5, b3.row (by omega) a6⟩, b3⟩
  · rw [pS_take hi]; exact b1
  · rw [pS_take hi]; exact b2

set_option maxHeartbeats 4000000 in
set_option maxRecDepth 100000 in
theorem tables_any : ∀ rows, TBL rows
  | [] => tables_nil
  | r :: R => by
    have HT := tables_any R
    intro cols br o1 cr bc oc cc w hok rR rC hcr hcr2 hcc hcc2
    have h1 := rR.blk
    have h2 := rC.blk
    have HA := TJ.all (o1 := o1) (oc := oc) (cc := cc) HT hok h1 h2 hcr hcr2
    have HST := TJ.stb (r := r) (R := R) (cols := cols) (o1 := o1) (cr := cr) (oc := oc) (cc := cc) (nr := (r :: R).length) (n := cols.length) h1 h2
    have hr6 := hok.r6 r (by simp)
    have hc6 := hok.c6
    have hfull : (en r cols).take (0 + (en r cols).length) = en r cols := by rw [Nat.zero_add, List.take_length]
    have FT := Lib.hid (show pS (fun x => tN R (lf cols x)) ((en r cols).take (0 + (en r cols).length)) = tN (r :: R) cols by rw [hfull, tN_en])
    have FW := Lib.hid (show pS (fun x => here (fct r) x * wN R (lf cols x)) ((en r cols).take (0 + (en r cols).length)) = wN (r :: R) cols by rw [hfull, wN_en])
    have HCALL := Lib.hid (fun W (hj : TJ r R cols w.heap.size br o1 cr bc oc cc (r :: R).length cols.length 0 W) (hW : w.heap.size + 4 ≤ W.heap.size) =>
      rowsOf_t (fun k => k = w.heap.size + 2 ∨ k = w.heap.size + 3) cols (w.heap.size + 4) _ 0 r bc oc cc (.pointer (some ⟨w.heap.size + 1, 0, none⟩)) (.pointer (some ⟨w.heap.size, 0, none⟩)) (.pointer (some ⟨w.heap.size + 2, 0, none⟩)) (.pointer (some ⟨w.heap.size + 3, 0, none⟩)) W HST
        (fun k hk => by rcases hk with h | h <;> omega) hW (by omega) hj.2.2.2.2.2 hok.c1 hok.nc hcc hcc2 (by omega) (fun x hx => by have := hc6 x hx; omega) hj HA)
    have HSTB := Lib.hid HST
    obtain ⟨TT, hTT⟩ : ∃ TT, tN (r :: R) cols = TT := ⟨_, rfl⟩
    obtain ⟨TW, hTW⟩ : ∃ TW, wN (r :: R) cols = TW := ⟨_, rfl⟩
    rw [hTT] at FT ⊢
    rw [hTW] at FW ⊢
    have hr0 := rR.cell 0 (by rw [iN_length]; simp)
    rw [gi_iN, Nat.add_zero] at hr0
    have e0 : (r :: R).getD 0 0 = r := rfl
    rw [e0] at hr0
    have hnr1 : 1 ≤ (r :: R).length := by simp
    have RR := Lib.hid rR
    have RC := Lib.hid rC
    obtain ⟨nr, hnr⟩ : ∃ nr, (r :: R).length = nr := ⟨_, rfl⟩
    obtain ⟨n, hn⟩ : ∃ n, cols.length = n := ⟨_, rfl⟩
    rw [hnr, hn] at HCALL HSTB ⊢
    rw [hnr] at hnr1
    have hnb : ((nr : Int) == 0) = false := by rw [beq_eq_false_iff_ne]; omega
    clear HT HA HST hok hfull hTT hTW rR rC hcr hnr hn e0 hc6 hcc
    go_enter Try.func28, Try.ntmps28
    go_upto_region 6 with fail
    refine wp_abstract (fun W => TJ r R cols w.heap.size br o1 cr bc oc cc nr n 0 W ∧ w.heap.size + 4 ≤ W.heap.size ∧ Below w.heap.size w W) ?_ ?_
    · exact ⟨TJ.start RR.out RC.out, by simp, by (repeat' (first | (with_reducible exact Below.refl _ _) | (with_reducible assumption) | (with_reducible refine Below.drewN ?_ _) | (with_reducible refine Below.alloc ?_ ?_ _) | (with_reducible refine Below.drew ?_) | (with_reducible refine Below.setCell ?_ ?_ _) | (with_reducible refine Below.trans ?_ (Below.mono (by assumption) ?_)) | go_size | (with_reducible refine Nat.le_trans ?_ (Below.size (by assumption)))))⟩
    · rintro W ⟨hj, hs, hbw⟩
      have HJ := Lib.hid hj
      have HBW := Lib.hid hbw
      obtain ⟨_, _, c3, c4, r5, _⟩ := hj
      have r0 := (hbw.cell (World.block_lt_of_cell? w _ hr0)).trans hr0
      clear hbw r5
      have hzW := HBW.out.size
      go_cut [18] (fun _ wx => TJ r R cols w.heap.size br o1 cr bc oc cc nr n (0 + (en r cols).length) wx ∧ Below w.heap.size w wx)
      case first =>
        go_region_with (go_at_call 40; refine (HCALL.out _ (HSTB.out _ _ _ HJ.out (by (repeat' (first | (with_reducible exact Below.refl _ _) | (with_reducible assumption) | (with_reducible refine Below.drewN ?_ _) | (with_reducible refine Below.alloc ?_ ?_ _) | (with_reducible refine Below.drew ?_) | (with_reducible refine Below.setCell ?_ ?_ _) | (with_reducible refine Below.trans ?_ (Below.mono (by assumption) ?_)) | go_size | (with_reducible refine Nat.le_trans ?_ (Below.size (by assumption))))))) (by first | exact hs | (simp; omega))).mono ?_; rintro e w8 ⟨rfl, j8, k8⟩)
        all_goals
          have HB8 := Kp.toBelow (w := w) (HBW.out.trans (Below.mono (show Below W.heap.size W _ by (repeat' (first | (with_reducible exact Below.refl _ _) | (with_reducible assumption) | (with_reducible refine Below.drewN ?_ _) | (with_reducible refine Below.alloc ?_ ?_ _) | (with_reducible refine Below.drew ?_) | (with_reducible refine Below.setCell ?_ ?_ _) | (with_reducible refine Below.trans ?_ (Below.mono (by assumption) ?_)) | go_size | (with_reducible refine Nat.le_trans ?_ (Below.size (by assumption)))))) hzW)) k8 (fun k hk => by rcases hk with h | h <;> omega)
          go_wp2_with fail
          go_meet
          exact ⟨j8, HB8⟩
      case rest =>
        obtain ⟨j8, hb8⟩ := hcut
        have b1 := j8.1
        have b2 := j8.2.1
        rw [FT.out] at b1
        rw [FW.out] at b2
        have d1 := b1.cell (j := 0) rfl
        have d2 := b2.cell (j := 0) rfl
        clear b1 b2 j8
        go_wp2_with fail
        go_quiet (fail)
        go_wp2
        go_ret2
        exact ⟨rfl, by (repeat' (first | (with_reducible exact Below.refl _ _) | (with_reducible assumption) | (with_reducible refine Below.drewN ?_ _) | (with_reducible refine Below.alloc ?_ ?_ _) | (with_reducible refine Below.drew ?_) | (with_reducible refine Below.setCell ?_ ?_ _) | (with_reducible refine Below.trans ?_ (Below.mono (by assumption) ?_)) | go_size | (with_reducible refine Nat.le_trans ?_ (Below.size (by assumption)))))⟩

end Go.Proofs.Ytpcnjkgoehepaaa
