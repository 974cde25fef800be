/- impl.cuts: each way to cut the numbers, one behind the other. -/
import Derived.Test.YtfbccnameppikaaTried
import Derived.Test.YtfbccnameppikaaOwnF
namespace Go.Proofs.Ytfbccnameppikaa
open Go.RowKit

theorem and1 (a : Nat) (ha : a < 4611686018427387904) : bits .and .i64 (a : Int) 1 = ((a % 2 : Nat) : Int) := by
  have e : (BitVec.ofInt 64 (a : Int) &&& BitVec.ofInt 64 (1 : Int)).toNat = a &&& 1 := by
    rw [BitVec.toNat_and, BitVec.ofInt_natCast, show (1 : Int) = ((1 : Nat) : Int) from rfl, BitVec.ofInt_natCast, BitVec.toNat_ofNat, BitVec.toNat_ofNat, Nat.mod_eq_of_lt (by omega), Nat.mod_eq_of_lt (by omega)]
  have e2 : bits .and .i64 (a : Int) 1 = IntKind.i64.wrap ((a &&& 1 : Nat) : Int) := by
    rw [← e]
    rfl
  rw [e2, Nat.and_one_is_mod, IntWalk.i64_in _ (by omega)]

/-- The cells of the pieces of a row at a place. -/
def ptC (xs : List Int) (b o c s : Nat) : Nat → List Value
  | 0 => []
  | i + 1 => if i + 1 = xs.length ∨ s / 2 ^ i % 2 = 1 then ptC xs b o c s i ++ [.slice (some ⟨b, o + (ptS xs s i).2, none⟩) (i + 1 - (ptS xs s i).2) (c - (ptS xs s i).2)] else ptC xs b o c s i
theorem ptC_length (xs : List Int) (b o c s : Nat) : ∀ i, (ptC xs b o c s i).length = (ptS xs s i).1.length
  | 0 => rfl
  | i + 1 => by
    have ih := ptC_length xs b o c s i
    rw [ptC, ptS]
    split <;> simp [ih]
theorem ptC_row (xs : List Int) (b o c s : Nat) : ∀ i, i ≤ xs.length → ∀ j, j < (ptS xs s i).1.length →
    ∃ a e, a ≤ e ∧ e ≤ xs.length ∧ gl (ptS xs s i).1 j = pc xs a e ∧ (ptC xs b o c s i)[j]? = some (.slice (some ⟨b, o + a, none⟩) (e - a) (c - a))
  | 0, _, j, h => absurd h (Nat.not_lt_zero _)
  | i + 1, hi, j, h => by
    have ih := ptC_row xs b o c s i (by omega)
    have hl := ptC_length xs b o c s i
    have hc := (ptS_cut xs s i (by omega)).1
    rw [ptS] at h ⊢
    rw [ptC]
    split at h
    · rename_i hb
      rw [if_pos hb, if_pos hb]
      by_cases hj : j < (ptS xs s i).1.length
      · obtain ⟨a, e, h1, h2, h3, h4⟩ := ih j hj
        refine ⟨a, e, h1, h2, ?_, by rw [List.getElem?_append_left (by omega)]; exact h4⟩
        rw [← h3]
        unfold gl
        simp [List.getElem?_append_left hj]
      · have e : j = (ptS xs s i).1.length := by simp at h; omega
        subst e
        refine ⟨(ptS xs s i).2, i + 1, by omega, hi, ?_, ?_⟩
        · unfold gl; simp
        · rw [← hl]; simp
    · rename_i hb
      rw [if_neg hb, if_neg hb]
      exact ih j h

theorem infoSl : (Try.prog.info? 23).map (fun i => (i.zero, i.size, i.bytes)) = some (some (.slice none 0 0), 1, 24) := by kernel_rfl
theorem own_shape1 {w : World} {base n : Nat} {e : TypeId} {v : Value} {cs : List Value} (h : w.ownsRow base e 1 v n cs) (hne : n ≠ 0) : ∃ g cap, v = .slice (some ⟨g, 0, none⟩) n cap ∧ base ≤ g ∧ Blk w g e cs := by
  rcases h.2 with ⟨_, h0⟩ | ⟨g', cap', cur, hv, hb, _⟩
  · exact absurd h0 hne
  · subst hv
    exact ⟨g', cap', rfl, hb, (Blk.of_own h).1⟩
theorem own_below1 {w w' : World} {base n : Nat} {e : TypeId} {v : Value} {cs : List Value} (h : w.ownsRow base e 1 v n cs) (hb : Below w.heap.size w w') : w'.ownsRow base e 1 v n cs :=
  World.ownsRow.kept h (row := none) ⟨hb.os, hb.tape, hb.output, hb.size, fun k hk _ => hb.block k hk⟩ (by cases hv : v.ownBlock <;> simp)
theorem cell_one_new1 (w : World) (a : Value) (e : TypeId) : ∀ j u, [a][j]? = some u → (w.alloc (.cells #[a] e)).cell? ((⟨w.heap.size, 0, none⟩ : Addr).add j) = some u := by
  intro j u hj
  match j, hj with
  | 0, hj => simp at hj; subst hj; simp [Addr.add, go_sem]
theorem parts_of {w : World} {b o c g : Nat} {xs : List Int} (h : RowI w b o xs) (s : Nat) (hk : Blk w g 23 (ptC xs b o c s xs.length)) : Parts w g (ptA xs s) :=
  ⟨hk.lt, fun j hj => by
    obtain ⟨a, e, h1, h2, h3, h4⟩ := ptC_row xs b o c s xs.length (Nat.le_refl _) j hj
    have hg : gl (ptA xs s) j = pc xs a e := h3
    have hl := pc_length (a := a) h2
    refine ⟨b, o + a, c - a, ?_, by rw [hg]; exact h.pc h1 h2⟩
    rw [hg, hl]
    exact hk.cell h4⟩
theorem trN_tried (xs : List Int) (p s : Nat) : trN misQ xs p (s + 1) = triedQ p (ptA xs s) (trN misQ xs p s) := by
  rw [trN, triedQ]
  by_cases h : (ptA xs s).length ≤ p
  · rw [if_pos h, if_pos (by omega)]
  · rw [if_neg h, if_neg (by omega)]

theorem RowI.grown {w w' : World} {b o g : Nat} {xs : List Int} (h : RowI w b o xs) (hb : w.grownBy w' (some g)) (hne : b ≠ g) : RowI w' b o xs :=
  ⟨Nat.lt_of_lt_of_le h.blk hb.size, fun k hk => (World.cell?_of_block (hb.block b h.blk (fun e => hne (Option.some.inj e)))).trans (h.cell k hk)⟩
theorem grown_thru {w w1 w2 w3 : World} {g : Nat} (h1 : w.grownBy w1 (some g)) (h2 : Below w1.heap.size w1 w2) (h3 : w2.grownBy w3 (some g)) : w.grownBy w3 (some g) :=
  ⟨h3.os.trans (h2.os.trans h1.os), h3.tape.trans (h2.tape.trans h1.tape), h3.output.trans (h2.output.trans h1.output), Nat.le_trans h1.size (Nat.le_trans h2.size h3.size),
    fun k hk hne => (h3.block k (Nat.lt_of_lt_of_le hk (Nat.le_trans h1.size h2.size)) hne).trans ((h2.block k (Nat.lt_of_lt_of_le hk h1.size)).trans (h1.block k hk hne))⟩

set_option maxHeartbeats 8000000 in
theorem cuts_any (b o c p1 g2 p : Nat) (xs : List Int) (w : World) (h : RowI w b o xs) (hc : xs.length ≤ c) (hv : Rv xs) (hp1 : 1 ≤ p)
    (hp : w.cell? ⟨p1, 0, none⟩ = some (.int .i64 p)) (hk : Blk w g2 27 (fc [misQ xs])) (hbg : b ≠ g2) (hpg : p1 ≠ g2) :
    Calls Try.prog 30 #[.slice (some ⟨b, o, none⟩) xs.length c, .func (.func 31) #[] #[.pointer (some ⟨p1, 0, none⟩), .pointer (some ⟨g2, 0, none⟩)]] w
      fun e w' => e = .returned (.tuple #[]) ∧ Blk w' g2 27 (fc [trN misQ xs p (2 ^ (xs.length - 1))]) ∧ w.grownBy w' (some g2) := by
  have n0 := hv.n0
  have n8 := hv.n8
  have HNE := Lib.hid hv.ne
  have HX := Lib.hid hv.x
  have H := Lib.hid h
  have HK := Lib.hid hk
  have HP := Lib.hid hp
  have pb := World.block_lt_of_cell? w ⟨p1, 0, none⟩ hp
  have g2w := hk.lt
  obtain ⟨m, hm⟩ : ∃ m, xs.length - 1 = m := ⟨_, rfl⟩
  obtain ⟨P, hP⟩ : ∃ P, 2 ^ m = P := ⟨_, rfl⟩
  have hP8 : P ≤ 128 := by
    have : 2 ^ m ≤ 2 ^ 7 := Nat.pow_le_pow_right (by omega) (by omega)
    omega
  have hmi : (xs.length : Int) - 1 = (m : Int) := by omega
  have hpw : (2 : Int) ^ m = (P : Int) := by rw [← hP]; simp
  have hpw2 : IntKind.i64.wrap (P : Int) = (P : Int) := IntWalk.i64_in _ (by omega)
  rw [hm, hP]
  have HM := Lib.hid hm
  clear h hk hp hv hm hP
  go_enter Try.func30, Try.ntmps30
  go_wp2_with fail
  go_loopw [12] (fun v12 wr => ∃ s : Nat, v12 = .int .i64 s ∧ s ≤ P ∧ Blk wr g2 27 (fc [trN misQ xs p s]) ∧ w.grownBy wr (some g2)) (fun v12 _ => P - (intOf v12).toNat)
  case atStart => exact ⟨0, rfl, Nat.zero_le _, HK.out, grownBy_refl _ _⟩
  case round =>
    clear HK
    obtain ⟨s, rfl, hs, hk2, hgr⟩ := hrel
    have K2 := Lib.hid hk2
    have GR := Lib.hid hgr
    have z0 := hgr.size
    clear hk2 hgr
    by_cases hlt : s < P
    · have q2 : (s : Int) < (P : Int) := by omega
      obtain ⟨wo, hwo⟩ : ∃ wo : World, wo = wr := ⟨_, rfl⟩
      have R := Lib.hid (H.out.grown GR.out hbg)
      have C1 := Lib.hid (GR.out.cell HP.out (fun e => hpg (Option.some.inj e)))
      rw [← hwo] at K2 GR z0 R C1 ⊢
      clear hwo
      go_wp2_with fail
      go_loopw [5, 6, 7] (fun v5 v6 v7 wr => ∃ i : Nat, v7 = .int .i64 ((i + 1 : Nat) : Int) ∧ i ≤ xs.length ∧ v6 = .int .i64 (ptS xs s i).2 ∧ wr.ownsRow wo.heap.size 23 1 v5 (ptC xs b o c s i).length (ptC xs b o c s i) ∧ Below wo.heap.size wo wr) (fun _ _ v7 _ => xs.length + 1 - (intOf v7).toNat)
      case atStart => exact ⟨0, rfl, Nat.zero_le _, rfl, World.ownsRow_nil _ _ _ _, Below.refl _ _⟩
      case round =>
        obtain ⟨i, rfl, hi, rfl, hown, hb⟩ := hrel
        have HO := Lib.hid hown
        have HB := Lib.hid hb
        have hz := hb.size
        have hfi := (ptS_cut xs s i hi).1
        have hl8 : (ptC xs b o c s i).length ≤ 8 := by rw [ptC_length]; have := (ptS_cut xs s i hi).2.len; simp at this; omega
        have c0 : ptC xs b o c s (i + 1) = if i + 1 = xs.length ∨ s / 2 ^ i % 2 = 1 then ptC xs b o c s i ++ [.slice (some ⟨b, o + (ptS xs s i).2, none⟩) (i + 1 - (ptS xs s i).2) (c - (ptS xs s i).2)] else ptC xs b o c s i := rfl
        have d0 : ptS xs s (i + 1) = if i + 1 = xs.length ∨ s / 2 ^ i % 2 = 1 then ((ptS xs s i).1 ++ [pc xs (ptS xs s i).2 (i + 1)], i + 1) else ptS xs s i := rfl
        clear hown hb
        by_cases hil : i < xs.length
        · obtain ⟨a, ha⟩ : ∃ a, (ptS xs s i).2 = a := ⟨_, rfl⟩
          obtain ⟨C, hC⟩ : ∃ C, ptC xs b o c s i = C := ⟨_, rfl⟩
          rw [ha] at hfi c0 ⊢
          rw [hC] at HO hl8 c0
          have HA := Lib.hid ha
          have HCC := Lib.hid hC
          obtain ⟨j, hj⟩ : ∃ j, i + 1 = j := ⟨_, rfl⟩
          rw [hj] at c0 d0 ⊢
          have HJ := Lib.hid hj
          have hji : (j : Int) - 1 = (i : Int) := by omega
          have hjn : j ≤ xs.length := by omega
          have hja : a < j := by omega
          have hca : a < c := by omega
          have D0 := Lib.hid d0
          have C0 := Lib.hid c0
          have hdle : s / 2 ^ i ≤ s := Nat.div_le_self _ _
          have e1 : (s : Int) / 2 ^ i = ((s / 2 ^ i : Nat) : Int) := by simp
          obtain ⟨u, hu⟩ : ∃ u, s / 2 ^ i = u := ⟨_, rfl⟩
          rw [hu] at e1 hdle D0 C0
          have e2 := and1 u (by omega)
          clear ha hC hj d0 c0 hu
          by_cases ht : j = xs.length
          · have t1 : ((j : Int) == (xs.length : Int)) = true := by simp [ht]
            have E1 := Lib.hid (show (ptS xs s j).2 = j by rw [D0.out, if_pos (.inl ht)])
            have E2 := Lib.hid (show ptC xs b o c s j = C ++ [.slice (some ⟨b, o + a, none⟩) (j - a) (c - a)] by rw [C0.out, if_pos (.inl ht)])
            clear ht
            go_wp2_with (at_builtin; refine wpList_app1 rfl (.tmp 33) (.tmp 38) 46 rfl wo.heap.size 23 (.slice none 0 0) 1 24 Try.underlying46 infoSl rfl (by decide) (by decide) _ _ _ rfl (World.ownsRow.alloc HO.out _) ⟨_, 0, none⟩ 1 [_] rfl rfl (cell_one_new1 _ _ _) (by simp [Value.oneCell']) (by omega) (by simp; omega) ?_; intro g6 cap6 w6 o1 o2 o3)
            go_roundw
            case rel =>
              refine ⟨i + 1, ?_⟩
              rw [HJ.out]
              exact ⟨by go_num, hjn, by rw [E1.out], by rw [E2.out, List.length_append]; exact o1, (HB.out.alloc hz _).trans (Below.app (World.ownsRow.alloc HO.out _) (by simp; omega) o2)⟩
            case measure => simp [intOf]; omega
          · have t1 : ((j : Int) == (xs.length : Int)) = false := by simp; omega
            by_cases tb : u % 2 = 1
            · have t2 : (((u % 2 : Nat) : Int) == 1) = true := by rw [tb]; rfl
              have t2' : u % 2 = 1 := tb
              have E1 := Lib.hid (show (ptS xs s j).2 = j by rw [D0.out, if_pos (.inr tb)])
              have E2 := Lib.hid (show ptC xs b o c s j = C ++ [.slice (some ⟨b, o + a, none⟩) (j - a) (c - a)] by rw [C0.out, if_pos (.inr tb)])
              clear ht tb
              go_wp2_with (at_builtin; refine wpList_app1 rfl (.tmp 33) (.tmp 38) 46 rfl wo.heap.size 23 (.slice none 0 0) 1 24 Try.underlying46 infoSl rfl (by decide) (by decide) _ _ _ rfl (World.ownsRow.alloc HO.out _) ⟨_, 0, none⟩ 1 [_] rfl rfl (cell_one_new1 _ _ _) (by simp [Value.oneCell']) (by omega) (by simp; omega) ?_; intro g6 cap6 w6 o1 o2 o3)
              go_roundw
              case rel =>
                refine ⟨i + 1, ?_⟩
                rw [HJ.out]
                exact ⟨by go_num, hjn, by rw [E1.out], by rw [E2.out, List.length_append]; exact o1, (HB.out.alloc hz _).trans (Below.app (World.ownsRow.alloc HO.out _) (by simp; omega) o2)⟩
              case measure => simp [intOf]; omega
            · have t2 : (((u % 2 : Nat) : Int) == 1) = false := by rw [beq_eq_false_iff_ne]; omega
              have t0 : u % 2 = 0 := by omega
              have E1 := Lib.hid (show (ptS xs s j).2 = a by rw [D0.out, if_neg (by omega), HA.out])
              have E2 := Lib.hid (show ptC xs b o c s j = C by rw [C0.out, if_neg (by omega)])
              clear ht tb
              go_wp2_with fail
              go_roundw
              case rel =>
                refine ⟨i + 1, ?_⟩
                rw [HJ.out]
                exact ⟨by go_num, hjn, by rw [E1.out], by rw [E2.out]; exact HO.out, HB.out⟩
              case measure => simp [intOf]; omega
        · have e : i = xs.length := by omega
          subst e
          have hcut := ptA_cut HNE.out s
          have hpl : (ptC xs b o c s xs.length).length = (ptA xs s).length := ptC_length xs b o c s xs.length
          have hpp : (ptA xs s).length ≠ 0 := by
            intro h0
            have := hcut.join
            rw [List.eq_nil_of_length_eq_zero h0] at this
            exact HNE.out this.symm
          obtain ⟨g5, cap5, rfl, hg5, hk5⟩ := own_shape1 HO.out (by omega)
          have PT := parts_of (R.out.below HB.out) s hk5
          have s1 := (trN_least (c := misQ) HNE.out hp1).pq misQ_good n8 HX.out
          have sq : Pq 6048000 (trN misQ xs p s) := by
            obtain ⟨L, l1, l2, l3⟩ := trN_got (c := misQ) HNE.out hp1 s
            rw [← l3]
            exact l1.pq misQ_good n8 HX.out
          have CT := Lib.hid (tried1_any p1 g2 g5 cap5 (ptA xs s).length p xs (ptA xs s) (trN misQ xs p s) wr PT rfl hcut n8 HX.out (keepC HB.out C1.out) (K2.out.below HB.out) sq)
          rw [← trN_tried] at CT
          rw [hpl]
          clear hcut hpl hpp hk5 PT s1 sq c0 d0 HO hfi hl8 hil
          have hnn : ¬ xs.length + 1 ≤ xs.length := by omega
          go_wp2_with (go_at_call 31; refine CT.out.mono ?_; rintro e w7 ⟨rfl, k7, g7⟩)
          go_roundw
          case rel => exact ⟨s + 1, by go_num, by omega, k7, grown_thru GR.out HB.out g7⟩
          case measure => simp [intOf]; omega
    · have e : s = P := by omega
      subst e
      go_wp2_with fail
      go_end0
      exact ⟨rfl, K2.out, GR.out⟩

end Go.Proofs.Ytfbccnameppikaa
