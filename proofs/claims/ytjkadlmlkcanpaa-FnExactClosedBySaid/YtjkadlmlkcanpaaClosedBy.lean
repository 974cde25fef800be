/- impl.ClosedBy. -/
import Derived.Test.YtjkadlmlkcanpaaSClosedBy
import Derived.Test.YtjkadlmlkcanpaaClip
namespace Go.Proofs.Ytjkadlmlkcanpaa
open Go.RowKit

theorem and_one (a : Nat) (ha : a < 4611686018427387904) : bits .and .i64 (a : Int) 1 = ((a % 2 : Nat) : Int) := by
  have e : (BitVec.ofInt 64 (a : Int) &&& BitVec.ofInt 64 ((1 : Nat) : Int)).toNat = a &&& 1 := by
    rw [BitVec.toNat_and, BitVec.ofInt_natCast, BitVec.ofInt_natCast, BitVec.toNat_ofNat, BitVec.toNat_ofNat, Nat.mod_eq_of_lt (by omega), Nat.mod_eq_of_lt (by omega)]
  have e2 : bits .and .i64 (a : Int) 1 = IntKind.i64.wrap ((a &&& 1 : Nat) : Int) := by
    rw [← e]
    rfl
  rw [e2, Nat.and_one_is_mod, IntWalk.i64_in _ (by omega)]
theorem or_nat (a c : Nat) (ha : a < 64) (hc : c < 64) : bits .or .i64 (a : Int) (c : Int) = ((a ||| c : Nat) : Int) := by
  have e : (BitVec.ofInt 64 (a : Int) ||| BitVec.ofInt 64 (c : Int)).toNat = a ||| c := by
    rw [BitVec.toNat_or, BitVec.ofInt_natCast, BitVec.ofInt_natCast, BitVec.toNat_ofNat, BitVec.toNat_ofNat, Nat.mod_eq_of_lt (by omega), Nat.mod_eq_of_lt (by omega)]
  have e2 : bits .or .i64 (a : Int) (c : Int) = IntKind.i64.wrap ((a ||| c : Nat) : Int) := by
    rw [← e]
    rfl
  have h := Nat.or_lt_two_pow (n := 6) ha hc
  rw [e2, IntWalk.i64_in _ (by omega)]

set_option maxHeartbeats 8000000 in
theorem closedBy_good (b o c : Nat) (xs : List Int) (level : Int) (k : ByteArray) (simes p q : Bool) (hpq : (p = true ∧ q = false) ∨ (p = false ∧ q = true)) (w : World) (h : RowI w b o xs) (hm : xs.length ≤ 1099511627776) (hv : ovB xs = true) (hi : inB level 0 1000 = true)
    (t1 : (k.toList == [108, 101, 97, 115, 116]) = p) (t2 : (k.toList == [101, 97, 99, 104]) = q)
    (FS : ∀ (b o c : Nat) (L : List Int) (w : World), RowI w b o L → 1 ≤ L.length → L.length ≤ 6 → (∀ x ∈ L, 0 ≤ x ∧ x ≤ 1000) →
      Calls Try.prog 75 #[.slice (some ⟨b, o, none⟩) L.length c, .int .i64 level, .string k] w fun e w' => e = .returned (.bool (anyN (hdT (srt L) level simes L.length) L.length)) ∧ Below w.heap.size w w') :
    Calls Try.prog 40 #[.slice (some ⟨b, o, none⟩) xs.length c, .int .i64 level, .string k] w
      fun e w' => ∃ v, e = .returned v ∧ Mut 3 w' w.heap.size v (clL xs level simes (2 ^ xs.length - 1) xs.length).length (ic (clL xs level simes (2 ^ xs.length - 1) xs.length)) ∧ Below w.heap.size w w' := by
  have H := Lib.hid h
  have HFS := Lib.hid FS
  have HV := Lib.hid (ov_of hv)
  have n0 := HV.out.n0
  have n6 := HV.out.n6
  have hl := inB_iff.1 hi
  obtain ⟨p1, p2⟩ := pow6 n6
  obtain ⟨P, hP⟩ : ∃ P, 2 ^ xs.length = P := ⟨_, rfl⟩
  rw [hP] at p1 p2 ⊢
  obtain ⟨D, hD⟩ : ∃ D, P - 1 = D := ⟨_, rfl⟩
  rw [hD]
  have hPD1 : P ≤ D + 1 := by omega
  have hPD2 : D + 1 ≤ P := by omega
  have HP := Lib.hid hP
  have hpw : (2 : Int) ^ xs.length = (P : Int) := by rw [← hP]; simp
  have hpw2 : IntKind.i64.wrap (P : Int) = (P : Int) := IntWalk.i64_in _ (by omega)
  clear h FS hP hD p1
  go_enter Try.func40, Try.ntmps40
  rcases hpq with ⟨rfl, rfl⟩ | ⟨rfl, rfl⟩
  all_goals
    go_upto_region 4 with (first
      | (go_at_call 43; refine (validOdds_any b o c xs _ H.out hm).mono ?_; rintro e w1 ⟨rfl, hb1⟩; rw [hv])
      | (go_at_call 56; refine (in_any _ _ _ _).mono ?_; rintro e w2 ⟨rfl, rfl⟩; rw [hi]))
    have z1 := hb1.size
    have HB1 := Lib.hid hb1
    clear hb1
    go_wp2_with fail
    go_loopw [7, 8] (fun v7 v8 wr => ∃ s : Nat, v8 = .int .i64 s ∧ 1 ≤ s ∧ s ≤ P ∧ v7 = .int .i64 (msd xs level simes (s - 1) : Nat) ∧ Below w1.heap.size w1 wr) (fun _ v8 _ => P - (intOf v8).toNat)
    case atStart => exact ⟨1, rfl, by omega, by omega, rfl, Below.refl _ _⟩
    case round =>
      obtain ⟨s, rfl, hs1, hs2, rfl, hb⟩ := hrel
      have HB := Lib.hid hb
      have hz := hb.size
      clear hb
      by_cases hsl : s < P
      · have q1 : IntKind.i64.wrap ((s : Int) + 1) = ((s + 1 : Nat) : Int) := by rw [IntWalk.i64_in _ (by omega)]; omega
        have q2 : (s : Int) < (P : Int) := by omega
        obtain ⟨wo, rfl⟩ : ∃ wo : World, wo = wr := ⟨_, rfl⟩
        go_wp2_with fail
        go_loopw [9, 39] (fun v9 v39 wr => ∃ i : Nat, v39 = .int .i64 i ∧ i ≤ xs.length ∧ OwnI wr wo.heap.size v9 (subL xs s i).length (subL xs s i) ∧ Below wo.heap.size wo wr) (fun _ v39 _ => xs.length - (intOf v39).toNat)
        case atStart => exact ⟨0, rfl, by omega, OwnI.nil _ _, Below.refl _ _⟩
        case round =>
          obtain ⟨i, rfl, hi2, ht, hb2⟩ := hrel
          have HT := Lib.hid ht
          have HB2 := Lib.hid hb2
          have hz2 := hb2.size
          by_cases hlt : i < xs.length
          · have y1 := ((H.out.below (HB1.out.trans (HB.out.mono z1))).below hb2).cell i hlt
            have s1 : subL xs s (i + 1) = subL xs s i ++ if s.testBit i then [gi xs i] else [] := rfl
            have sl := subL_len xs s i
            rw [bit_of] at s1
            have hdle : s / 2 ^ i ≤ s := Nat.div_le_self _ _
            have e1 : (s : Int) / 2 ^ i = ((s / 2 ^ i : Nat) : Int) := by simp
            obtain ⟨u, hu⟩ : ∃ u, s / 2 ^ i = u := ⟨_, rfl⟩
            rw [hu] at e1 s1 hdle
            have e2 := and_one u (by omega)
            obtain ⟨x, hx⟩ : ∃ x, gi xs i = x := ⟨_, rfl⟩
            rw [hx] at y1 s1
            obtain ⟨S, hS⟩ : ∃ S, subL xs s i = S := ⟨_, rfl⟩
            rw [hS] at s1 sl HT
            clear hx hS hu ht hb2
            by_cases t : u % 2 = 1
            · have t1 : (((u % 2 : Nat) : Int) == 1) = true := by rw [t]; rfl
              have t1' : u % 2 = 1 := t
              rw [if_pos (by simpa using t)] at s1
              have S1 := Lib.hid s1
              clear s1
              go_wp2_with (at_builtin; refine wpList_app1 rfl (.tmp 49) (.tmp 51) 22 rfl wo.heap.size 3 (.int .i64 0) 1 8 Try.underlying22 infoI rfl (by decide) (by decide) _ _ _ rfl (World.ownsRow.alloc HT.out _) ⟨_, 0, none⟩ 1 [.int .i64 _] rfl rfl (cell_one_new _ _ _) (by simp [Value.oneCell']) (by omega) (by simp; omega) ?_; intro g6 cap6 w6 o1 o2 o3)
              go_roundw
              case rel =>
                have e : (subL xs s (i + 1)).length = S.length + 1 := by rw [S1.out]; simp
                exact ⟨i + 1, by go_num, by omega, by rw [e, S1.out]; exact OwnI.app o1, (HB2.out.alloc hz2 _).trans (Below.app (World.ownsRow.alloc HT.out _) (by simp; omega) o2)⟩
              case measure => simp [intOf]; omega
            · have t1 : (((u % 2 : Nat) : Int) == 1) = false := by rw [beq_eq_false_iff_ne]; omega
              have t0 : u % 2 = 0 := by omega
              rw [if_neg (by simpa using t), List.append_nil] at s1
              have S1 := Lib.hid s1
              clear s1 t
              go_wp2_with fail
              go_roundw
              case rel => exact ⟨i + 1, by go_num, by omega, by rw [S1.out]; exact HT.out, HB2.out⟩
              case measure => simp [intOf]; omega
          · have e : i = xs.length := by omega
            subst e
            have hpos := subL_pos (xs := xs) hs1 (by rw [HP.out]; exact hsl)
            have hle := subL_len xs s xs.length
            obtain ⟨g, cap, rfl, hgb⟩ := ht.shape (by omega)
            have C := HFS.out g 0 cap _ wr ht.row hpos (by omega) (subL_in HV.out s _ (Nat.le_refl _))
            have s1 : msd xs level simes (s - 1 + 1) = if hdB xs (s - 1 + 1) level simes then msd xs level simes (s - 1) else msd xs level simes (s - 1) ||| (s - 1 + 1) := rfl
            rw [show s - 1 + 1 = s by omega] at s1
            have hlt1 := msd_lt xs level simes xs.length (s - 1) (by rw [HP.out]; omega)
            rw [HP.out] at hlt1
            have hdd : anyN (hdT (srt (subL xs s xs.length)) level simes (subL xs s xs.length).length) (subL xs s xs.length).length = hdB xs s level simes := rfl
            rw [hdd] at C
            have e2 := or_nat (msd xs level simes (s - 1)) s (by omega) (by omega)
            obtain ⟨m, hm⟩ : ∃ m, msd xs level simes (s - 1) = m := ⟨_, rfl⟩
            rw [hm] at s1 hlt1 e2 ⊢
            obtain ⟨r, hr⟩ : ∃ r, hdB xs s level simes = r := ⟨_, rfl⟩
            rw [hr] at C s1
            have CC := Lib.hid C
            have B3 := Lib.hid (HB.out.trans (hb2.mono hz))
            have hz3 := B3.out.size
            clear hm hr C hdd HT ht hb2 HB2
            cases r with
            | true =>
              rw [if_pos rfl] at s1
              have S1 := Lib.hid s1
              clear s1
              go_wp2_with (go_at_call 75; refine CC.out.mono ?_; rintro e w5 ⟨rfl, hb5⟩)
              go_roundw
              case rel => exact ⟨s + 1, by go_num, by omega, by omega, by rw [show s + 1 - 1 = s by omega, S1.out], B3.out.trans (hb5.mono hz3)⟩
              case measure => simp [intOf]; omega
            | false =>
              rw [if_neg (by simp)] at s1
              have S1 := Lib.hid s1
              clear s1
              go_wp2_with (go_at_call 75; refine CC.out.mono ?_; rintro e w5 ⟨rfl, hb5⟩)
              go_roundw
              case rel => exact ⟨s + 1, by go_num, by omega, by omega, by rw [show s + 1 - 1 = s by omega, S1.out], B3.out.trans (hb5.mono hz3)⟩
              case measure => simp [intOf]; omega
      · have q2 : ¬ (s : Int) < (P : Int) := by omega
        rw [show s - 1 = D by omega]
        have hlt1 := msd_lt xs level simes xs.length D (by rw [HP.out]; omega)
        rw [HP.out] at hlt1
        have HMB := Lib.hid (fun i => msd_bit xs level simes i D)
        obtain ⟨m, hm⟩ : ∃ m, msd xs level simes D = m := ⟨_, rfl⟩
        rw [hm] at HMB hlt1 ⊢
        have B4 := Lib.hid (HB1.out.trans (HB.out.mono z1))
        have hz4 := B4.out.size
        obtain ⟨wo, rfl⟩ : ∃ wo : World, wo = wr := ⟨_, rfl⟩
        clear hm
        go_wp2_with fail
        go_loopw [12, 64] (fun v12 v64 wr => ∃ i : Nat, v64 = .int .i64 i ∧ i ≤ xs.length ∧ OwnI wr wo.heap.size v12 (clL xs level simes D i).length (clL xs level simes D i) ∧ Below wo.heap.size wo wr) (fun _ v64 _ => xs.length - (intOf v64).toNat)
        case atStart => exact ⟨0, rfl, by omega, OwnI.nil _ _, Below.refl _ _⟩
        case round =>
          obtain ⟨i, rfl, hi2, ht, hb2⟩ := hrel
          have HT := Lib.hid ht
          have HB2 := Lib.hid hb2
          have hz2 := hb2.size
          have sl := clL_len xs level simes D i
          by_cases hlt : i < xs.length
          · have s1 : clL xs level simes D (i + 1) = clL xs level simes D i ++ if okd xs level simes i D then [(i : Int)] else [] := rfl
            have mb := HMB.out i
            rw [bit_of] at mb
            have hdle : m / 2 ^ i ≤ m := Nat.div_le_self _ _
            have e1 : (m : Int) / 2 ^ i = ((m / 2 ^ i : Nat) : Int) := by simp
            obtain ⟨u, hu⟩ : ∃ u, m / 2 ^ i = u := ⟨_, rfl⟩
            rw [hu] at e1 mb hdle
            have e2 := and_one u (by omega)
            obtain ⟨S, hS⟩ : ∃ S, clL xs level simes D i = S := ⟨_, rfl⟩
            rw [hS] at s1 sl HT
            obtain ⟨r, hr⟩ : ∃ r, okd xs level simes i D = r := ⟨_, rfl⟩
            rw [hr] at s1 mb
            clear hS hu hr ht hb2
            have hu2 : u % 2 < 2 := Nat.mod_lt _ (by decide)
            cases r with
            | true =>
              have t0 : u % 2 = 0 := by
                have : ¬ u % 2 = 1 := by simpa using mb
                omega
              rw [if_pos rfl] at s1
              have S1 := Lib.hid s1
              clear s1 mb
              go_wp2_with (at_builtin; refine wpList_app1 rfl (.tmp 72) (.tmp 74) 22 rfl wo.heap.size 3 (.int .i64 0) 1 8 Try.underlying22 infoI rfl (by decide) (by decide) _ _ _ rfl (World.ownsRow.alloc HT.out _) ⟨_, 0, none⟩ 1 [.int .i64 _] rfl rfl (cell_one_new _ _ _) (by simp [Value.oneCell']) (by omega) (by simp; omega) ?_; intro g6 cap6 w6 o1 o2 o3)
              go_roundw
              case rel =>
                have e : (clL xs level simes D (i + 1)).length = S.length + 1 := by rw [S1.out]; simp
                exact ⟨i + 1, by go_num, by omega, by rw [e, S1.out]; exact OwnI.app o1, (HB2.out.alloc hz2 _).trans (Below.app (World.ownsRow.alloc HT.out _) (by simp; omega) o2)⟩
              case measure => simp [intOf]; omega
            | false =>
              have t0 : u % 2 = 1 := by simpa using mb
              rw [if_neg (by simp), List.append_nil] at s1
              have S1 := Lib.hid s1
              clear s1 mb
              go_wp2_with fail
              go_roundw
              case rel => exact ⟨i + 1, by go_num, by omega, by rw [S1.out]; exact HT.out, HB2.out⟩
              case measure => simp [intOf]; omega
          · have e : i = xs.length := by omega
            subst e
            clear ht
            go_wp2_with (go_at_call 76; refine (clipI_own wo.heap.size _ _ _ _ HT.out (by omega)).mono ?_; rintro e w9 ⟨v9, rfl, hm9, rfl⟩)
            go_ret
            exact ⟨_, rfl, hm9.mono hz4, B4.out.trans (HB2.out.mono hz4)⟩

set_option maxHeartbeats 1000000 in
theorem closedBy_any (b o c : Nat) (xs : List Int) (level : Int) (k : ByteArray) (ko : Option Bool) (hk : KindO k ko) (w : World) (h : RowI w b o xs) (hm : xs.length ≤ 1099511627776) :
    Calls Try.prog 40 #[.slice (some ⟨b, o, none⟩) xs.length c, .int .i64 level, .string k] w
      fun e w' => ∃ v, e = .returned v ∧ Mut 3 w' w.heap.size v (cbV xs level ko).length (ic (cbV xs level ko)) ∧ Below w.heap.size w w' := by
  have hnil : ∀ {w' : World}, cbV xs level ko = [] → Mut 3 w' w.heap.size (.slice none 0 0) (cbV xs level ko).length (ic (cbV xs level ko)) := fun e => by rw [e]; exact .inl ⟨rfl, rfl, rfl⟩
  cases hv : ovB xs with
  | false =>
    have H := Lib.hid h
    have e : cbV xs level ko = [] := by cases ko <;> simp [cbV, hv]
    have HN := Lib.hid (fun w' => hnil (w' := w') e)
    clear e hk hnil h
    go_enter Try.func40, Try.ntmps40
    go_wp2_with (go_at_call 43; refine (validOdds_any b o c xs _ H.out hm).mono ?_; rintro e w1 ⟨rfl, hb1⟩; rw [hv])
    go_ret
    exact ⟨_, rfl, HN.out _, hb1⟩
  | true =>
    cases hi : inB level 0 1000 with
    | false =>
      have H := Lib.hid h
      have e : cbV xs level ko = [] := by cases ko <;> simp [cbV, hv, hi]
      have HN := Lib.hid (fun w' => hnil (w' := w') e)
      clear e hk hnil h
      go_enter Try.func40, Try.ntmps40
      go_wp2_with (first
        | (go_at_call 43; refine (validOdds_any b o c xs _ H.out hm).mono ?_; rintro e w1 ⟨rfl, hb1⟩; rw [hv])
        | (go_at_call 56; refine (in_any _ _ _ _).mono ?_; rintro e w2 ⟨rfl, rfl⟩; rw [hi]))
      go_ret
      exact ⟨_, rfl, HN.out _, hb1⟩
    | true =>
      have hl := inB_iff.1 hi
      rcases hk with ⟨hk, rfl⟩ | ⟨hk, rfl⟩ | ⟨h1, h2, rfl⟩
      · have e : cbV xs level (some false) = clL xs level false (2 ^ xs.length - 1) xs.length := by simp [cbV, hv, hi]
        rw [e]
        exact closedBy_good b o c xs level k false true false (.inl ⟨rfl, rfl⟩) w h hm hv hi (by rw [hk]; rfl) (by rw [hk]; rfl) (fun b o c L w h h1 h6 hL => found_least b o c L level w h h1 h6 hL hl k hk)
      · have e : cbV xs level (some true) = clL xs level true (2 ^ xs.length - 1) xs.length := by simp [cbV, hv, hi]
        rw [e]
        exact closedBy_good b o c xs level k true false true (.inr ⟨rfl, rfl⟩) w h hm hv hi (by rw [hk]; rfl) (by rw [hk]; rfl) (fun b o c L w h h1 h6 hL => found_each b o c L level w h h1 h6 hL hl k hk)
      · have H := Lib.hid h
        have HN := Lib.hid (fun w' => hnil (w' := w') rfl)
        have t1 : (k.toList == [108, 101, 97, 115, 116]) = false := by rw [beq_eq_false_iff_ne]; exact h1
        have t2 : (k.toList == [101, 97, 99, 104]) = false := by rw [beq_eq_false_iff_ne]; exact h2
        clear hnil h1 h2 h
        go_enter Try.func40, Try.ntmps40
        go_wp2_with (first
          | (go_at_call 43; refine (validOdds_any b o c xs _ H.out hm).mono ?_; rintro e w1 ⟨rfl, hb1⟩; rw [hv])
          | (go_at_call 56; refine (in_any _ _ _ _).mono ?_; rintro e w2 ⟨rfl, rfl⟩; rw [hi]))
        go_ret
        exact ⟨_, rfl, HN.out _, hb1⟩

end Go.Proofs.Ytjkadlmlkcanpaa
