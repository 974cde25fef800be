/- spec.MiddlePieces. -/
import Derived.Test.YtfbccnameppikaaApart
import Derived.Test.YtfbccnameppikaaMidPieces
import Derived.Test.YtfbccnameppikaaTab
import Derived.Test.YtfbccnameppikaaAppF
import Derived.Test.YtfbccnameppikaaTail
import Derived.Deep.DeepCutAuto
import Derived.Deep.AppendLies
namespace Go.Proofs.Ytfbccnameppikaa
open Go.RowKit

/-- The reference's steps in whole numbers. -/
def mD (xs : List Int) (prev : Nat → Int) (e : Nat) : Nat → Int
  | 0 => prev e
  | d + 1 => min (mD xs prev e d) (prev (d + 1) + fmI (pc xs (d + 1) e))
def mN (xs : List Int) : Nat → Nat → Int
  | _, 0 => 0
  | 0, e + 1 => fmI (xs.take (e + 1))
  | p + 1, e + 1 => mD xs (mN xs p) (e + 1) e
theorem qd_add1 (a b : Int) : qd a 1 + qd b 1 = qd (a + b) 1 := by rw [qd_add _ _ _ _ (by omega) (by omega), qd_eq (by omega) (by omega)]; omega
theorem qd_lt1 {a b : Int} : qd a 1 < qd b 1 ↔ a < b := by rw [lt_iff, up_qd, up_qd, dn_qd, dn_qd]; omega
theorem mnR_qd (a b : Int) : mnR (qd a 1) (qd b 1) = qd (min a b) 1 := by
  unfold mnR
  by_cases h : b < a
  · rw [if_pos (qd_lt1.2 h), show min a b = b by omega]
  · rw [if_neg (fun h' => h (qd_lt1.1 h')), show min a b = a by omega]
theorem amD_qd {xs : List Int} {prev : Nat → Rat} {prevI : Nat → Int} (hp : ∀ e, prev e = qd (prevI e) 1) (e : Nat) : ∀ d, amD fmQ xs prev e d = qd (mD xs prevI e d) 1
  | 0 => hp e
  | d + 1 => by
    have hf : fmQ (pc xs (d + 1) e) = qd (fmI (pc xs (d + 1) e)) 1 := rfl
    rw [amD, mD, amD_qd hp e d, hp, hf, qd_add1, mnR_qd]
theorem amN_qd (xs : List Int) : ∀ p e, amN fmQ xs p e = qd (mN xs p e) 1
  | 0, 0 => by show (0 : Rat) = qd 0 1; unfold qd; simp
  | p + 1, 0 => by show (0 : Rat) = qd 0 1; unfold qd; simp
  | 0, e + 1 => rfl
  | p + 1, e + 1 => by rw [amN, mN]; exact amD_qd (amN_qd xs p) (e + 1) e
theorem mD_bd {xs : List Int} {prev : Nat → Int} {e : Nat} (h : ∀ j, j ≤ e → 0 ≤ prev j ∧ prev j ≤ 480) (hx : ∀ i, i < e → 0 ≤ fmI (pc xs i e) ∧ fmI (pc xs i e) ≤ 480) : ∀ d, d < e → 0 ≤ mD xs prev e d ∧ mD xs prev e d ≤ 480
  | 0, _ => h e (Nat.le_refl _)
  | d + 1, hd => by
    have ih := mD_bd h hx d (by omega)
    have h1 := h (d + 1) (by omega)
    have h2 := hx (d + 1) hd
    rw [mD]
    omega
theorem fm480 {xs : List Int} (hv : Rv xs) {i k : Nat} (hik : i < k) (hk : k ≤ xs.length) : 0 ≤ fmI (pc xs i k) ∧ fmI (pc xs i k) ≤ 480 := by
  have hl := pc_length (a := i) hk
  have := fmI_bd (l := pc xs i k) (by omega) (hv.x.pc i k)
  have := hv.n8
  omega
theorem mN_bd {xs : List Int} (hv : Rv xs) : ∀ p e, e ≤ xs.length → 0 ≤ mN xs p e ∧ mN xs p e ≤ 480
  | 0, 0, _ => by show (0 : Int) ≤ 0 ∧ (0 : Int) ≤ 480; omega
  | p + 1, 0, _ => by show (0 : Int) ≤ 0 ∧ (0 : Int) ≤ 480; omega
  | 0, e + 1, h => by
    have := fm480 hv (i := 0) (k := e + 1) (by omega) h
    rw [pc_zero] at this
    exact this
  | p + 1, e + 1, h => mD_bd (fun j hj => mN_bd hv p j (by omega)) (fun i hi => fm480 hv hi h) e (by omega)

def rI (xs : List Int) (p m : Nat) : List Int := tabI (fun e => mN xs p e) m
/-- The row under way. -/
def stI (xs : List Int) (p k : Nat) (v : Int) (e : Nat) : Int := if e < k then mN xs (p + 1) e else if e = k then v else mN xs p e
theorem tabI_congr {f g : Nat → Int} {m : Nat} (h : ∀ e, e < m → f e = g e) : tabI f m = tabI g m :=
  eq_of_gi (by rw [tabI_length, tabI_length]) fun k hk => by
    rw [tabI_length] at hk
    rw [gi_tabI hk, gi_tabI hk, h k hk]
theorem ic_setI {f : Nat → Int} {m k : Nat} (hk : k < m) (v : Int) : (ic (tabI f m)).set k (.int .i64 v) = ic (tabI (fun e => if e = k then v else f e) m) := by
  apply List.ext_getElem?
  intro j
  by_cases hj : j < m
  · rw [get_ic (xs := tabI (fun e => if e = k then v else f e) m) (k := j) (by rw [tabI_length]; exact hj), gi_tabI hj]
    by_cases e : j = k
    · subst e
      rw [List.getElem?_set_self (by rw [ic_length, tabI_length]; exact hj), if_pos rfl]
    · rw [List.getElem?_set_ne (fun h => e h.symm), get_ic (by rw [tabI_length]; exact hj), gi_tabI hj, if_neg e]
  · rw [List.getElem?_eq_none (by rw [List.length_set, ic_length, tabI_length]; omega), List.getElem?_eq_none (by rw [ic_length, tabI_length]; omega)]

set_option maxHeartbeats 8000000 in
theorem smiddle_main (b o c pn : Nat) (xs : List Int) (w : World) (h : RowI w b o xs) (hc : xs.length ≤ c) (hm : xs.length ≤ 1099511627776) (hv : Rv xs) (h1 : rvB xs = true) (hp1 : 1 ≤ pn) (hp8 : pn ≤ 8) :
    Calls Try.prog 21 #[.slice (some ⟨b, o, none⟩) xs.length c, .int .i64 pn] w fun e w' => e = .returned (.int .i64 (mN xs (pn - 1) xs.length)) ∧ Below w.heap.size w w' := by
  have n0 := hv.n0
  have n8 := hv.n8
  have H := Lib.hid h
  have CV := Lib.hid (fun w (h : RowI w b o xs) => h1 ▸ validSteps_any b o c xs w h hm)
  have h2 : inB (pn : Int) 1 8 = true := inB_iff.2 (by omega)
  have CI := Lib.hid (fun w => h2 ▸ inRange_any (pn : Int) 1 8 w)
  have MB := Lib.hid (fun p e (he : e ≤ xs.length) => mN_bd hv p e he)
  have FB := Lib.hid (fun i k (h1 : i < k) (h2 : k ≤ xs.length) => fm480 hv h1 h2)
  have CA := Lib.hid (fun i k v (h1 : i < k) (h2 : k ≤ xs.length) (hv' : fmI (pc xs i k) = v) w (h : RowI w b o xs) => apartOf_any b o c i k xs v w h h1 h2 hc n8 hv.x hv')
  obtain ⟨i0, ii0, ii1, ii2, ii3⟩ := info_parts infoI
  have I0 := Lib.hid ii0
  have I1 := Lib.hid ii1
  have I2 := Lib.hid ii2
  have I3 := Lib.hid ii3
  obtain ⟨n, hn⟩ : ∃ n, xs.length = n := ⟨_, rfl⟩
  rw [hn] at n0 n8 CV MB FB CA hc ⊢
  clear h hn hv h1 h2 hm ii0 ii1 ii2 ii3
  go_enter Try.func21, Try.ntmps21
  go_upto_region 5 with (first
    | (go_at_call 35; refine (CV.out _ (H.out.below (by (repeat' (first | (with_reducible exact Below.refl _ _) | (with_reducible assumption) | (with_reducible refine Below.drewN ?_ _) | (with_reducible refine Below.alloc ?_ ?_ _) | (with_reducible refine Below.drew ?_) | (with_reducible refine Below.setCell ?_ ?_ _) | (with_reducible refine Below.trans ?_ (Below.mono (by assumption) ?_)) | go_size | (with_reducible refine Nat.le_trans ?_ (Below.size (by assumption)))))))).mono ?_; rintro e w1 ⟨rfl, rfl⟩)
    | (go_at_call 36; refine (CI.out _).mono ?_; rintro e w2 ⟨rfl, rfl⟩))
  refine wp_abstract (fun W => OwnI W w.heap.size (.slice (some ⟨w.heap.size, 0, none⟩) 1 1) 1 (rI xs 0 1) ∧ Below w.heap.size w W) ⟨⟨rfl, .inr ⟨w.heap.size, 1, #[.int .i64 0], rfl, Nat.le_refl _, heap_alloc_new w _, Nat.le_refl _, by unfold maxLen; omega, rfl, rfl⟩⟩, below_alloc⟩ ?_
  rintro W ⟨ho, hb⟩
  have O := Lib.hid ho
  have B := Lib.hid hb
  clear ho hb
  go_wp2_with fail
  go_loopw [6, 7] (fun v6 v7 wr => ∃ k g6 cap6 : Nat, v7 = .int .i64 k ∧ 1 ≤ k ∧ k ≤ n + 1 ∧ v6 = .slice (some ⟨g6, 0, none⟩) k cap6 ∧ OwnI wr w.heap.size (.slice (some ⟨g6, 0, none⟩) k cap6) k (rI xs 0 k) ∧ Below w.heap.size w wr) (fun _ v7 _ => n + 1 - (intOf v7).toNat)
  case atStart => exact ⟨1, w.heap.size, 1, rfl, by omega, by omega, rfl, O.out, B.out⟩
  case round =>
    clear O B
    obtain ⟨N, g6, cap6, rfl, hk1, hk2, rfl, ho, hb⟩ := hrel
    have O := Lib.hid ho
    have B := Lib.hid hb
    have hz := hb.size
    have hg6 := (Blk.of_own ho).2
    clear ho hb
    by_cases hlt : N ≤ n
    · have e1 : rI xs 0 (N + 1) = rI xs 0 N ++ [fmI (pc xs 0 N)] := by
        obtain ⟨j, rfl⟩ : ∃ j, N = j + 1 := ⟨N - 1, by omega⟩
        unfold rI
        rw [tabI_succ, pc_zero]; rfl
      have fb := FB.out 0 N (by omega) hlt
      obtain ⟨v, hv⟩ : ∃ v, fmI (pc xs 0 N) = v := ⟨_, rfl⟩
      have CE := Lib.hid (CA.out 0 N v (by omega) hlt hv)
      rw [hv] at e1 fb
      have E1 := Lib.hid e1
      clear e1 hv
      go_wp2_with (first
        | (go_at_call 47; refine (CE.out _ (H.out.below B.out)).mono ?_; rintro e w5 ⟨rfl, hb5⟩; have hz5 := hb5.size; have O5 := Lib.hid (O.out.below hb5))
        | (at_builtin; refine wpList_app1 rfl (.tmp 28) (.tmp 32) 23 rfl w.heap.size 3 (.int .i64 0) 1 8 Try.underlying23 infoI rfl (by decide) (by decide) _ _ _ rfl (World.ownsRow.alloc O5.out _) ⟨_, 0, none⟩ 1 [.int .i64 v] rfl rfl (cell_one_new _ _ _) (by simp [Value.oneCell']) (by omega) (by simp; omega) ?_; intro g9 cap9 w9 o1 o2 o3))
      go_roundw
      case rel => exact ⟨N + 1, g9, cap9, by go_num, by omega, by omega, rfl, by rw [E1.out]; exact OwnI.app o1, ((B.out.trans (hb5.mono hz)).alloc (by omega) _).trans (Below.app (World.ownsRow.alloc O5.out _) (by simp; omega) o2)⟩
      case measure => simp [intOf]; omega
    · have hN1 : n + 1 ≤ N := by omega
      have K := Lib.hid (Blk.of_own O.out).1
      clear O
      go_wp2_with fail
      go_loopw [6, 8] (fun v6 v8 wr => ∃ p g6 cap6 : Nat, v8 = .int .i64 ((p + 2 : Nat) : Int) ∧ p + 1 ≤ pn ∧ v6 = .slice (some ⟨g6, 0, none⟩) N cap6 ∧ Blk wr g6 3 (ic (rI xs p N)) ∧ Below w.heap.size w wr) (fun _ v8 _ => pn + 2 - (intOf v8).toNat)
      case atStart => exact ⟨0, g6, cap6, rfl, hp1, rfl, K.out, B.out⟩
      case round =>
        clear K B hz hg6
        obtain ⟨p, g6, cap6, rfl, hpp, rfl, hk, hb⟩ := hrel
        have K := Lib.hid hk
        have B := Lib.hid hb
        have hz := hb.size
        have l6 := hk.lt
        by_cases hlp : p + 2 ≤ pn
        · obtain ⟨wo, hwo⟩ : ∃ wo : World, wo = wr := ⟨_, rfl⟩
          rw [← hwo] at K B hz l6 ⊢
          clear hwo hk hb
          have oe : OwnI (wo.alloc (.cells #[] 3)) wo.heap.size (.slice (some ⟨wo.heap.size, 0, none⟩) 0 0) 0 [] := World.ownsRow_made wo #[] 0 (Nat.le_refl _) (by unfold maxLen; omega) rfl
          have OE := Lib.hid oe
          have RN := Lib.hid ((K.out.below (show Below wo.heap.size wo (wo.alloc (.cells #[] 3)) from below_alloc)).row).cells
          have LN := Lib.hid (show (ic (rI xs p N)).length = N * 1 by rw [ic_length, Nat.mul_one]; exact tabI_length _ _)
          clear oe
          go_wp2_with (at_builtin; refine wpList_append_lies _ rfl (.tmp 39) (.tmp 40) 23 rfl wo.heap.size 3 i0 (.int .i64 0) 1 8 Try.underlying23 I0.out I1.out I2.out I3.out rfl (by decide) _ 0 [] rfl OE.out ⟨g6, 0, none⟩ N cap6 (ic (rI xs p N)) rfl LN.out RN.out ic_one (by omega) (by unfold maxLen; omega) (by omega) (by simp) _ rfl ?_; intro g9 cap9 w9 o1 o2 o3 o4)
          have hg9 : wo.heap.size ≤ g9 := by
            rcases o3 with h | h
            · have : wo.heap.size = g9 := Option.some.inj h
              omega
            · simp at h; omega
          have k9 : Blk w9 g9 3 (ic (rI xs p N)) := by
            have := (Blk.of_own o1).1
            rwa [List.nil_append] at this
          have B9 : Below wo.heap.size wo w9 := below_alloc.trans (Below.app OE.out (by simp) o2)
          have K9 := Lib.hid k9
          have B9 := Lib.hid B9
          have e0 : rI xs p N = tabI (fun e => if e < 1 then mN xs (p + 1) e else mN xs p e) N := tabI_congr fun e he => by
            by_cases h : e < 1
            · obtain rfl : e = 0 := by omega
              rw [if_pos h]
              cases p <;> rfl
            · rw [if_neg h]
          have E0 := Lib.hid e0
          clear o1 o2 o3 o4 OE RN LN k9 e0
          go_loopw [10] (fun v10 wr => ∃ k : Nat, v10 = .int .i64 k ∧ 1 ≤ k ∧ k ≤ N ∧ Blk wr g9 3 (ic (tabI (fun e => if e < k then mN xs (p + 1) e else mN xs p e) N)) ∧ Below wo.heap.size wo wr) (fun v10 _ => n + 1 - (intOf v10).toNat)
          case atStart => exact ⟨1, rfl, Nat.le_refl _, by omega, by rw [← E0.out]; exact K9.out, B9.out⟩
          case round =>
            clear K9 B9 E0
            obtain ⟨k, rfl, hk1, hk2, hk, hb⟩ := hrel
            have K9 := Lib.hid hk
            have B9 := Lib.hid hb
            have hz9 := hb.size
            clear hk hb
            by_cases hlt : k ≤ n
            · obtain ⟨w7, hw7⟩ : ∃ w7 : World, w7 = wr := ⟨_, rfl⟩
              rw [← hw7] at K9 B9 hz9 ⊢
              clear hw7
              have e1 : tabI (fun e => if e < k then mN xs (p + 1) e else mN xs p e) N = tabI (stI xs p k (mD xs (mN xs p) k (1 - 1))) N := tabI_congr fun e he => by
                unfold stI
                by_cases h : e < k
                · rw [if_pos h, if_pos h]
                · rw [if_neg h, if_neg h]
                  by_cases h2 : e = k
                  · subst h2; rw [if_pos rfl]; rfl
                  · rw [if_neg h2]
              have E1 := Lib.hid e1
              clear e1
              go_wp2_with fail
              go_loopw [11] (fun v11 wr => ∃ i : Nat, v11 = .int .i64 i ∧ 1 ≤ i ∧ i ≤ k ∧ Blk wr g9 3 (ic (tabI (stI xs p k (mD xs (mN xs p) k (i - 1))) N)) ∧ Below wo.heap.size wo wr) (fun v11 _ => n + 1 - (intOf v11).toNat)
              case atStart => exact ⟨1, rfl, Nat.le_refl _, hk1, by rw [← E1.out]; exact K9.out, B9.out⟩
              case round =>
                clear K9 B9 E1
                obtain ⟨i, rfl, hi1, hi2, hk, hb⟩ := hrel
                have K9 := Lib.hid hk
                have B9 := Lib.hid hb
                have hz9' := hb.size
                have l9 := hk.lt
                by_cases hlik : i < k
                · have fb := FB.out i k hlik hlt
                  have mb := MB.out p i (by omega)
                  have db := mD_bd (xs := xs) (prev := mN xs p) (e := k) (fun j hj => MB.out p j (by omega)) (fun j hj => FB.out j k hj hlt) (i - 1) (by omega)
                  have x1 := hk.cell (get_ic (xs := tabI (stI xs p k (mD xs (mN xs p) k (i - 1))) N) (k := k) (by rw [tabI_length]; omega))
                  rw [gi_tabI (by omega), stI, if_neg (Nat.lt_irrefl k), if_pos rfl] at x1
                  have f1 := hk.frozen k
                  have k6 := K.out.below hb
                  have x2 := k6.cell (get_ic (xs := rI xs p N) (k := i) (by unfold rI; rw [tabI_length]; omega))
                  rw [show gi (rI xs p N) i = mN xs p i from gi_tabI (by omega)] at x2
                  have e1 : mD xs (mN xs p) k (i + 1 - 1) = min (mD xs (mN xs p) k (i - 1)) (mN xs p i + fmI (pc xs i k)) := by
                    obtain ⟨d, rfl⟩ : ∃ d, i = d + 1 := ⟨i - 1, by omega⟩
                    rfl
                  obtain ⟨v, hv⟩ : ∃ v, fmI (pc xs i k) = v := ⟨_, rfl⟩
                  have CE := Lib.hid (CA.out i k v hlik hlt hv)
                  rw [hv] at fb e1
                  obtain ⟨a, ha⟩ : ∃ a, mN xs p i = a := ⟨_, rfl⟩
                  rw [ha] at mb x2 e1
                  obtain ⟨d, hd⟩ : ∃ d, mD xs (mN xs p) k (i - 1) = d := ⟨_, rfl⟩
                  rw [hd] at db x1 e1 K9
                  obtain ⟨r, hr⟩ : ∃ r, min d (a + v) = r := ⟨_, rfl⟩
                  rw [hr] at e1
                  have q1 : IntKind.i64.wrap (a + v) = a + v := IntWalk.i64_in _ (by omega)
                  have hrb : 0 ≤ r ∧ r ≤ 480 := by omega
                  have q9 : (k : Int) < (N : Int) := by omega
                  have q8 : (i : Int) < (N : Int) := by omega
                  have E1 := Lib.hid e1
                  have HR := Lib.hid hr
                  have RB := Lib.hid (H.out.below (B.out.trans (hb.mono hz)))
                  clear hk hb k6 e1 hv ha hd hr fb mb db
                  go_upto_region 19 with fail
                  obtain ⟨ι, W, hW0, hWm, hWb⟩ := good_worlds wr
                  have hWn : Nonempty ι := hW0.elim fun i _ => ⟨i⟩
                  have z1 : ∀ j, (W j).cell? ⟨g9, k, none⟩ = some (.int .i64 d) := fun j => keepC (hWb j) x1
                  have z2 : ∀ j, (W j).cell? ⟨g6, i, none⟩ = some (.int .i64 a) := fun j => keepC (hWb j) x2
                  have z3 : ∀ j, (W j).frozen? ⟨g9, k, none⟩ = false := fun j => keepF (hWb j) l9 f1
                  (refine region_quiet_tail (C := fun w' => ∃ i, w' = W i) 17 (by kernel_rfl) (by kernel_rfl) hW0 ?_; simp only [List.take_succ_cons, List.take_zero, List.drop_succ_cons, List.drop_zero]; (repeat (go_big_quiet_step ((go_at_call 47; exact (CE.out _ (RB.out.below (hWb _))).mono fun e w'' h => ⟨h.1, hWm _ _ h.2⟩)))); refine wpQuiet_nil ?_; rintro _ ⟨iw, rfl⟩)
                  have zl : ∀ j, g9 < (W j).heap.size := fun j => Nat.lt_of_lt_of_le l9 (hWb j).size
                  have hr' := HR.out
                  go_wp2_with fail
                  clear hr'
                  go_roundw
                  case rel =>
                    refine ⟨i + 1, by go_num, by omega, by omega, ?_, (B9.out.trans ((hWb iw).mono hz9')).setCell hg9 _⟩
                    rw [E1.out]
                    have := (K9.out.below (hWb iw)).set k (.int .i64 r)
                    rw [ic_setI (by omega)] at this
                    have e : tabI (fun e => if e = k then r else stI xs p k d e) N = tabI (stI xs p k r) N := tabI_congr fun e he => by
                      unfold stI
                      by_cases h : e = k
                      · subst h; rw [if_pos rfl, if_neg (Nat.lt_irrefl _), if_pos rfl]
                      · rw [if_neg h]
                        by_cases h2 : e < k
                        · rw [if_pos h2, if_pos h2]
                        · rw [if_neg h2, if_neg h2, if_neg h, if_neg h]
                    rw [e] at this
                    first
                      | exact this
                      | (have hr := HR.out; rw [hr]; exact this)
                  case measure => simp [intOf]; omega
                · have hik : i = k := by omega
                  rw [hik] at K9
                  have e1 : tabI (stI xs p k (mD xs (mN xs p) k (k - 1))) N = tabI (fun e => if e < k + 1 then mN xs (p + 1) e else mN xs p e) N := tabI_congr fun e he => by
                    unfold stI
                    by_cases h : e < k
                    · rw [if_pos h, if_pos (by omega)]
                    · rw [if_neg h]
                      by_cases h2 : e = k
                      · subst h2
                        rw [if_pos rfl, if_pos (by omega)]
                        obtain ⟨d, rfl⟩ : ∃ d, e = d + 1 := ⟨e - 1, by omega⟩
                        rfl
                      · rw [if_neg h2, if_neg (by omega)]
                  have E1 := Lib.hid e1
                  clear e1 hik hk
                  go_wp2_with fail
                  go_roundw
                  case rel => exact ⟨k + 1, by go_num, by omega, by omega, by rw [← E1.out]; exact K9.out, B9.out⟩
                  case measure => simp [intOf]; omega
            · have hkn : k = N := by omega
              rw [hkn] at K9
              have e1 : tabI (fun e => if e < N then mN xs (p + 1) e else mN xs p e) N = rI xs (p + 1) N := tabI_congr fun e he => if_pos he
              rw [e1] at K9
              clear e1 hkn
              go_wp2_with fail
              go_roundw
              case rel => exact ⟨p + 1, g9, cap9, by go_num, by omega, rfl, K9.out, B.out.trans (B9.out.mono hz)⟩
              case measure => simp [intOf]; omega
        · have hpn : p = pn - 1 := by omega
          have x1 := hk.cell (get_ic (xs := rI xs p N) (k := n) (by unfold rI; rw [tabI_length]; omega))
          rw [show gi (rI xs p N) n = mN xs p n from gi_tabI (by omega), hpn] at x1
          obtain ⟨v, hv⟩ : ∃ v, mN xs (pn - 1) n = v := ⟨_, rfl⟩
          rw [hv] at x1
          have HV := Lib.hid hv
          clear hk hpn hv K
          go_wp2_with fail
          go_ret
          exact ⟨by rw [HV.out]; rfl, hb⟩


theorem mp_eq {xs : List Int} {p : Int} (h : (rvB xs && inB p 1 8) = true) : mpV xs p = mN xs (p - 1).toNat xs.length := by
  simp only [mpV, h]
  rw [if_pos trivial, amN_qd, up_qd]

set_option maxHeartbeats 1000000 in
theorem smiddlePieces_any (b o c : Nat) (xs : List Int) (p : Int) (w : World) (h : RowI w b o xs) (hc : xs.length ≤ c) (hm : xs.length ≤ 1099511627776) :
    Calls Try.prog 21 #[.slice (some ⟨b, o, none⟩) xs.length c, .int .i64 p] w fun e w' => e = .returned (.int .i64 (mpV xs p)) ∧ Below w.heap.size w w' := by
  cases h1 : rvB xs with
  | false =>
    have H := Lib.hid h
    have CV := Lib.hid (fun w (h : RowI w b o xs) => h1 ▸ validSteps_any b o c xs w h hm)
    have e1 : mpV xs p = -1 := by simp [mpV, h1]
    rw [e1]
    clear e1 h1 h
    go_enter Try.func21, Try.ntmps21
    go_wp2_with (go_at_call 35; refine (CV.out _ (H.out.below (by (repeat' (first | (with_reducible exact Below.refl _ _) | (with_reducible assumption) | (with_reducible refine Below.drewN ?_ _) | (with_reducible refine Below.alloc ?_ ?_ _) | (with_reducible refine Below.drew ?_) | (with_reducible refine Below.setCell ?_ ?_ _) | (with_reducible refine Below.trans ?_ (Below.mono (by assumption) ?_)) | go_size | (with_reducible refine Nat.le_trans ?_ (Below.size (by assumption)))))))).mono ?_; rintro e w1 ⟨rfl, rfl⟩)
    go_ret
    exact ⟨rfl, by (repeat' (first | (with_reducible exact Below.refl _ _) | (with_reducible assumption) | (with_reducible refine Below.drewN ?_ _) | (with_reducible refine Below.alloc ?_ ?_ _) | (with_reducible refine Below.drew ?_) | (with_reducible refine Below.setCell ?_ ?_ _) | (with_reducible refine Below.trans ?_ (Below.mono (by assumption) ?_)) | go_size | (with_reducible refine Nat.le_trans ?_ (Below.size (by assumption)))))⟩
  | true =>
    cases h2 : inB p 1 8 with
    | false =>
      have H := Lib.hid h
      have CV := Lib.hid (fun w (h : RowI w b o xs) => h1 ▸ validSteps_any b o c xs w h hm)
      have CI := Lib.hid (fun w => h2 ▸ inRange_any p 1 8 w)
      have e1 : mpV xs p = -1 := by simp [mpV, h2]
      rw [e1]
      clear e1 h1 h2 h
      go_enter Try.func21, Try.ntmps21
      go_wp2_with (first | (go_at_call 35; refine (CV.out _ (H.out.below (by (repeat' (first | (with_reducible exact Below.refl _ _) | (with_reducible assumption) | (with_reducible refine Below.drewN ?_ _) | (with_reducible refine Below.alloc ?_ ?_ _) | (with_reducible refine Below.drew ?_) | (with_reducible refine Below.setCell ?_ ?_ _) | (with_reducible refine Below.trans ?_ (Below.mono (by assumption) ?_)) | go_size | (with_reducible refine Nat.le_trans ?_ (Below.size (by assumption)))))))).mono ?_; rintro e w1 ⟨rfl, rfl⟩) | (go_at_call 36; refine (CI.out _).mono ?_; rintro e w2 ⟨rfl, rfl⟩))
      go_ret
      exact ⟨rfl, by (repeat' (first | (with_reducible exact Below.refl _ _) | (with_reducible assumption) | (with_reducible refine Below.drewN ?_ _) | (with_reducible refine Below.alloc ?_ ?_ _) | (with_reducible refine Below.drew ?_) | (with_reducible refine Below.setCell ?_ ?_ _) | (with_reducible refine Below.trans ?_ (Below.mono (by assumption) ?_)) | go_size | (with_reducible refine Nat.le_trans ?_ (Below.size (by assumption)))))⟩
    | true =>
      have hp := inB_iff.1 h2
      obtain ⟨pn, rfl⟩ : ∃ pn : Nat, p = pn := ⟨p.toNat, by omega⟩
      rw [mp_eq (by rw [h1, h2]; rfl), show ((pn : Int) - 1).toNat = pn - 1 by omega]
      exact smiddle_main b o c pn xs w h hc hm (rv_of h1) h1 (by omega) (by omega)

end Go.Proofs.Ytfbccnameppikaa
